/- Chapter 15's laws: sure, KinBridges. -/
import Derived.Test.YtdplphhlclhmfaaDoorKiN
import Derived.Test.YtdplphhlclhmfaaDoorKiL
namespace Go.Proofs.YtdplphhlclhmfaaDoor
open Go Go.RowKit
set_option linter.unusedVariables false
set_option linter.unusedSimpArgs false
set_option maxRecDepth 100000

theorem one_cells {w : World} {b : Nat} {l : List Nat} {t : TypeId} (h : Blk w b (nats l).toArray t) : Rd w (some ⟨b, 0, none⟩) (nats l) := .inr ⟨b, 0, rfl, fun i _ => by rw [Nat.zero_add, h.cell, List.getElem?_toArray]⟩
set_option maxHeartbeats 4000000 in
theorem sure15 (w : World) : Calls Tryd.prog 31 #[] w (TruePost w) := by
  unfold TruePost
  go_enter Tryd.func31, Tryd.ntmps31
  go_wp2_with fail
  refine (tnew 2 2 w (by decide) (by decide) (by decide) (by decide)).mono ?_
  rintro e w1 ⟨p, own, rfl, ht, hge, hk1⟩
  have H1 := Lib.hid (And.intro ht (And.intro hge hk1))
  have hg1 := Good.new 2 2
  have hl := Lib.hid (tlay ht hg1 0 (0, -1) (1, -1))
  have e1 : layErr 2 (List.replicate 2 []) 0 (0, -1) (1, -1) = 0 := by decide
  have e2 : lay 2 (List.replicate 2 []) 0 (0, -1) (1, -1) = [[0], [1]] := by decide
  have hg2 := hg1.lay 0 (0, -1) (1, -1)
  rw [e2] at hg2
  rw [e1, e2, errVal_zero] at hl
  clear ht hge hk1 e1 e2
  unfold tptr cval TPost at *
  go_wp2_with fail
  refine hl.out.mono ?_
  rintro e w2 ⟨rfl, ht2, hk2⟩
  have H2 := Lib.hid (And.intro ht2 (H1.out.2.2.thin hk2 H1.out.2.1))
  have HBR := Lib.hid (kbridges ht2 hg2)
  have e3 : brl [[0], [1]] 2 = [0] := by decide
  rw [e3] at HBR
  have HGE : Hid (∀ k, own k → w.heap.size ≤ k) := Lib.hid fun k q => H1.out.2.1 k q
  clear hl ht2 hk2 e3 H1
  unfold OwnPost tptr at HBR
  go_wp2_with fail
  with_reducible refine HBR.out.mono ?_
  rintro e w3 ⟨v3, rfl, ho, hk3⟩
  obtain ⟨a3, c3, rfl, hrd, _⟩ := Rd.of_own ho
  have HK3 := Lib.hid (H2.out.2.trans' hk3)
  have HT3 := Lib.hid (H2.out.1.keep hk3)
  have HI := Lib.hid (ints15_eq a3 (some ⟨w3.heap.size, 0, none⟩) c3 1 1 [0] rfl (by decide) (w3.alloc (.cells #[.int .i64 0] 3)) (hrd.keep ((Keeps.refl _ _).alloc _)) (one_cells (l := [0]) (Blk.new w3 _ _)))
  clear ho hk3 hrd HBR H2
  unfold TruePost at HI
  go_wp2_with fail
  with_reducible refine HI.out.mono ?_
  rintro e w5 ⟨rfl, hk5⟩
  have hka : Keeps (fun _ => False) w3 w5 := ((Keeps.refl _ _).alloc _).trans' hk5
  have HK5 := Lib.hid (HK3.out.trans' hka)
  have ht5 := HT3.out.keep hka
  have hl := Lib.hid (tlay ht5 hg2 1 (0, 0) (1, 1))
  have e1 : layErr 2 [[0], [1]] 1 (0, 0) (1, 1) = 0 := by decide
  have e2 : lay 2 [[0], [1]] 1 (0, 0) (1, 1) = [[0, 2], [1, 3]] := by decide
  have hg3 := hg2.lay 1 (0, 0) (1, 1)
  rw [e2] at hg3
  rw [e1, e2, errVal_zero] at hl
  clear hk5 hka ht5 e1 e2 HI HK3 HT3
  unfold tptr cval TPost at hl
  go_wp2_with fail
  refine hl.out.mono ?_
  rintro e w6 ⟨rfl, ht6, hk6⟩
  have HK6 := Lib.hid (HK5.out.thin hk6 HGE.out)
  have HBR := Lib.hid (kbridges ht6 hg3)
  have e3 : brl [[0, 2], [1, 3]] 2 = [] := by decide
  rw [e3] at HBR
  clear hl ht6 hk6 e3 HK5
  unfold OwnPost tptr at HBR
  go_wp2_with fail
  with_reducible refine HBR.out.mono ?_
  rintro e w7 ⟨v7, rfl, ho, hk7⟩
  obtain ⟨a7, c7, rfl, _, _⟩ := Rd.of_own ho
  have HK7 := Lib.hid (HK6.out.trans' hk7)
  clear ho hk7 HBR HK6
  go_wp2_with fail
  go_ret
  exact ⟨rfl, HK7.out⟩
set_option maxHeartbeats 4000000 in
theorem kinBridges_walk (n : Int) (a : Option Addr) (c : Nat) (ls : List Act10) (e : Int) (w : World) (hE : ErrT w) (hz : Rd w a (actsV ls)) (hzl : ls.length ≤ 9223372036854775807) :
    Calls Tryd.prog 6 #[.int .i64 n, .slice a ls.length c, .int .i64 e] w (TruePost w) := by
  have HM := Lib.hid (made15 n a c ls w hE hz hzl)
  have HER : Hid (∀ W, Keeps (fun _ => False) w W → ErrT W) := Lib.hid fun W hk => hE.kept hk id
  clear hE hz
  have HSU := Lib.hid (fun W => sure15 W)
  unfold TruePost at HSU
  unfold MadePost tptr rval at HM
  unfold TruePost
  go_enter Tryd.func6, Tryd.ntmps6
  go_wp2_with fail
  with_reducible refine HM.out.mono ?_
  rintro e' w1 ⟨L, p, own, B, va, vc, rfl, hl1, hl6, hb⟩
  have hbx : BothAt w own p 8 B L (.slice va L.length vc) (w1.alloc (.cells #[.int .i64 8, .slice va L.length vc] 27)) := hb.keep ((Keeps.refl _ _).alloc _)
  have HB := Lib.hid hbx
  have HX : Hid (Blk (w1.alloc (.cells #[.int .i64 8, .slice va L.length vc] 27)) w1.heap.size #[.int .i64 8, .slice va L.length vc] 27) := Lib.hid (Blk.new _ _ _)
  clear hb hbx HM
  go_upto_region 2 with fail
  generalize w1.alloc _ = w2 at *
  generalize w1.heap.size = bx at *
  have h8 : ((8 : Nat) : Int) = 8 := rfl
  have HNI := Lib.hid (kbridge_nil (w := w2) e)
  have HN1 : Hid (∀ W, Keeps (fun _ => False) w2 W → Calls Tryd.prog 27 #[errno 1] W (NumPost (1 : Nat) W)) := Lib.hid fun W hk => num15_val 1 W (HER.out W (HB.out.kp.trans' hk))
  have HNU : Hid (∀ W (k : Nat), k ≠ 0 → Keeps (fun _ => False) w2 W → Calls Tryd.prog 27 #[.iface 87 (.int .i64 k)] W (NumPost k W)) := Lib.hid fun W k h0 hk => by
    have := num15_val k W (HER.out W (HB.out.kp.trans' hk))
    rwa [errVal_pos h0] at this
  have HBS := Lib.hid (fun W (hk : Keeps (fun _ => False) w2 W) => kbridges (HB.out.tu.keep hk) HB.out.good)
  have HRS : Hid (∀ W, Keeps (fun _ => False) w2 W → Calls Tryd.prog 30 #[.agg #[.int .i64 8, .slice va L.length vc]] W (OwnPost (brl L 8) W)) := Lib.hid fun W hk => rbridges (HB.out.ls.keep hk) HB.out.good hl1 (by omega) (by decide)
  have hbl : (brl L 8).length ≤ 8 := by unfold brl; exact Nat.le_trans (List.length_filter_le _ _) (by simp)
  have HKW := Lib.hid HB.out.kp
  -- what Bridge tells
  have HBI := Lib.hid (kbridge HB.out.tu HB.out.good e)
  have HBK : Hid (∀ W, Keeps (fun _ => False) w2 W → Calls Tryd.prog 26 #[.pointer (some ⟨p, 0, none⟩), .int .i64 e] W (fun e' w' => e' = .returned (.tuple #[.bool (decide (liftErr 8 L e = 0 ∧ e.toNat ∈ brl L 8)), errVal (liftErr 8 L e)]) ∧ Keeps (fun _ => False) W w')) := Lib.hid fun W hk => kbridge (HB.out.tu.keep hk) HB.out.good e
  have HFD : Hid (∀ W, Keeps (fun _ => False) w2 W → ∀ d : Int, Calls Tryd.prog 32 #[.agg #[.int .i64 8, .slice va L.length vc], .int .i64 d] W (fun e' w' => e' = .returned (.tuple #[.int .i64 (fndV L d), .int .i64 (fndI L d)]) ∧ Keeps (fun _ => False) W w')) := Lib.hid fun W hk d => rfind (HB.out.ls.keep hk) HB.out.good.toWF hl1 (by omega) (by decide) d
  have HRB : Hid (∀ W, Keeps (fun _ => False) w2 W → ∀ k : Nat, Stands L (2 * k) → Calls Tryd.prog 33 #[.agg #[.int .i64 8, .slice va L.length vc], .int .i64 (k : Int)] W (fun e' w' => e' = .returned (.bool (isBr L 8 k)) ∧ Keeps (fun _ => False) W w')) := Lib.hid fun W hk k hs => rbridge (HB.out.ls.keep hk) HB.out.good hl1 (by omega) (by decide) hs
  have HLE : Hid ((e < 0 ∨ 7 < e) → liftErr 8 L e = 12) := Lib.hid fun q => by unfold liftErr; rw [if_pos (by omega)]
  have HLS : Hid (∀ k : Nat, k < 8 → Stands L (2 * k) → liftErr 8 L (k : Int) = 0 ∧ 0 ≤ fndV L (2 * (k : Int)) ∧ decide (liftErr 8 L (k : Int) = 0 ∧ (k : Int).toNat ∈ brl L 8) = isBr L 8 k) := Lib.hid fun k hk hs => by
    have hle : liftErr 8 L (k : Int) = 0 := by unfold liftErr; rw [if_neg (by omega), Int.toNat_natCast, if_pos hs]
    refine ⟨hle, ?_, ?_⟩
    · have := (fndV_at HB.out.good.toWF hs).1
      rw [show 2 * (k : Int) = ((2 * k : Nat) : Int) by omega, this]; omega
    · rw [hle, Bool.eq_iff_iff, decide_eq_true_iff, Int.toNat_natCast]
      unfold brl
      rw [List.mem_filter, List.mem_range]
      exact ⟨fun q => q.2.2, fun q => ⟨rfl, hk, q⟩⟩
  have HLN : Hid (∀ k : Nat, k < 8 → ¬ Stands L (2 * k) → liftErr 8 L (k : Int) = 13 ∧ fndV L (2 * (k : Int)) = -1) := Lib.hid fun k hk hs => by
    refine ⟨by unfold liftErr; rw [if_neg (by omega), Int.toNat_natCast, if_neg hs], ?_⟩
    rw [show 2 * (k : Int) = ((2 * k : Nat) : Int) by omega]
    unfold fndV
    rw [Int.toNat_natCast, if_neg fun q => hs q.2]
  obtain ⟨x0, x1, _, _, _⟩ := HX.out.cells
  unfold RetPost errno at HNI
  unfold OwnPost tptr at HBS
  unfold OwnPost at HRS
  unfold NumPost errno at HN1
  unfold NumPost at HNU
  have HX2 := HX
  clear HBI HER HB HX hl1 hl6
  generalize hbrl : brl L 8 = bl at *
  clear hbrl
  obtain ⟨ib, hib⟩ : ∃ ib, decide (liftErr 8 L e = 0 ∧ e.toNat ∈ bl) = ib := ⟨_, rfl⟩
  obtain ⟨ev, hev⟩ : ∃ ev, errVal (liftErr 8 L e) = ev := ⟨_, rfl⟩
  rw [hib, hev] at HBK
  have HIB := Lib.hid hib
  have HEV := Lib.hid hev
  clear hib hev
  go_wp2_with fail
  with_reducible refine HNI.out.mono ?_
  rintro e3 w3 ⟨rfl, hk3⟩
  have HK3 := Lib.hid hk3
  have y0 := hk3.cellF x0
  have y1 := hk3.cellF x1
  clear hk3 HNI
  go_wp2_with fail
  with_reducible refine (HBK.out _ HK3.out).mono ?_
  rintro e4 w4 ⟨rfl, hk4⟩
  have HK4 := Lib.hid (HK3.out.trans' hk4)
  have z0 := hk4.cellF y0
  have z1 := hk4.cellF y1
  clear hk4 HBK HK3 x0 x1 y0 y1
  go_upto_region 6 with fail
  go_cut [46] (fun t wd => t = .bool false ∧ Hid (Keeps (fun _ => False) w2 wd))
  case first =>
    have hK : Keeps (fun _ => False) w4 w4.drew := (Keeps.refl _ _).drew
    have HIN : Hid (∀ {W : World} {a1 a2 : Option Addr} {c1 c2 : Nat}, Rd W a1 (nats bl) → Rd W a2 (nats bl) → Calls Tryd.prog 28 #[.slice a1 bl.length c1, .slice a2 bl.length c2] W (fun e' w' => e' = .returned (.bool true) ∧ Keeps (fun _ => False) W w')) := Lib.hid fun h1 h2 => ints15_eq _ _ _ _ _ bl rfl (by omega) _ h1 h2
    clear HIB HEV HLE HLS HLN HRB HFD HSU HNU HKW
    go_region_held3 (fun w' => w'.cell? ⟨bx, 0, none⟩ = some (.int .i64 8) ∧ w'.cell? ⟨bx, 1, none⟩ = some (.slice va L.length vc))
      (first | exact ⟨hK.cellF z0, hK.cellF z1⟩ | fail)
      (first
        | (go_at_call 27; have hKK := HK4.out.trans' hK; with_reducible refine (HN1.out _ hKK).mono ?_; rintro e5 w5 ⟨rfl, hk5⟩; have hK : Keeps (fun _ => False) w4 w5 := hK.trans' hk5)
        | (go_at_call 29; have hKK := HK4.out.trans' hK; with_reducible refine (HBS.out _ hKK).mono ?_; rintro e6 w6 ⟨v6, rfl, ho6, hk6⟩; obtain ⟨a6, c6, rfl, hr6, _⟩ := Rd.of_own ho6; have HR6 := Lib.hid hr6; clear hr6 ho6; have hK : Keeps (fun _ => False) w4 w6 := hK.trans' hk6)
        | (go_at_call 30; have hKK := HK4.out.trans' hK; with_reducible refine (HRS.out _ hKK).mono ?_; rintro e7 w7 ⟨v7, rfl, ho7, hk7⟩; obtain ⟨a7, c7, rfl, hr7, _⟩ := Rd.of_own ho7; have HR7 := Lib.hid (And.intro hr7 (HR6.out.keep hk7)); clear hr7 ho7; have hK : Keeps (fun _ => False) w4 w7 := hK.trans' hk7)
        | (go_at_call 28; with_reducible refine (HIN.out HR7.out.2 HR7.out.1).mono ?_; rintro e8 w8 ⟨rfl, hk8⟩; have hK : Keeps (fun _ => False) w4 w8 := hK.trans' hk8)
        | fail)
    all_goals
      go_wp2_with fail
      go_meet
      exact ⟨rfl, Lib.hid (HK4.out.trans' hK)⟩
  case rest =>
    obtain ⟨rfl, HK5⟩ := hcut
    have y0 := (HX2.out.kept HK5.out id).cells.1
    have y1 := (HX2.out.kept HK5.out id).cells.2.1
    clear HK4 z0 z1 HBS HRS HN1 hbl
    by_cases h1 : e < 0 ∨ 7 < e
    · have hle := HLE.out h1
      rw [hle] at HEV HIB
      obtain rfl : ev = .iface 87 (.int .i64 12) := by rw [← HEV.out, errVal_pos (by decide)]; rfl
      obtain rfl : ib = false := by rw [← HIB.out]; simp
      have HN12 : Hid (Calls Tryd.prog 27 #[.iface 87 (.int .i64 12)] wc (fun e' w' => e' = .returned (.int .i64 12) ∧ Keeps (fun _ => False) wc w')) := Lib.hid (HNU.out wc 12 (by decide) HK5.out)
      clear HEV HIB hle HLS HLN HRB HFD HNU HLE
      have hor : decide (e < 0) = true ∨ decide (e < 0) = false ∧ decide (7 < e) = true := by
        by_cases q : e < 0
        · exact Or.inl (decide_eq_true q)
        · exact Or.inr ⟨decide_eq_false q, decide_eq_true (by omega)⟩
      clear h1
      rcases hor with h1 | ⟨h1, h2⟩
      all_goals
        go_wp2_with fail
        with_reducible refine HN12.out.mono ?_
        rintro e6 w6 ⟨rfl, hk6⟩
        have HK6 := Lib.hid (HK5.out.trans' hk6)
        clear hk6 HN12
        go_wp2_with fail
        with_reducible refine (HSU.out _).mono ?_
        rintro e7 w7 ⟨rfl, hk7⟩
        have HF := Lib.hid (HKW.out.trans' (HK6.out.trans' hk7))
        clear hk7
        go_wp2_with fail
        go_ret
        exact ⟨rfl, HF.out⟩
    · obtain ⟨k, rfl⟩ := Int.eq_ofNat_of_zero_le (show 0 ≤ e by omega)
      have hk8 : k < 8 := by omega
      have h2 : decide ((k : Int) < 0) = false := decide_eq_false (by omega)
      have h3 : decide (7 < (k : Int)) = false := decide_eq_false (by omega)
      have hw2 : wrap64 (2 * (k : Int)) = 2 * (k : Int) := by unfold wrap64; omega
      clear h1 HLE
      by_cases hs : Stands L (2 * k)
      · obtain ⟨q1, q2, q3⟩ := HLS.out k hk8 hs
        rw [q1] at HEV
        obtain rfl : ev = .nilIface := by rw [← HEV.out]; rfl
        have hib : isBr L 8 k = ib := by rw [← q3]; exact HIB.out
        have HFN := Lib.hid (HFD.out wc HK5.out (2 * (k : Int)))
        have HRN : Hid (∀ W, Keeps (fun _ => False) w2 W → Calls Tryd.prog 33 #[.agg #[.int .i64 8, .slice va L.length vc], .int .i64 (k : Int)] W (fun e' w' => e' = .returned (.bool ib) ∧ Keeps (fun _ => False) W w')) := Lib.hid fun W hk => by
          have := HRB.out W hk k hs
          rwa [hib] at this
        have hnf : decide (fndV L (2 * (k : Int)) < 0) = false := decide_eq_false (by omega)
        clear HEV HIB HLS HLN HRB HFD HNU q1 q2 q3 hib hs hk8
        generalize fndV L (2 * (k : Int)) = fv at *
        generalize fndI L (2 * (k : Int)) = fi at *
        go_wp2_with fail
        with_reducible refine HFN.out.mono ?_
        rintro e6 w6 ⟨rfl, hk6⟩
        have HK6 := Lib.hid (HK5.out.trans' hk6)
        have z0 := hk6.cellF y0
        have z1 := hk6.cellF y1
        clear hk6 HFN y0 y1
        go_wp2_with fail
        with_reducible refine (HRN.out _ HK6.out).mono ?_
        rintro e7 w7 ⟨rfl, hk7⟩
        have HK7 := Lib.hid (HK6.out.trans' hk7)
        clear hk7 HRN z0 z1
        go_wp2_with fail
        with_reducible refine (HSU.out _).mono ?_
        rintro e8 w8 ⟨rfl, hk8⟩
        have HF := Lib.hid (HKW.out.trans' (HK7.out.trans' hk8))
        clear hk8
        go_wp2_with fail
        go_ret
        exact ⟨rfl, HF.out⟩
      · obtain ⟨q1, q2⟩ := HLN.out k hk8 hs
        rw [q1] at HEV HIB
        obtain rfl : ev = .iface 87 (.int .i64 13) := by rw [← HEV.out, errVal_pos (by decide)]; rfl
        obtain rfl : ib = false := by rw [← HIB.out]; simp
        have HFN := Lib.hid (HFD.out wc HK5.out (2 * (k : Int)))
        rw [q2] at HFN
        have HN13 : Hid (∀ W, Keeps (fun _ => False) w2 W → Calls Tryd.prog 27 #[.iface 87 (.int .i64 13)] W (fun e' w' => e' = .returned (.int .i64 13) ∧ Keeps (fun _ => False) W w')) := Lib.hid fun W hk => HNU.out W 13 (by decide) hk
        clear HEV HIB HLS HLN HRB HFD HNU q1 q2 hs hk8
        generalize fndI L (2 * (k : Int)) = fi at *
        go_wp2_with fail
        with_reducible refine HFN.out.mono ?_
        rintro e6 w6 ⟨rfl, hk6⟩
        have HK6 := Lib.hid (HK5.out.trans' hk6)
        clear hk6 HFN y0 y1
        go_wp2_with fail
        with_reducible refine (HN13.out _ HK6.out).mono ?_
        rintro e7 w7 ⟨rfl, hk7⟩
        have HK7 := Lib.hid (HK6.out.trans' hk7)
        clear hk7 HN13
        go_wp2_with fail
        with_reducible refine (HSU.out _).mono ?_
        rintro e8 w8 ⟨rfl, hk8⟩
        have HF := Lib.hid (HKW.out.trans' (HK7.out.trans' hk8))
        clear hk8
        go_wp2_with fail
        go_ret
        exact ⟨rfl, HF.out⟩
theorem kinBridges_enter (W : World) (hE : ErrT W) (n : Int) (_ : (Lit.int .i64 n).wf = true) (a : Option Addr) (c : Nat) (ls : List Act10) (hr : Rd W a (ls.flatMap actCells)) (hl : ls.length ≤ 9223372036854775807) (e : Int) (_ : (Lit.int .i64 e).wf = true) :
    Calls Tryd.prog 6 #[.int .i64 n, .slice a ls.length c, .int .i64 e] W (TruePost W) := kinBridges_walk n a c ls e W hE hr hl
end Go.Proofs.YtdplphhlclhmfaaDoor
