/- Chapter 15's laws: KinGroups. -/
import Derived.Test.YtdplphhlclhmfaaDoorKnF
import Derived.Test.YtdplphhlclhmfaaDoorKiO
namespace Go.Proofs.YtdplphhlclhmfaaDoor
open Go Go.RowKit
set_option linter.unusedVariables false
set_option linter.unusedSimpArgs false
set_option maxRecDepth 100000

section
variable {w : World}
theorem kgroups_nil : Calls Tryd.prog 34 #[.pointer none] w (fun e w' => ∃ fb, e = .returned (.slice (some ⟨fb, 0, none⟩) 0 0) ∧ Keeps (fun _ => False) w w') := by
  have HS := Lib.hid (nsizes (w := w))
  obtain ⟨ib, hib, hb0, hb1, hb2⟩ := info_parts infoI
  have hmkI : ∀ W, (Instr.makeSlice 23 (.int .i64 0) (.int .i64 0)).run Tryd.prog W = .ok (.slice (some ⟨W.heap.size, 0, none⟩) 0 0) (W.alloc (.cells #[] 3)) := fun W => by
    have := run_make (P := Tryd.prog) W 23 3 ib _ Tryd.underlying23 hib hb0 .i64 .i64 0 0 (by omega) (Int.le_refl _) (by rw [hb2]; omega) (by omega)
    rw [this, hb1, show (Value.int .i64 0).cells = #[.int .i64 0] from rfl, show (0 : Int).toNat = 0 from rfl, Nat.zero_mul, madeCells_one]
    rfl
  clear hib hb0 hb1 hb2
  unfold RetPost at *
  go_enter Tryd.func34, Tryd.ntmps34
  go_wp2_with fail
  with_reducible refine HS.out.mono ?_
  rintro e w1 ⟨rfl, hk⟩
  have HK := Lib.hid (hk.alloc (.cells #[] 3))
  clear hk HS
  go_upto_region 4 with fail
  clear hmkI
  generalize World.alloc w1 _ = w2 at *
  generalize w1.heap.size = fb at *
  go_loopw [22] (fun i wr => i = .int .i64 0 ∧ wr = w2) (fun _ _ => 0)
  case atStart => exact ⟨rfl, rfl⟩
  case round =>
    obtain ⟨rfl, rfl⟩ := hrel
    go_upto_region 9 with fail
    go_loopw [32] (fun i wq => i = .int .i64 0 ∧ wq = wr) (fun _ _ => 0)
    case atStart => exact ⟨rfl, rfl⟩
    case round =>
      obtain ⟨rfl, hw⟩ := hrel
      subst hw
      go_wp2_with fail
      go_ret
      exact ⟨_, rfl, HK.out⟩
end
/-- What the road is, in each case. -/
def RoadIs (L : List (List Nat)) (u v : Int) (ra : Option Addr) (rn : Nat) (ev : Value) (w : World) : Prop :=
  ((u < 0 ∨ (L.length : Int) ≤ u ∨ v < 0 ∨ (L.length : Int) ≤ v) ∧ rn = 0 ∧ ev = .iface 87 (.int .i64 12)) ∨
  ∃ a b : Nat, u = (a : Int) ∧ v = (b : Int) ∧ a < L.length ∧ b < L.length ∧ ∃ f, FarOk L b f ∧
    (f.getD a 0 < 0 ∧ rn = 0 ∧ ev = .iface 87 (.int .i64 21) ∨
     0 ≤ f.getD a 0 ∧ rn = (roadL L f (f.getD a 0).toNat a).length ∧ ev = .nilIface ∧ Rd w ra (nats (roadL L f (f.getD a 0).toNat a)))
theorem RoadIs.keep {L : List (List Nat)} {u v : Int} {ra : Option Addr} {rn : Nat} {ev : Value} {w w' : World} (h : RoadIs L u v ra rn ev w) (hk : Keeps (fun _ => False) w w') : RoadIs L u v ra rn ev w' := by
  rcases h with h | ⟨a, b, h1, h2, h3, h4, f, h5, h6⟩
  · exact Or.inl h
  · refine Or.inr ⟨a, b, h1, h2, h3, h4, f, h5, ?_⟩
    rcases h6 with h6 | ⟨h6, h7, h8, h9⟩
    · exact Or.inl h6
    · exact Or.inr ⟨h6, h7, h8, h9.keep hk⟩
theorem kroad_is {w : World} {own : Nat → Prop} {p E : Nat} {L : List (List Nat)} (h : Tu w own p E L) (hg : Good E L) (u v : Int) :
    Calls Tryd.prog 36 #[tptr p, .int .i64 u, .int .i64 v] w (fun e w' => ∃ ra rn rc ev, e = .returned (.tuple #[.slice ra rn rc, ev]) ∧ Hid (RoadIs L u v ra rn ev w') ∧ Keeps (fun _ => False) w w') := by
  by_cases hr : u < 0 ∨ (L.length : Int) ≤ u ∨ v < 0 ∨ (L.length : Int) ≤ v
  · refine (kroad_range h u v hr).mono ?_
    rintro e w' ⟨rfl, hk⟩
    exact ⟨none, 0, 0, _, rfl, Lib.hid (Or.inl ⟨hr, rfl, rfl⟩), hk⟩
  · obtain ⟨a, rfl⟩ := Int.eq_ofNat_of_zero_le (show 0 ≤ u by omega)
    obtain ⟨b, rfl⟩ := Int.eq_ofNat_of_zero_le (show 0 ≤ v by omega)
    refine (kroad h hg (a := a) (b := b) (by omega) (by omega)).mono ?_
    rintro e w' ⟨f, hf, ⟨hn, rfl, hk⟩ | ⟨hp, x, rfl, ho, hk⟩⟩
    · exact ⟨none, 0, 0, _, rfl, Lib.hid (Or.inr ⟨a, b, rfl, rfl, by omega, by omega, f, hf, Or.inl ⟨hn, rfl, rfl⟩⟩), hk⟩
    · obtain ⟨ra, rc, rfl, hrd, _⟩ := Rd.of_own ho
      exact ⟨ra, _, rc, _, rfl, Lib.hid (Or.inr ⟨a, b, rfl, rfl, by omega, by omega, f, hf, Or.inr ⟨hp, rfl, rfl, hrd⟩⟩), hk⟩
set_option maxHeartbeats 8000000 in
theorem kinGroups_walk (n : Int) (a : Option Addr) (c : Nat) (ls : List Act10) (u v : Int) (w : World) (hE : ErrT w) (hz : Rd w a (actsV ls)) (hzl : ls.length ≤ 9223372036854775807) :
    Calls Tryd.prog 8 #[.int .i64 n, .slice a ls.length c, .agg #[.int .i64 u, .int .i64 v]] w (TruePost w) := by
  generalize hW : w.alloc (.cells #[.int .i64 u, .int .i64 v] 45) = wa
  have hKa : Keeps (fun _ => False) w wa := by rw [← hW]; exact (Keeps.refl _ _).alloc _
  have HPB : Hid (Blk wa w.heap.size #[.int .i64 u, .int .i64 v] 45) := by rw [← hW]; exact Lib.hid (Blk.new _ _ _)
  have HM := Lib.hid (made15 n a c ls wa (hE.kept hKa id) (hz.keep hKa) hzl)
  have HER : Hid (∀ W, Keeps (fun _ => False) w W → ErrT W) := Lib.hid fun W hk => hE.kept hk id
  have HKA := Lib.hid hKa
  clear hE hz hKa
  have HSU := Lib.hid (fun W => sure15 W)
  unfold TruePost at HSU
  unfold MadePost tptr rval at HM
  unfold TruePost
  go_enter Tryd.func8, Tryd.ntmps8
  go_upto_region 1 with fail
  clear hW
  go_wp2_with fail
  with_reducible refine HM.out.mono ?_
  rintro e' w1 ⟨L, p, own, B, va, vc, rfl, hl1, hl6, hb⟩
  have hbx : BothAt wa own p 8 B L (.slice va L.length vc) (w1.alloc (.cells #[.int .i64 8, .slice va L.length vc] 27)) := hb.keep ((Keeps.refl _ _).alloc _)
  have HB := Lib.hid hbx
  have HX : Hid (Blk (w1.alloc (.cells #[.int .i64 8, .slice va L.length vc] 27)) w1.heap.size #[.int .i64 8, .slice va L.length vc] 27) := Lib.hid (Blk.new _ _ _)
  clear hb hbx HM
  go_upto_region 2 with fail
  generalize w1.alloc _ = w2 at *
  generalize w1.heap.size = bx at *
  have h8 : ((8 : Nat) : Int) = 8 := rfl
  have HPX : Hid (∀ W, Keeps (fun _ => False) w2 W → W.cell? ⟨w.heap.size, 0, none⟩ = some (.int .i64 u) ∧ W.cell? ⟨w.heap.size, 1, none⟩ = some (.int .i64 v)) := Lib.hid fun W hk => by
    have h1 := ((HPB.out.kept HB.out.kp id).kept hk id).cell 0
    have h2 := ((HPB.out.kept HB.out.kp id).kept hk id).cell 1
    simp only [List.getElem?_toArray, List.getElem?_cons_zero, List.getElem?_cons_succ] at h1 h2
    exact ⟨h1, h2⟩
  have HKW : Hid (Keeps (fun _ => False) w w2) := Lib.hid (HKA.out.trans' HB.out.kp)
  have HNG := Lib.hid fun W => kgroups_nil (w := W)
  have HNB := Lib.hid fun W => kbridges_nil (w := W)
  have HNR := Lib.hid fun W => kroad_nil (w := W) 0 0
  have HNU : Hid (∀ W (k : Nat), k ≠ 0 → Keeps (fun _ => False) w2 W → Calls Tryd.prog 27 #[.iface 87 (.int .i64 k)] W (NumPost k W)) := Lib.hid fun W k h0 hk => by
    have := num15_val k W (HER.out W (HKW.out.trans' hk))
    rwa [errVal_pos h0] at this
  have HN1 : Hid (∀ W, Keeps (fun _ => False) w2 W → Calls Tryd.prog 27 #[errno 1] W (NumPost (1 : Nat) W)) := Lib.hid fun W hk => HNU.out W 1 (by decide) hk
  have HGK : Hid (∀ W, Keeps (fun _ => False) w2 W → Calls Tryd.prog 34 #[.pointer (some ⟨p, 0, none⟩)] W (OwnPost (grp L 8) W)) := Lib.hid fun W hk => kgroups (HB.out.tu.keep hk) HB.out.good
  have HGR : Hid (∀ W, Keeps (fun _ => False) w2 W → Calls Tryd.prog 23 #[.agg #[.int .i64 8, .slice va L.length vc]] W (LstPost (grp L 8) W)) := Lib.hid fun W hk => rgroups (HB.out.ls.keep hk) HB.out.good hl1 (by omega) (by decide)
  have hgl : (grp L 8).length = L.length := (grp_ok HB.out.good).len
  have HRI : Hid (∀ W, Keeps (fun _ => False) w2 W → Calls Tryd.prog 36 #[.pointer (some ⟨p, 0, none⟩), .int .i64 u, .int .i64 v] W (fun e w' => ∃ ra rn rc ev, e = .returned (.tuple #[.slice ra rn rc, ev]) ∧ Hid (RoadIs L u v ra rn ev w') ∧ Keeps (fun _ => False) W w')) := Lib.hid fun W hk => kroad_is (HB.out.tu.keep hk) HB.out.good u v
  have HRR : Hid (∀ W, Keeps (fun _ => False) w2 W → ∀ a b : Nat, a < L.length → b < L.length → Calls Tryd.prog 37 #[.agg #[.int .i64 8, .slice va L.length vc], .int .i64 (a : Int), .int .i64 (b : Int)] W (RRoadPost L b a W)) := Lib.hid fun W hk a b ha hb => rroad (HB.out.ls.keep hk) HB.out.good hl1 (by omega) (by decide) ha hb
  have HGD := Lib.hid HB.out.good
  have HX2 : Hid (∀ W, Keeps (fun _ => False) w2 W → W.cell? ⟨bx, 0, none⟩ = some (.int .i64 8) ∧ W.cell? ⟨bx, 1, none⟩ = some (.slice va L.length vc)) := Lib.hid fun W hk => by
    have := (HX.out.kept hk id).cells
    exact ⟨this.1, this.2.1⟩
  clear HB HX HPB HKA HER
  unfold RetPost errno at HNR
  unfold RetPost at HNB
  unfold OwnPost at HGK
  unfold LstPost at HGR
  unfold NumPost errno at HN1
  unfold NumPost at HNU
  go_upto_region 4 with (first
    | (go_at_call 34; with_reducible refine (HNG.out _).mono ?_; rintro e3 w3 ⟨g3, rfl, hk3⟩; have HK3 := Lib.hid hk3; clear hk3)
    | (go_at_call 29; with_reducible refine (HNB.out _).mono ?_; rintro e4 w4 ⟨rfl, hk4⟩; have HK4 := Lib.hid (HK3.out.trans' hk4); clear hk4 HK3))
  clear HNG HNB
  go_upto_region 5 with (go_at_call 36; with_reducible refine (HNR.out _).mono ?_; rintro e5 w5 ⟨rfl, hk5⟩; have HK5 := Lib.hid (HK4.out.trans' hk5); clear hk5 HK4)
  clear HNR
  obtain ⟨p0, p1⟩ := HPX.out _ HK5.out
  go_upto_region 6 with (go_at_call 36; with_reducible refine (HRI.out _ HK5.out).mono ?_; rintro e6 w6 ⟨ra, rn, rc, ev, rfl, HIS, hk6⟩; have HK6 := Lib.hid (HK5.out.trans' hk6); clear hk6 HRI)
  clear p0 p1
  obtain ⟨x0, x1⟩ := HX2.out _ HK6.out
  generalize hgr : grp L 8 = gr at *
  clear hgr
  go_cut [57] (fun t wd => t = .bool false ∧ Hid (Keeps (fun _ => False) w6 wd))
  case first =>
    have hK : Keeps (fun _ => False) w6 w6.drew := (Keeps.refl _ _).drew
    have HIN : Hid (∀ {W : World} {a1 a2 : Option Addr} {c1 c2 : Nat}, Rd W a1 (nats gr) → Rd W a2 (nats gr) → Calls Tryd.prog 28 #[.slice a1 gr.length c1, .slice a2 gr.length c2] W (fun e' w' => e' = .returned (.bool true) ∧ Keeps (fun _ => False) W w')) := Lib.hid fun h1 h2 => ints15_eq _ _ _ _ _ gr rfl (by omega) _ h1 h2
    clear HSU HNU HKW HPX HRR HIS hgl
    go_region_held3 (fun w' => w'.cell? ⟨bx, 0, none⟩ = some (.int .i64 8) ∧ w'.cell? ⟨bx, 1, none⟩ = some (.slice va L.length vc))
      (first | exact ⟨hK.cellF x0, hK.cellF x1⟩ | fail)
      (first
        | (go_at_call 27; have hKK := HK6.out.trans' hK; with_reducible refine (HN1.out _ hKK).mono ?_; rintro e7 w7 ⟨rfl, hk7⟩; have hK : Keeps (fun _ => False) w6 w7 := hK.trans' hk7)
        | (go_at_call 34; have hKK := HK6.out.trans' hK; with_reducible refine (HGK.out _ hKK).mono ?_; rintro e8 w8 ⟨v8, rfl, ho8, hk8⟩; obtain ⟨a8, c8, rfl, hr8, _⟩ := Rd.of_own ho8; have HR8 := Lib.hid hr8; clear hr8 ho8; have hK : Keeps (fun _ => False) w6 w8 := hK.trans' hk8)
        | (go_at_call 23; have hKK := HK6.out.trans' hK; with_reducible refine (HGR.out _ hKK).mono ?_; rintro e9 w9 ⟨a9, c9, rfl, hr9, hk9⟩; have HR9 := Lib.hid (And.intro hr9 (HR8.out.keep hk9)); clear hr9; have hK : Keeps (fun _ => False) w6 w9 := hK.trans' hk9)
        | (go_at_call 28; with_reducible refine (HIN.out HR9.out.2 HR9.out.1).mono ?_; rintro e10 w10 ⟨rfl, hk10⟩; have hK : Keeps (fun _ => False) w6 w10 := hK.trans' hk10)
        | fail)
    all_goals
      go_wp2_with fail
      go_meet
      exact ⟨rfl, Lib.hid hK⟩
  case rest =>
    obtain ⟨rfl, HKC⟩ := hcut
    have HKX := Lib.hid (HK6.out.trans' HKC.out)
    have HIS2 := Lib.hid (HIS.out.keep HKC.out)
    obtain ⟨p0, p1⟩ := HPX.out _ HKX.out
    obtain ⟨y0, y1⟩ := HX2.out _ HKX.out
    clear HIS HK6 HKC HGK HGR HN1 x0 x1 hgl HPX
    rcases HIS2.out with ⟨hr, rfl, rfl⟩ | ⟨a, b, rfl, rfl, ha, hb, f, hf, hcs⟩
    · have hor : decide (u < 0) = true ∨ (decide (u < 0) = false ∧ decide ((L.length : Int) ≤ u) = true) ∨ (decide (u < 0) = false ∧ decide ((L.length : Int) ≤ u) = false ∧ decide (v < 0) = true) ∨ (decide (u < 0) = false ∧ decide ((L.length : Int) ≤ u) = false ∧ decide (v < 0) = false ∧ decide ((L.length : Int) ≤ v) = true) := by
        by_cases q1 : u < 0
        · exact Or.inl (decide_eq_true q1)
        · refine Or.inr ?_
          by_cases q2 : (L.length : Int) ≤ u
          · exact Or.inl ⟨decide_eq_false q1, decide_eq_true q2⟩
          · refine Or.inr ?_
            by_cases q3 : v < 0
            · exact Or.inl ⟨decide_eq_false q1, decide_eq_false q2, decide_eq_true q3⟩
            · exact Or.inr ⟨decide_eq_false q1, decide_eq_false q2, decide_eq_false q3, decide_eq_true (by omega)⟩
      have HN12 : Hid (Calls Tryd.prog 27 #[.iface 87 (.int .i64 12)] wc (fun e' w' => e' = .returned (.int .i64 12) ∧ Keeps (fun _ => False) wc w')) := Lib.hid (HNU.out wc 12 (by decide) HKX.out)
      clear hr HIS2 HNU HRR HX2 HGD
      rcases hor with h1 | ⟨h1, h2⟩ | ⟨h1, h2, h3⟩ | ⟨h1, h2, h3, h4⟩
      all_goals
        go_wp2_with fail
        with_reducible refine HN12.out.mono ?_
        rintro e6 w7 ⟨rfl, hk7⟩
        have HK7 := Lib.hid (HKX.out.trans' hk7)
        clear hk7 HN12
        go_wp2_with fail
        with_reducible refine (HSU.out _).mono ?_
        rintro e8 w8 ⟨rfl, hk8⟩
        have HF := Lib.hid (HKW.out.trans' (HK7.out.trans' hk8))
        clear hk8
        go_wp2_with fail
        go_ret
        exact ⟨rfl, HF.out⟩
    · have h1 : decide ((a : Int) < 0) = false := decide_eq_false (by omega)
      have h2 : decide ((L.length : Int) ≤ (a : Int)) = false := decide_eq_false (by omega)
      have h3 : decide ((b : Int) < 0) = false := decide_eq_false (by omega)
      have h4 : decide ((L.length : Int) ≤ (b : Int)) = false := decide_eq_false (by omega)
      have HR2 : Hid (Calls Tryd.prog 37 #[.agg #[.int .i64 8, .slice va L.length vc], .int .i64 (a : Int), .int .i64 (b : Int)] wc (fun e w' => (f.getD a 0 < 0 ∧ e = .returned (.tuple #[.slice none 0 0, .bool false]) ∨ 0 ≤ f.getD a 0 ∧ ∃ sa sc, e = .returned (.tuple #[.slice sa (roadL L f (f.getD a 0).toNat a).length sc, .bool true]) ∧ Hid (Rd w' sa (nats (roadL L f (f.getD a 0).toNat a)))) ∧ Keeps (fun _ => False) wc w')) := Lib.hid (by
        refine (HRR.out _ HKX.out a b ha hb).mono ?_
        rintro e w' ⟨f', hf', hh⟩
        obtain rfl := far_ext hf' hf
        rcases hh with ⟨q1, q2, q3⟩ | ⟨q1, x, q2, q3, q4⟩
        · exact ⟨Or.inl ⟨q1, q2⟩, q3⟩
        · obtain ⟨sa, sc, rfl, hrd, _⟩ := Rd.of_own q3
          exact ⟨Or.inr ⟨q1, sa, sc, q2, Lib.hid hrd⟩, q4⟩)
      have hlt := (hf.lt HGD.out ha).2
      rcases hcs with ⟨hn, rfl, rfl⟩ | ⟨hp, rfl, rfl, hrd⟩
      · have HR3 : Hid (Calls Tryd.prog 37 #[.agg #[.int .i64 8, .slice va L.length vc], .int .i64 (a : Int), .int .i64 (b : Int)] wc (fun e w' => e = .returned (.tuple #[.slice none 0 0, .bool false]) ∧ Keeps (fun _ => False) wc w')) := Lib.hid (HR2.out.mono fun e w' q => ⟨by
          rcases q.1 with q1 | q1
          · exact q1.2
          · exact absurd q1.1 (by omega), q.2⟩)
        have HN21 : Hid (∀ W, Keeps (fun _ => False) w2 W → Calls Tryd.prog 27 #[.iface 87 (.int .i64 21)] W (fun e' w' => e' = .returned (.int .i64 21) ∧ Keeps (fun _ => False) W w')) := Lib.hid fun W hk => HNU.out W 21 (by decide) hk
        clear hf hn HR2 HIS2 HNU HRR HX2 hlt
        go_wp2_with fail
        with_reducible refine HR3.out.mono ?_
        rintro e6 w7 ⟨rfl, hk7⟩
        have HK7 := Lib.hid (HKX.out.trans' hk7)
        clear hk7 HR3 p0 p1 y0 y1
        go_wp2_with fail
        with_reducible refine (HN21.out _ HK7.out).mono ?_
        rintro e8 w8 ⟨rfl, hk8⟩
        have HK8 := Lib.hid (HK7.out.trans' hk8)
        clear hk8 HN21
        go_wp2_with fail
        with_reducible refine (HSU.out _).mono ?_
        rintro e9 w9 ⟨rfl, hk9⟩
        have HF := Lib.hid (HKW.out.trans' (HK8.out.trans' hk9))
        clear hk9
        go_wp2_with fail
        go_ret
        exact ⟨rfl, HF.out⟩
      · have HRL := Lib.hid hrd
        have hrl : (roadL L f (f.getD a 0).toNat a).length ≤ 1048576 := by rw [roadL_length]; omega
        have HR3 : Hid (Calls Tryd.prog 37 #[.agg #[.int .i64 8, .slice va L.length vc], .int .i64 (a : Int), .int .i64 (b : Int)] wc (fun e w' => ∃ sa sc, e = .returned (.tuple #[.slice sa (roadL L f (f.getD a 0).toNat a).length sc, .bool true]) ∧ Hid (Rd w' sa (nats (roadL L f (f.getD a 0).toNat a))) ∧ Keeps (fun _ => False) wc w')) := Lib.hid (HR2.out.mono fun e w' q => by
          rcases q.1 with q1 | ⟨_, sa, sc, q1, q2⟩
          · exact absurd q1.1 (by omega)
          · exact ⟨sa, sc, q1, q2, q.2⟩)
        clear hf hp HR2 HIS2 HNU HRR HX2 hlt hrd
        generalize roadL L f (f.getD a 0).toNat a = R at *
        have HIN : Hid (∀ {W : World} {a1 a2 : Option Addr} {c1 c2 : Nat}, Rd W a1 (nats R) → Rd W a2 (nats R) → Calls Tryd.prog 28 #[.slice a1 R.length c1, .slice a2 R.length c2] W (fun e' w' => e' = .returned (.bool true) ∧ Keeps (fun _ => False) W w')) := Lib.hid fun h1 h2 => ints15_eq _ _ _ _ _ R rfl (by omega) _ h1 h2
        go_wp2_with fail
        with_reducible refine HR3.out.mono ?_
        rintro e6 w7 ⟨sa, sc, rfl, HS7, hk7⟩
        have HI7 := Lib.hid fun c1 c2 => HIN.out (c1 := c1) (c2 := c2) (HRL.out.keep hk7) HS7.out
        have HK7 := Lib.hid (HKX.out.trans' hk7)
        clear hk7 HR3 p0 p1 y0 y1 HIN HRL HS7
        go_wp2_with fail
        with_reducible refine (HI7.out _ _).mono ?_
        rintro e8 w8 ⟨rfl, hk8⟩
        have HK8 := Lib.hid (HK7.out.trans' hk8)
        clear hk8 HI7
        go_wp2_with fail
        with_reducible refine (HSU.out _).mono ?_
        rintro e9 w9 ⟨rfl, hk9⟩
        have HF := Lib.hid (HKW.out.trans' (HK8.out.trans' hk9))
        clear hk9
        go_wp2_with fail
        go_ret
        exact ⟨rfl, HF.out⟩
theorem kinGroups_enter (W : World) (hE : ErrT W) (n : Int) (_ : (Lit.int .i64 n).wf = true) (a : Option Addr) (c : Nat) (ls : List Act10) (hr : Rd W a (ls.flatMap actCells)) (hl : ls.length ≤ 9223372036854775807) (u v : Int) :
    Calls Tryd.prog 8 #[.int .i64 n, .slice a ls.length c, .agg #[.int .i64 u, .int .i64 v]] W (TruePost W) := kinGroups_walk n a c ls u v W hE hr hl
end Go.Proofs.YtdplphhlclhmfaaDoor
