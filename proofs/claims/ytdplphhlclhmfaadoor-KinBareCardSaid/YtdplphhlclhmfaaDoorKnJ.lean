/- Chapter 15's laws: KinBare. -/
import Derived.Test.YtdplphhlclhmfaaDoorKnI
import Derived.Test.YtdplphhlclhmfaaDoorKiQ
import Derived.Test.YtdplphhlclhmfaaDoorKiO
namespace Go.Proofs.YtdplphhlclhmfaaDoor
open Go Go.RowKit
set_option linter.unusedVariables false
set_option linter.unusedSimpArgs false
set_option maxRecDepth 100000

/-- How many of the first n tell themselves. -/
def rootsN (g : List Nat) (n : Nat) : Nat := (List.range n).countP fun v => decide (g.getD v 0 = v)
theorem rootsN_succ (g : List Nat) (n : Nat) : rootsN g (n + 1) = rootsN g n + if g.getD n 0 = n then 1 else 0 := by
  unfold rootsN
  rw [List.range_succ, List.countP_append]
  by_cases h : g.getD n 0 = n
  · rw [if_pos h]
    simp only [List.countP_cons, List.countP_nil, decide_eq_true h, if_true]
  · rw [if_neg h]
    simp only [List.countP_cons, List.countP_nil, decide_eq_false h]
    rfl
theorem laidN_succ' (L : List (List Nat)) (n : Nat) : laidN L (n + 1) = laidN L n + if Stands L (2 * n) then 1 else 0 := by
  unfold laidN
  rw [List.range_succ, List.filter_append, List.length_append]
  by_cases h : Stands L (2 * n)
  · rw [if_pos h]; simp [h]
  · rw [if_neg h]; simp [h]
theorem rootsN_le (g : List Nat) (n : Nat) : rootsN g n ≤ n := by
  unfold rootsN
  have := List.countP_le_length (p := fun v => decide (g.getD v 0 = v)) (l := List.range n)
  rwa [List.length_range] at this
/-- Bare so far, in memory. -/
structure BareW (own : Nat → Prop) (p : Nat) (L0 L : List (List Nat)) (k : Nat) (w3 wr : World) : Prop where
  ba : BareI 8 L0 L k
  tu : Tu wr own p 8 L
  kp : Keeps own w3 wr
set_option maxHeartbeats 8000000 in
theorem kinBare_walk (n : Int) (a : Option Addr) (c : Nat) (ls : List Act10) (w : World) (hE : ErrT w) (hz : Rd w a (actsV ls)) (hzl : ls.length ≤ 9223372036854775807) :
    Calls Tryd.prog 7 #[.int .i64 n, .slice a ls.length c] w (TruePost w) := by
  have HM := Lib.hid (made15 n a c ls w hE hz hzl)
  clear hE hz
  have HSU := Lib.hid (fun W => sure15 W)
  unfold TruePost at HSU
  unfold MadePost tptr rval at HM
  unfold TruePost
  go_enter Tryd.func7, Tryd.ntmps7
  go_wp2_with fail
  with_reducible refine HM.out.mono ?_
  rintro e' w1 ⟨L, p, own, B, va, vc, rfl, hl1, hl6, hb⟩
  have hbx : BothAt w own p 8 B L (.slice va L.length vc) (w1.alloc (.cells #[.int .i64 8, .slice va L.length vc] 27)) := hb.keep ((Keeps.refl _ _).alloc _)
  have HB := Lib.hid hbx
  have HX : Hid (Blk (w1.alloc (.cells #[.int .i64 8, .slice va L.length vc] 27)) w1.heap.size #[.int .i64 8, .slice va L.length vc] 27) := Lib.hid (Blk.new _ _ _)
  have HOX : Hid (∀ q, own q → q < w1.heap.size) := Lib.hid fun q o => hb.tu.lt q o
  clear hb hbx HM
  go_upto_region 2 with fail
  generalize w1.alloc _ = w2 at *
  generalize w1.heap.size = bx at *
  have h8 : ((8 : Nat) : Int) = 8 := rfl
  have HGK := Lib.hid (kgroups HB.out.tu HB.out.good)
  have hgl : (grp L 8).length = L.length := (grp_ok HB.out.good).len
  have HKW : Hid (Keeps (fun _ => False) w w2) := Lib.hid HB.out.kp
  have HLO : Hid (∀ q, own q → w.heap.size ≤ q) := Lib.hid fun q o => (HB.out.low q o).1
  have HGD := Lib.hid HB.out.good
  unfold OwnPost tptr at HGK
  go_upto_region 5 with (go_at_call 34; with_reducible refine HGK.out.mono ?_; rintro e3 w3 ⟨v3, rfl, ho3, hk3⟩; obtain ⟨a3, c3, rfl, hr3, _⟩ := Rd.of_own ho3; have HFR := Lib.hid (Fresh.of_own ho3 rfl (Nat.le_refl _)); have HR3 := Lib.hid hr3; have HK3 := Lib.hid hk3; clear ho3 hr3 hk3 HGK)
  have HOW : Hid (∀ q, own q → q < w2.heap.size) := Lib.hid fun q o => HB.out.tu.lt q o
  have HX2 : Hid (∀ W, Keeps own w3 W → W.cell? ⟨bx, 0, none⟩ = some (.int .i64 8) ∧ W.cell? ⟨bx, 1, none⟩ = some (.slice va L.length vc)) := Lib.hid fun W hk => by
    have := ((HX.out.kept HK3.out id).kept hk fun o => Nat.lt_irrefl _ (HOX.out _ o)).cells
    exact ⟨this.1, this.2.1⟩
  have HRG : Hid (∀ W, Keeps own w3 W → Rd W a3 (nats (grp L 8))) := Lib.hid fun W hk => HR3.out.kept hk fun b off e o => by
    have := HFR.out b off e
    have := HOW.out b o
    omega
  have HI0 : Hid (∃ L', BareW own p L L' 0 w3 w3) := Lib.hid ⟨L, BareI.start HGD.out, HB.out.tu.keep HK3.out, Keeps.refl _ _⟩
  have HKW3 : Hid (Keeps (fun _ => False) w w3) := Lib.hid (HKW.out.trans' HK3.out)
  clear HB HX HOX HR3 HFR HOW HK3 HKW
  go_upto_region 6 with fail
  go_loopw [9] (fun i wr => ∃ k : Nat, k ≤ 8 ∧ i = .int .i64 (k : Int) ∧ Hid (∃ L', BareW own p L L' k w3 wr)) (fun i _ => 8 - (intOf i).toNat)
  case atStart => exact ⟨0, by omega, rfl, HI0⟩
  case round =>
    obtain ⟨k, hk, rfl, HR⟩ := hrel
    clear HI0
    obtain ⟨L', hw⟩ := HR.out
    clear HR
    by_cases hk8 : k < 8
    · have hkI : (k : Int) < 8 := by omega
      have HBR := Lib.hid (kbridge hw.tu hw.ba.good (k : Int))
      have hw2 : (k : Int).toNat = k := Int.toNat_natCast k
      have hbm : k ∈ brl L' 8 ↔ Bridge L' k := brl_mem hw.ba.good
      by_cases hs : Stands L' (2 * k)
      · have hle : liftErr 8 L' (k : Int) = 0 := by unfold liftErr; rw [if_neg (by omega), hw2, if_pos hs]
        rw [hle, errVal_zero, hw2] at HBR
        by_cases hbr : Bridge L' k
        · rw [decide_eq_true (show (0 = 0 ∧ k ∈ brl L' 8) from ⟨rfl, hbm.2 hbr⟩)] at HBR
          have HN : Hid (∀ W, Keeps (fun _ => False) wr W → ∃ L', BareW own p L L' (k + 1) w3 W) := Lib.hid fun W hk => ⟨L', hw.ba.stay fun _ => hbr, hw.tu.keep hk, hw.kp.trans' (hk.mono fun _ _ q => q.elim)⟩
          clear hw hs hbr hle hbm
          unfold RetPost tptr at HBR
          go_wp2_with (go_at_call 26; with_reducible refine HBR.out.mono ?_; rintro e5 w5 ⟨rfl, hk5⟩; have HN5 := Lib.hid (HN.out _ hk5); clear hk5 HBR HN)
          exact ⟨⟨k + 1, by omega, by simp, HN5⟩, by simp [intOf]; omega⟩
        · rw [decide_eq_false (fun q => hbr (hbm.1 q.2))] at HBR
          have HLI := Lib.hid fun W (hk : Keeps (fun _ => False) wr W) => tlift (hw.tu.keep hk) hw.ba.good (k : Int)
          have hli : lift 8 L' (k : Int) = liftL L' k := by unfold lift; rw [if_pos hle, hw2]
          rw [hle, hli, errVal_zero] at HLI
          have HN : Hid (∀ W W', Keeps (fun _ => False) wr W → Tu W' own p 8 (liftL L' k) → Keeps own W W' → ∃ L', BareW own p L L' (k + 1) w3 W') := Lib.hid fun W W' hk ht hk2 => ⟨liftL L' k, hw.ba.gone hs hbr, ht, (hw.kp.trans' (hk.mono fun _ _ q => q.elim)).trans' hk2⟩
          clear hw hs hbr hle hbm hli
          unfold RetPost tptr at HBR
          unfold TPost tptr at HLI
          go_wp2_with (first
            | (go_at_call 26; with_reducible refine HBR.out.mono ?_; rintro e5 w5 ⟨rfl, hk5⟩; have HK5 := Lib.hid hk5; clear hk5 HBR)
            | (go_at_call 35; with_reducible refine (HLI.out _ HK5.out).mono ?_; rintro e6 w6 ⟨rfl, ht6, hk6⟩; have HN6 := Lib.hid (HN.out _ _ HK5.out ht6 hk6); clear ht6 hk6 HLI HN HK5))
          exact ⟨⟨k + 1, by omega, by simp, HN6⟩, by simp [intOf]; omega⟩
      · have hle : liftErr 8 L' (k : Int) = 13 := by unfold liftErr; rw [if_neg (by omega), hw2, if_neg hs]
        rw [hle, errVal_pos (by decide), decide_eq_false (by simp)] at HBR
        have HN : Hid (∀ W, Keeps (fun _ => False) wr W → ∃ L', BareW own p L L' (k + 1) w3 W) := Lib.hid fun W hk => ⟨L', hw.ba.stay fun q => absurd q hs, hw.tu.keep hk, hw.kp.trans' (hk.mono fun _ _ q => q.elim)⟩
        clear hw hs hle hbm
        unfold RetPost tptr at HBR
        go_wp2_with (go_at_call 26; with_reducible refine HBR.out.mono ?_; rintro e5 w5 ⟨rfl, hk5⟩; have HN5 := Lib.hid (HN.out _ hk5); clear hk5 HBR HN)
        exact ⟨⟨k + 1, by omega, by simp, HN5⟩, by simp [intOf]; omega⟩
    · obtain rfl : k = 8 := by omega
      clear hk hk8
      have HLG := Lib.hid (hw.ba.grp HGD.out)
      have hfc := forest_count (E := 8) _ hw.ba.good hw.ba.all rfl
      rw [hw.ba.grp HGD.out, hw.ba.len] at hfc
      have HHA := Lib.hid fun W (hk : Keeps (fun _ => False) wr W) => thas (hw.tu.keep hk)
      have HGK := Lib.hid fun W (hk : Keeps (fun _ => False) wr W) => kgroups (hw.tu.keep hk) hw.ba.good
      have HBK := Lib.hid fun W (hk : Keeps (fun _ => False) wr W) => kbridges (hw.tu.keep hk) hw.ba.good
      rw [hw.ba.grp HGD.out] at HGK
      have hbl : (brl L' 8).length = laidN L' 8 := by rw [brl_all hw.ba.good hw.ba.all]; rfl
      have HKP := Lib.hid hw.kp
      have hl8 := laidN_le L' 8
      clear hw HGD HLG
      unfold RetPost tptr at HHA
      unfold OwnPost tptr at HGK HBK
      have hmr : many (grp L 8) = rootsN (grp L 8) L.length := by unfold many rootsN; rw [hgl]
      rw [hmr] at hfc
      clear hmr
      have HGL := Lib.hid hgl
      generalize grp L 8 = gr at *
      generalize hbe : brl L' 8 = bl at *
      clear hbe
      generalize wr = wo at *
      go_upto_region 13 with fail
      go_loopw [12, 13] (fun m i wr => ∃ k : Nat, k ≤ 8 ∧ i = .int .i64 (k : Int) ∧ m = .int .i64 ((laidN L' k : Nat) : Int) ∧ Hid (Keeps (fun _ => False) wo wr)) (fun _ i _ => 8 - (intOf i).toNat)
      case atStart => exact ⟨0, by omega, rfl, rfl, Lib.hid (Keeps.refl _ _)⟩
      case round =>
        obtain ⟨k, hk, rfl, rfl, HK⟩ := hrel
        by_cases hk8 : k < 8
        · have hkI : (k : Int) < 8 := by omega
          have HH := Lib.hid (HHA.out wr HK.out (k : Int))
          have hsu := laidN_succ' L' k
          have hle := laidN_le L' k
          rw [Int.toNat_natCast] at HH
          by_cases hs : Stands L' (2 * k)
          · rw [decide_eq_true (show 0 ≤ (k : Int) ∧ (k : Int) < (8 : Nat) ∧ Stands L' (2 * k) from ⟨by omega, by omega, hs⟩)] at HH
            rw [if_pos hs] at hsu
            have HSU2 := Lib.hid hsu
            clear hsu hs
            generalize laidN L' k = m at *
            have hwm : wrap64 ((m : Int) + 1) = (m : Int) + 1 := by unfold wrap64; omega
            go_wp2_with (go_at_call 22; with_reducible refine HH.out.mono ?_; rintro e5 w5 ⟨rfl, hk5⟩; have HN5 := Lib.hid (HK.out.trans' hk5); clear hk5 HH)
            exact ⟨⟨k + 1, by omega, by simp, by rw [HSU2.out]; simp, HN5⟩, by simp [intOf]; omega⟩
          · rw [decide_eq_false (fun q => hs q.2.2)] at HH
            rw [if_neg hs] at hsu
            have HSU2 := Lib.hid hsu
            clear hsu hs
            generalize laidN L' k = m at *
            go_wp2_with (go_at_call 22; with_reducible refine HH.out.mono ?_; rintro e5 w5 ⟨rfl, hk5⟩; have HN5 := Lib.hid (HK.out.trans' hk5); clear hk5 HH)
            exact ⟨⟨k + 1, by omega, by simp, by rw [HSU2.out]; simp, HN5⟩, by simp [intOf]; omega⟩
        · obtain rfl : k = 8 := by omega
          clear hk hk8 HHA
          have hm8 := laidN_le L' 8
          generalize laidN L' 8 = m at *
          generalize wr = wp at *
          go_upto_region 19 with fail
          have HKQ := Lib.hid HK.out
          go_loopw [14, 15] (fun r i wr => ∃ v : Nat, v ≤ gr.length ∧ i = .int .i64 (v : Int) ∧ r = .int .i64 ((rootsN gr v : Nat) : Int) ∧ Hid (Keeps (fun _ => False) wp wr)) (fun _ i _ => gr.length - (intOf i).toNat)
          case atStart => exact ⟨0, by omega, rfl, rfl, Lib.hid (Keeps.refl _ _)⟩
          case round =>
            obtain ⟨v, hv, rfl, rfl, HK2⟩ := hrel
            have HKO := Lib.hid (HKQ.out.trans' HK2.out)
            have HKA := Lib.hid (HKP.out.trans' (HKO.out.mono (fp' := own) fun _ _ q => q.elim))
            by_cases hvl : v < gr.length
            · obtain ⟨b5, o5, e5, hcd⟩ := (HRG.out _ HKA.out).nat hvl
              subst e5
              have hvI : (v : Int) < (gr.length : Int) := by omega
              have hsu := rootsN_succ gr v
              have hle := rootsN_le gr v
              by_cases hq : gr.getD v 0 = v
              · rw [hq] at hcd
                rw [if_pos hq] at hsu
                have HSU2 := Lib.hid hsu
                clear hsu hq
                have hgl6 : v ≤ 1000000 := by have := HGL.out; omega
                generalize rootsN gr v = r at *
                have hbe : ((v : Int) == (v : Int)) = true := beq_self_eq_true _
                have hwm : wrap64 ((r : Int) + 1) = (r : Int) + 1 := by unfold wrap64; omega
                go_wp2_with fail
                exact ⟨⟨v + 1, by omega, by simp, by rw [HSU2.out]; simp, HK2⟩, by simp [intOf]; omega⟩
              · rw [if_neg hq] at hsu
                have HSU2 := Lib.hid hsu
                have hbe : (((gr.getD v 0 : Nat) : Int) == (v : Int)) = false := by rw [beq_eq_false_iff_ne]; omega
                clear hsu hq
                generalize gr.getD v 0 = z at *
                generalize rootsN gr v = r at *
                go_wp2_with fail
                exact ⟨⟨v + 1, by omega, by simp, by rw [HSU2.out]; simp, HK2⟩, by simp [intOf]; omega⟩
            · obtain rfl : v = gr.length := by omega
              have hri : ¬ ((gr.length : Int) < (gr.length : Int)) := Int.lt_irrefl _
              have hrl := HGL.out
              have hr0 : rootsN gr gr.length = rootsN gr L.length := by rw [hrl]
              have HG5 := Lib.hid (HGK.out wr HKO.out)
              have HR5 := Lib.hid fun W (hk : Keeps (fun _ => False) wr W) => HRG.out W (HKA.out.trans' (hk.mono (fp' := own) fun _ _ q => q.elim))
              have HB5 := Lib.hid fun W (hk : Keeps (fun _ => False) wr W) => HBK.out W (HKO.out.trans' hk)
              have HX5 := Lib.hid fun W (hk : Keeps (fun _ => False) wr W) => HX2.out W (HKA.out.trans' (hk.mono (fp' := own) fun _ _ q => q.elim))
              have HFI := Lib.hid (HKW3.out.thin HKA.out HLO.out)
              have hsub : wrap64 ((L.length : Int) - ((rootsN gr gr.length : Nat) : Int)) = (m : Int) := by
                rw [hr0]
                have : (L.length : Int) - ((rootsN gr L.length : Nat) : Int) = (m : Int) := by omega
                rw [this]
                unfold wrap64
                omega
              have hgl9 : gr.length ≤ 9000000000000000000 := by omega
              clear hr0 hrl HKQ HK HK2 HKO HKA HRG HGK HBK HX2 hfc HKW3 HLO
              have hbm : ((m : Int) == (m : Int)) = true := beq_self_eq_true _
              have HIN : Hid (∀ {W : World} {a1 a2 : Option Addr} {c1 c2 : Nat}, Rd W a1 (nats gr) → Rd W a2 (nats gr) → Calls Tryd.prog 28 #[.slice a1 L.length c1, .slice a2 L.length c2] W (fun e' w' => e' = .returned (.bool true) ∧ Keeps (fun _ => False) W w')) := Lib.hid fun h1 h2 => ints15_eq _ _ _ _ _ gr HGL.out.symm (by have := HGL.out; omega) _ h1 h2
              clear hgl9
              generalize hrt : rootsN gr gr.length = rt at *
              clear hrt
              go_upto_region 23 with fail
              clear hri
              go_wp2_with (first
                | (go_at_call 34; with_reducible refine HG5.out.mono ?_; rintro e5 w5 ⟨v5, rfl, ho5, hk5⟩; obtain ⟨a5, c5, rfl, hr5, _⟩ := Rd.of_own ho5; have HI5 := Lib.hid fun c1 c2 => HIN.out (c1 := c1) (c2 := c2) hr5 (HR5.out _ hk5); have HK5 := Lib.hid hk5; clear ho5 hr5 hk5 HG5)
                | (go_at_call 28; with_reducible refine (HI5.out _ _).mono ?_; rintro e6 w6 ⟨rfl, hk6⟩; have HK6 := Lib.hid (HK5.out.trans' hk6); clear hk6 HI5 HK5)
                | (go_at_call 29; with_reducible refine (HB5.out _ HK6.out).mono ?_; rintro e7 w7 ⟨v7, rfl, ho7, hk7⟩; obtain ⟨a7, c7, rfl, hr7, _⟩ := Rd.of_own ho7; have HK7 := Lib.hid (HK6.out.trans' hk7); obtain ⟨x0, x1⟩ := HX5.out _ HK7.out; rw [hbl]; clear ho7 hr7 hk7 HB5 HK6)
                | (go_at_call 31; with_reducible refine (HSU.out _).mono ?_; rintro e8 w8 ⟨rfl, hk8⟩; have HF := Lib.hid (HFI.out.trans' (HK7.out.trans' hk8)); clear hk8))
              go_ret
              exact ⟨rfl, HF.out⟩
theorem kinBare_enter (W : World) (hE : ErrT W) (n : Int) (_ : (Lit.int .i64 n).wf = true) (a : Option Addr) (c : Nat) (ls : List Act10) (hr : Rd W a (ls.flatMap actCells)) (hl : ls.length ≤ 9223372036854775807) :
    Calls Tryd.prog 7 #[.int .i64 n, .slice a ls.length c] W (TruePost W) := kinBare_walk n a c ls W hE hr hl
end Go.Proofs.YtdplphhlclhmfaaDoor
