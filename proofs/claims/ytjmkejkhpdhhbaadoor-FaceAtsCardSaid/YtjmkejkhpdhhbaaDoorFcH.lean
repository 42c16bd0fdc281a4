/- Chapter 11: into which face a corner looks. -/
import Derived.Test.YtjmkejkhpdhhbaaDoorFcG
namespace Go.Proofs.YtjmkejkhpdhhbaaDoor
open Go Go.RowKit
set_option linter.unusedVariables false
set_option linter.unusedSimpArgs false
set_option maxRecDepth 100000

def IdxPost (R : List Nat) (y : Nat) (w : World) (e : Ending) (w' : World) : Prop := ∃ r : Int, e = .returned (.int .i64 r) ∧ decide (r ≥ 0) = decide (y ∈ R) ∧ Keeps (fun _ => False) w w'
section
variable {R : List Nat} {w : World}
theorem sindex (a : Option Addr) (c : Nat) (hr : Rd w a (nats R)) (hl : R.length ≤ 4000000) (y : Nat) :
    Calls Tryd.prog 74 #[.slice a R.length c, .int .i64 (y : Int)] w (IdxPost R y w) := by
  have HR := Lib.hid hr
  clear hr
  unfold IdxPost
  go_enter Tryd.func74, Tryd.ntmps74
  go_wp2_with fail
  go_loopw [8] (fun i wr => ∃ f : Nat, f ≤ R.length ∧ i = .int .i64 (f : Int) ∧ Hid (Keeps (fun _ => False) w wr ∧ y ∉ R.take f)) (fun i _ => R.length - (intOf i).toNat)
  case atStart => exact ⟨0, Nat.zero_le _, rfl, Lib.hid ⟨Keeps.refl _ _, by simp⟩⟩
  case round =>
    obtain ⟨f, hf, rfl, hrel⟩ := hrel
    by_cases hlt : f < R.length
    · obtain ⟨b, off, rfl, e1⟩ := (HR.out.keep hrel.out.1).nat hlt
      have HT := Lib.hid (take_next hlt)
      have hm := Lib.hid (getD_mem hlt)
      generalize R.getD f 0 = x at *
      by_cases hq : y = x
      · subst hq
        have hb : ((y : Int) == (y : Int)) = true := by simp
        have HM : Hid (decide ((f : Int) ≥ 0) = decide (y ∈ R)) := Lib.hid (by rw [decide_eq_true hm.out]; simp)
        have HK := Lib.hid hrel.out.1
        clear hrel HT
        go_wp2_with fail
        go_ret
        exact ⟨_, rfl, HM.out, HK.out⟩
      · have hb : ((y : Int) == (x : Int)) = false := by rw [beq_eq_false_iff_ne]; omega
        have HK : Hid (Keeps (fun _ => False) w wr ∧ y ∉ R.take (f + 1)) := Lib.hid ⟨hrel.out.1, by
          rw [HT.out, List.mem_append]
          rintro (q | q)
          · exact hrel.out.2 q
          · exact hq (List.mem_singleton.1 q)⟩
        clear hrel HT
        go_wp2_with fail
        refine ⟨⟨f + 1, hlt, by go_num, HK⟩, by simp [intOf]; omega⟩
    · obtain rfl : f = R.length := by omega
      have HM : Hid (decide ((-1 : Int) ≥ 0) = decide (y ∈ R)) := Lib.hid (by have := hrel.out.2; rw [List.take_length] at this; rw [decide_eq_false this]; decide)
      have HK := Lib.hid hrel.out.1
      clear hrel
      go_wp2_with fail
      go_ret
      exact ⟨_, rfl, HM.out, HK.out⟩
theorem scontains (a : Option Addr) (c : Nat) (hr : Rd w a (nats R)) (hl : R.length ≤ 4000000) (y : Nat) :
    Calls Tryd.prog 68 #[.slice a R.length c, .int .i64 (y : Int)] w (RetPost (.bool (decide (y ∈ R))) w) := by
  have hi := Lib.hid (sindex a c hr hl y)
  clear hr
  unfold RetPost
  unfold IdxPost at hi
  go_enter Tryd.func68, Tryd.ntmps68
  go_wp2_with fail
  with_reducible refine hi.out.mono ?_
  rintro e w2 ⟨r, rfl, hr, hk⟩
  have HK := Lib.hid (And.intro hr hk)
  clear hr hk
  go_wp2_with fail
  go_ret
  exact ⟨by rw [← HK.out.1]; rfl, HK.out.2⟩
end
section
variable {w : World} {own : Nat → Prop} {p E : Nat} {L : List (List Nat)}
set_option maxHeartbeats 2000000 in
theorem fat (h : Tu w own p E L) (hg : Good E L) (a b : Int) : Calls Tryd.prog 50 #[tptr p, cval a b] w (RetPost (.tuple #[.int .i64 (if chkErr L a b = 0 then atC L (a, b) else 0), errVal (chkErr L a b)]) w) := by
  have hK0 : Keeps (fun _ => False) w (w.alloc (.cells #[.int .i64 a, .int .i64 b] 41)) := (Keeps.refl _ _).alloc _
  have hB0 : Blk (w.alloc (.cells #[.int .i64 a, .int .i64 b] 41)) w.heap.size #[.int .i64 a, .int .i64 b] 41 := Blk.new _ _ _
  have HK0 := Lib.hid hK0
  have HB0 := Lib.hid hB0
  have HC := Lib.hid (tcheck (h.keep hK0) a b)
  obtain ⟨c0, c1, _, _, _⟩ := hB0.cells
  by_cases h0 : chkErr L a b = 0
  · rw [h0, if_pos rfl, errVal_zero]
    rw [h0, errVal_zero] at HC
    by_cases hb : b = -1
    · subst hb
      have he : atC L (a, -1) = -1 := if_pos rfl
      rw [he]
      unfold RetPost tptr cval at *
      clear h hg h0
      generalize hW : w.alloc (.cells #[.int .i64 a, .int .i64 (-1)] 41) = w0 at *
      go_enter Tryd.func50, Tryd.ntmps50
      go_upto_region 1 with fail
      clear hW
      go_wp2_with fail
      with_reducible refine HC.out.mono ?_
      rintro e w1 ⟨rfl, hk⟩
      have d1 := hk.cellF c1
      have HK := Lib.hid (HK0.out.trans' hk)
      clear hk
      go_wp2_with fail
      go_ret2
      exact ⟨rfl, HK.out⟩
    · have hex : ∃ m : Nat, b = m ∧ Stands L m := by
        obtain ⟨n, _, l, hl, q | ⟨m, hm, hml⟩⟩ := chk_ok h0
        · exact absurd q.1 hb
        · exact ⟨m, hm, stands_at hl hml⟩
      obtain ⟨m, rfl, hs⟩ := hex
      rw [atC_nat]
      have HN := Lib.hid (fun W (hk : Keeps (fun _ => False) w W) => tnext (h.keep hk) ((m : Nat) : Int))
      rw [dErr_stands hg.toWF hs, if_pos rfl, Int.toNat_natCast, errVal_zero] at HN
      have hne : ((m : Int) == -1) = false := by rw [beq_eq_false_iff_ne]; omega
      unfold RetPost tptr cval at *
      generalize nxt L m = z at *
      clear h hg h0 hb hs
      generalize hW : w.alloc (.cells #[.int .i64 a, .int .i64 (m : Int)] 41) = w0 at *
      go_enter Tryd.func50, Tryd.ntmps50
      go_upto_region 1 with fail
      clear hW
      go_wp2_with fail
      with_reducible refine HC.out.mono ?_
      rintro e w1 ⟨rfl, hk⟩
      have d1 := hk.cellF c1
      have HK := Lib.hid (HK0.out.trans' hk)
      clear hk
      go_wp2_with fail
      with_reducible refine (HN.out _ HK.out).mono ?_
      rintro e w2 ⟨rfl, hk⟩
      have HK2 := Lib.hid (HK.out.trans' hk)
      clear hk
      go_wp2_with fail
      go_ret2
      exact ⟨rfl, HK2.out⟩
  · rw [if_neg h0]
    have hne := errVal_pos h0
    rw [hne] at HC ⊢
    generalize chkErr L a b = k at *
    unfold RetPost tptr cval at *
    clear h hg hne
    generalize hW : w.alloc (.cells #[.int .i64 a, .int .i64 b] 41) = w0 at *
    go_enter Tryd.func50, Tryd.ntmps50
    go_upto_region 1 with fail
    clear hW
    go_wp2_with fail
    with_reducible refine HC.out.mono ?_
    rintro e w1 ⟨rfl, hk⟩
    have HK := Lib.hid (HK0.out.trans' hk)
    clear hk
    go_wp2_with fail
    go_ret2
    exact ⟨rfl, HK.out⟩
/-- What Same answers for an error. -/
def sameErr (L : List (List Nat)) (a b : Int × Int) : Nat := if chkErr L a.1 a.2 ≠ 0 then chkErr L a.1 a.2 else chkErr L b.1 b.2
theorem chk_dart {L : List (List Nat)} {a b : Int} (h0 : chkErr L a b = 0) (hb : b ≠ -1) : ∃ m : Nat, b = m ∧ Stands L m := by
  obtain ⟨n, _, l, hl, q | ⟨m, hm, hml⟩⟩ := chk_ok h0
  · exact absurd q.1 hb
  · exact ⟨m, hm, stands_at hl hml⟩
set_option maxHeartbeats 4000000 in
theorem fsame (h : Tu w own p E L) (hg : Good E L) (a b : Int × Int) : Calls Tryd.prog 52 #[tptr p, cval a.1 a.2, cval b.1 b.2] w (RetPost (.tuple #[.bool (decide (sameErr L a b = 0 ∧ sameC L E a b)), errVal (sameErr L a b)]) w) := by
  obtain ⟨a1, a2⟩ := a
  obtain ⟨b1, b2⟩ := b
  have hE2 := h.e2
  generalize hW : (w.alloc (.cells #[.int .i64 a1, .int .i64 a2] 41)).alloc (.cells #[.int .i64 b1, .int .i64 b2] 41) = w0
  have hK0 : Keeps (fun _ => False) w w0 := by rw [← hW]; exact ((Keeps.refl _ _).alloc _).alloc _
  have hBA : Blk w0 w.heap.size #[.int .i64 a1, .int .i64 a2] 41 := by rw [← hW]; exact (Blk.new _ _ _).alloc _
  have hBB : Blk w0 (w.heap.size + 1) #[.int .i64 b1, .int .i64 b2] 41 := by rw [← hW]; exact Blk.newAt _ _ _ (by simp)
  have HK0 := Lib.hid hK0
  have HBA := Lib.hid hBA
  have HBB := Lib.hid hBB
  have HA := Lib.hid (fun W (hk : Keeps (fun _ => False) w0 W) => fat ((h.keep hK0).keep hk) hg a1 a2)
  have HB := Lib.hid (fun W (hk : Keeps (fun _ => False) w0 W) => fat ((h.keep hK0).keep hk) hg b1 b2)
  obtain ⟨c0, c1, _, _, _⟩ := hBA.cells
  obtain ⟨d0, d1, _, _, _⟩ := hBB.cells
  simp only [cval] at HA HB ⊢
  by_cases h1 : chkErr L a1 a2 = 0
  · rw [h1, if_pos rfl, errVal_zero] at HA
    have hse : sameErr L (a1, a2) (b1, b2) = chkErr L b1 b2 := by unfold sameErr; rw [if_neg (by simpa using h1)]
    rw [hse]
    by_cases h2 : chkErr L b1 b2 = 0
    · rw [h2, if_pos rfl, errVal_zero] at HB
      rw [h2, errVal_zero]
      have hAN : atC L (a1, a2) = -1 ↔ a2 = -1 := by
        unfold atC; simp only
        by_cases e : a2 = -1
        · simp [e]
        · rw [if_neg e]; constructor
          · intro q; omega
          · intro q; exact absurd q e
      have hBN : atC L (b1, b2) = -1 ↔ b2 = -1 := by
        unfold atC; simp only
        by_cases e : b2 = -1
        · simp [e]
        · rw [if_neg e]; constructor
          · intro q; omega
          · intro q; exact absurd q e
      by_cases hn : a2 = -1 ∨ b2 = -1
      · have hsc : sameC L E (a1, a2) (b1, b2) ↔ a1 = b1 ∧ a2 = b2 := by
          unfold sameC
          rw [if_pos (by rw [hAN, hBN]; exact hn)]
          simp
        have hs : (decide ((0 : Nat) = 0 ∧ sameC L E (a1, a2) (b1, b2)) = true) ↔ a1 = b1 ∧ a2 = b2 := by
          rw [decide_eq_true_iff, hsc]; simp
        have HR := Lib.hid hs
        clear hs hsc
        generalize decide ((0 : Nat) = 0 ∧ sameC L E (a1, a2) (b1, b2)) = r at *
        have hx : (atC L (a1, a2) == -1) = decide (a2 = -1) := by rw [Bool.eq_iff_iff]; simp [hAN]
        have hy : (atC L (b1, b2) == -1) = decide (b2 = -1) := by rw [Bool.eq_iff_iff]; simp [hBN]
        generalize atC L (a1, a2) = xa at *
        generalize atC L (b1, b2) = xb at *
        unfold RetPost tptr at *
        clear h hg h1 h2 hse hAN hBN
        go_enter Tryd.func52, Tryd.ntmps52
        go_upto_region 1 with fail
        clear hW
        go_wp2_with fail
        with_reducible refine (HA.out _ (Keeps.refl _ _)).mono ?_
        rintro e w1 ⟨rfl, hk⟩
        have d0' := hk.cellF d0
        have d1' := hk.cellF d1
        have HK := Lib.hid hk
        clear hk c0 c1 d0 d1
        go_wp2_with fail
        with_reducible refine (HB.out _ HK.out).mono ?_
        rintro e w2 ⟨rfl, hk⟩
        have HK2 := Lib.hid (HK.out.trans' hk)
        obtain ⟨c0, c1, _, _, _⟩ := (HBA.out.kept HK2.out id).cells
        obtain ⟨d0, d1, _, _, _⟩ := (HBB.out.kept HK2.out id).cells
        clear hk d0' d1'
        rcases (show a2 = -1 ∨ ¬ a2 = -1 ∧ b2 = -1 by omega) with q | ⟨q1, q2⟩
        · rw [decide_eq_true q] at hx
          clear hn
          go_wp2_with fail
          all_goals
            go_ret2
            first
              | (have hr : r = true := HR.out.2 ⟨by omega, by omega⟩
                 exact ⟨by rw [hr]; rfl, HK0.out.trans' HK2.out⟩)
              | (have hr : r = false := by
                   cases r with
                   | false => rfl
                   | true => have := HR.out.1 rfl; omega
                 exact ⟨by rw [hr]; rfl, HK0.out.trans' HK2.out⟩)
        · rw [decide_eq_false q1] at hx
          rw [decide_eq_true q2] at hy
          clear hn
          go_wp2_with fail
          all_goals
            go_ret2
            first
              | (have hr : r = true := HR.out.2 ⟨by omega, by omega⟩
                 exact ⟨by rw [hr]; rfl, HK0.out.trans' HK2.out⟩)
              | (have hr : r = false := by
                   cases r with
                   | false => rfl
                   | true => have := HR.out.1 rfl; omega
                 exact ⟨by rw [hr]; rfl, HK0.out.trans' HK2.out⟩)
      · obtain ⟨m1, rfl, hs1⟩ := chk_dart h1 (fun q => hn (Or.inl q))
        obtain ⟨m2, rfl, hs2⟩ := chk_dart h2 (fun q => hn (Or.inr q))
        rw [atC_nat] at HA HB
        have hss : sameC L E (a1, (m1 : Int)) (b1, (m2 : Int)) ↔ nxt L m2 ∈ orb L E (nxt L m1) := by
          unfold sameC
          rw [atC_nat, atC_nat, if_neg (by omega), Int.toNat_natCast, Int.toNat_natCast]
        have hx : (((nxt L m1 : Nat) : Int) == -1) = false := by rw [beq_eq_false_iff_ne]; omega
        have hy : (((nxt L m2 : Nat) : Int) == -1) = false := by rw [beq_eq_false_iff_ne]; omega
        have hst := hg.toWF.nxt_stands hs1
        have HWK := Lib.hid (fun W (hk : Keeps (fun _ => False) w0 W) => fwalk ((h.keep hK0).keep hk) hg hst)
        have hol : (orb L E (nxt L m1)).length ≤ 2 * E := by rw [orb_length]; exact (per_le hg hst).1
        have hr : decide ((0 : Nat) = 0 ∧ sameC L E (a1, (m1 : Int)) (b1, (m2 : Int))) = decide (nxt L m2 ∈ orb L E (nxt L m1)) := by
          rw [Bool.eq_iff_iff, decide_eq_true_iff, decide_eq_true_iff, hss]; simp
        rw [hr]
        unfold RetPost LPost tptr at *
        rw [errVal_zero] at HWK
        clear h hg h1 h2 hse hAN hBN hs1 hs2 hn hst hss hr
        generalize orb L E (nxt L m1) = R at *
        generalize nxt L m1 = x at *
        generalize nxt L m2 = y at *
        go_enter Tryd.func52, Tryd.ntmps52
        go_upto_region 1 with fail
        clear hW
        go_wp2_with fail
        with_reducible refine (HA.out _ (Keeps.refl _ _)).mono ?_
        rintro e w1 ⟨rfl, hk⟩
        have d0' := hk.cellF d0
        have d1' := hk.cellF d1
        have HK := Lib.hid hk
        clear hk c0 c1 d0 d1
        go_wp2_with fail
        with_reducible refine (HB.out _ HK.out).mono ?_
        rintro e w2 ⟨rfl, hk⟩
        have HK2 := Lib.hid (HK.out.trans' hk)
        clear hk d0' d1'
        go_wp2_with fail
        with_reducible refine (HWK.out _ HK2.out).mono ?_
        rintro e w3 ⟨v3, rfl, hro, hk⟩
        obtain ⟨a3, c3, rfl, hrd, _⟩ := Rd.of_own hro
        have HSC := Lib.hid (scontains a3 c3 hrd (by omega) y)
        have HK3 := Lib.hid (HK0.out.trans' (HK2.out.trans' hk))
        unfold RetPost at HSC
        clear hk hro hrd HWK
        go_wp2_with fail
        with_reducible refine HSC.out.mono ?_
        rintro e w4 ⟨rfl, hk⟩
        have HK4 := Lib.hid (HK3.out.trans' hk)
        clear hk
        go_wp2_with fail
        go_ret2
        exact ⟨rfl, HK4.out⟩
    · have hne := errVal_pos h2
      rw [if_neg h2, hne] at HB
      have hd : decide (chkErr L b1 b2 = 0 ∧ sameC L E (a1, a2) (b1, b2)) = false := decide_eq_false fun q => h2 q.1
      rw [hd, hne]
      generalize chkErr L b1 b2 = k at *
      generalize atC L (a1, a2) = xa at *
      unfold RetPost tptr at *
      clear h hg h1 h2 hse hd hne
      go_enter Tryd.func52, Tryd.ntmps52
      go_upto_region 1 with fail
      clear hW
      go_wp2_with fail
      with_reducible refine (HA.out _ (Keeps.refl _ _)).mono ?_
      rintro e w1 ⟨rfl, hk⟩
      have d0' := hk.cellF d0
      have d1' := hk.cellF d1
      have HK := Lib.hid hk
      clear hk c0 c1 d0 d1
      go_wp2_with fail
      with_reducible refine (HB.out _ HK.out).mono ?_
      rintro e w2 ⟨rfl, hk⟩
      have HK2 := Lib.hid (HK0.out.trans' (HK.out.trans' hk))
      clear hk d0' d1'
      go_wp2_with fail
      go_ret2
      exact ⟨rfl, HK2.out⟩
  · have hne := errVal_pos h1
    have hse : sameErr L (a1, a2) (b1, b2) = chkErr L a1 a2 := by unfold sameErr; rw [if_pos (by simpa using h1)]
    rw [if_neg h1, hne] at HA
    have hd : decide (chkErr L a1 a2 = 0 ∧ sameC L E (a1, a2) (b1, b2)) = false := decide_eq_false fun q => h1 q.1
    rw [hse, hd, hne]
    generalize chkErr L a1 a2 = k at *
    unfold RetPost tptr at *
    clear h hg h1 hse hd hne HB
    go_enter Tryd.func52, Tryd.ntmps52
    go_upto_region 1 with fail
    clear hW
    go_wp2_with fail
    with_reducible refine (HA.out _ (Keeps.refl _ _)).mono ?_
    rintro e w1 ⟨rfl, hk⟩
    have HK := Lib.hid (HK0.out.trans' hk)
    clear hk c0 c1 d0 d1
    go_wp2_with fail
    go_ret2
    exact ⟨rfl, HK.out⟩
end
end Go.Proofs.YtjmkejkhpdhhbaaDoor
