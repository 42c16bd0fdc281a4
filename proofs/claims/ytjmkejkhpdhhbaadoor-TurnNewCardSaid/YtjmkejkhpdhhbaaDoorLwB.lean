/- Chapter 10's laws: TurnNew. -/
import Derived.Test.YtjmkejkhpdhhbaaDoorLwN
namespace Go.Proofs.YtjmkejkhpdhhbaaDoor
open Go Go.RowKit
set_option linter.unusedVariables false
set_option linter.unusedSimpArgs false
set_option maxRecDepth 100000

set_option maxHeartbeats 2000000 in
theorem turnNew_walk (v x : Int) (w : World) (hE : ErrT w) : Calls Tryd.prog 6 #[.int .i64 v, .int .i64 x] w (TruePost w) := by
  have HE := Lib.hid hE
  have HNUM : Hid (∀ W, Keeps (fun _ => False) w W → Calls Tryd.prog 19 #[.iface 86 (.int .i64 1)] W (NumPost 1 W)) := fun W hk => num10_err 1 W (hE.keep hk)
  have HNIL : Hid (∀ W, Calls Tryd.prog 19 #[.nilIface] W (NumPost 0 W)) := fun W => num10_nil W
  have HSURE : Hid (∀ W, Calls Tryd.prog 22 #[] W (TruePost W)) := fun W => sure10 W
  clear hE
  unfold TruePost NumPost at *
  go_enter Tryd.func6, Tryd.ntmps6
  go_wp2_with fail
  refine (nnext w 0).mono ?_
  unfold errno
  rintro e w1 ⟨rfl, hk⟩
  have H1 := Lib.hid hk
  clear hk
  go_wp2_with fail
  refine (nround w1 0).mono ?_
  unfold errno
  rintro e w2 ⟨rfl, hk⟩
  have H2 := Lib.hid (H1.out.trans' hk)
  clear hk
  go_wp2_with fail
  refine (ndegree w2 0).mono ?_
  unfold errno
  rintro e w3 ⟨rfl, hk⟩
  have H3 := Lib.hid (H2.out.trans' hk)
  clear hk
  go_wp2_with fail
  refine (nsizes w3).mono ?_
  rintro e w4 ⟨rfl, hk⟩
  have H4 := Lib.hid (H3.out.trans' hk)
  clear hk
  go_wp2_with fail
  refine (HNUM.out _ H4.out).mono ?_
  rintro e w5 ⟨rfl, hk⟩
  have H5 := Lib.hid (H4.out.trans' hk)
  clear hk
  go_wp2_with fail
  refine (HNUM.out _ H5.out).mono ?_
  rintro e w6 ⟨rfl, hk⟩
  have H6 := Lib.hid (H5.out.trans' hk)
  clear hk
  go_wp2_with fail
  refine (HNUM.out _ H6.out).mono ?_
  rintro e w7 ⟨rfl, hk⟩
  have H7 := Lib.hid (H6.out.trans' hk)
  clear hk
  go_wp2_with fail
  refine (nlay w7 0 0 0 0 0).mono ?_
  unfold errno
  rintro e w8 ⟨rfl, hk⟩
  have H8 := Lib.hid (H7.out.trans' hk)
  clear hk
  go_wp2_with fail
  refine (HNUM.out _ H8.out).mono ?_
  rintro e w9 ⟨rfl, hk⟩
  have H9 := Lib.hid (H8.out.trans' hk)
  clear hk
  go_wp2_with fail
  refine (nlift w9 0).mono ?_
  unfold errno
  rintro e w10 ⟨rfl, hk⟩
  have H10 := Lib.hid (H9.out.trans' hk)
  clear hk
  go_wp2_with fail
  refine (HNUM.out _ H10.out).mono ?_
  rintro e w11 ⟨rfl, hk⟩
  have H11 := Lib.hid (H10.out.trans' hk)
  clear hk
  go_wp2_with fail
  refine (ncheck w11 0 0).mono ?_
  unfold errno
  rintro e w12 ⟨rfl, hk⟩
  have H12 := Lib.hid (H11.out.trans' hk)
  clear hk
  go_wp2_with fail
  refine (HNUM.out _ H12.out).mono ?_
  rintro e w13 ⟨rfl, hk⟩
  have H13 := Lib.hid (H12.out.trans' hk)
  clear hk
  go_wp2_with fail
  refine (nhas w13 0).mono ?_
  rintro e w14 ⟨rfl, hk⟩
  have H14 := Lib.hid (H13.out.trans' hk)
  clear hk H1 H2 H3 H4 H5 H6 H7 H8 H9 H10 H11 H12 H13
  by_cases hbad : v < 1 ∨ 1048576 < v ∨ x < 1 ∨ 1048576 < x
  · have hb := Lib.hid (tnew_bad v x w14 hbad)
    rcases (show v < 1 ∨ (1 ≤ v ∧ 1048576 < v) ∨ (1 ≤ v ∧ v ≤ 1048576 ∧ x < 1) ∨ (1 ≤ v ∧ v ≤ 1048576 ∧ 1 ≤ x ∧ 1048576 < x) by omega) with h1 | ⟨h1, h2⟩ | ⟨h1, h2, h3⟩ | ⟨h1, h2, h3, h4⟩
    case' inl => have d1 : decide (1 ≤ v) = false := by simp; omega
    case' inr.inl => (have d1 : decide (1 ≤ v) = true := by simp; omega); have d2 : decide (v ≤ 1048576) = false := by simp; omega
    case' inr.inr.inl => (have d1 : decide (1 ≤ v) = true := by simp; omega); (have d2 : decide (v ≤ 1048576) = true := by simp; omega); have d3 : decide (1 ≤ x) = false := by simp; omega
    case' inr.inr.inr => (have d1 : decide (1 ≤ v) = true := by simp; omega); (have d2 : decide (v ≤ 1048576) = true := by simp; omega); (have d3 : decide (1 ≤ x) = true := by simp; omega); have d4 : decide (x ≤ 1048576) = false := by simp; omega
    all_goals
      clear hbad
      unfold RetPost errno at hb
      go_wp2_with fail
      refine hb.out.mono ?_
      rintro e w15 ⟨rfl, hk⟩
      have H15 := Lib.hid (H14.out.trans' hk)
      clear hk hb
      go_wp2_with fail
      refine (HNUM.out _ H15.out).mono ?_
      rintro e w16 ⟨rfl, hk⟩
      have H16 := Lib.hid (H15.out.trans' hk)
      clear hk
      go_wp2_with fail
      refine (HSURE.out _).mono ?_
      rintro e w17 ⟨rfl, hk⟩
      have H17 := Lib.hid (H16.out.trans' hk)
      clear hk
      go_wp2_with fail
      go_ret
      exact ⟨rfl, H17.out⟩
  · obtain ⟨V, rfl⟩ := Int.eq_ofNat_of_zero_le (show 0 ≤ v by omega)
    obtain ⟨E, rfl⟩ := Int.eq_ofNat_of_zero_le (show 0 ≤ x by omega)
    have d1 : decide (1 ≤ (V : Int)) = true := by simp; omega
    have d2 : decide ((V : Int) ≤ 1048576) = true := by simp; omega
    have d3 : decide (1 ≤ (E : Int)) = true := by simp; omega
    have d4 : decide ((E : Int) ≤ 1048576) = true := by simp; omega
    have hn := Lib.hid (tnew V E w14 (by omega) (by omega) (by omega) (by omega))
    clear hbad
    rcases (show 3000 < V ∨ V ≤ 3000 ∧ 3000 < E ∨ V ≤ 3000 ∧ E ≤ 3000 by omega) with h1 | ⟨h1, h2⟩ | ⟨h1, h2⟩
    · have d5 : decide ((3000 : Int) < (V : Int)) = true := by simp; omega
      go_wp2_with fail
      refine (HSURE.out _).mono ?_
      rintro e w17 ⟨rfl, hk⟩
      have H17 := Lib.hid (H14.out.trans' hk)
      clear hk
      go_wp2_with fail
      go_ret
      exact ⟨rfl, H17.out⟩
    · have d5 : decide ((3000 : Int) < (V : Int)) = false := by simp; omega
      have d6 : decide ((3000 : Int) < (E : Int)) = true := by simp; omega
      go_wp2_with fail
      refine (HSURE.out _).mono ?_
      rintro e w17 ⟨rfl, hk⟩
      have H17 := Lib.hid (H14.out.trans' hk)
      clear hk
      go_wp2_with fail
      go_ret
      exact ⟨rfl, H17.out⟩
    · have d5 : decide ((3000 : Int) < (V : Int)) = false := by simp; omega
      have d6 : decide ((3000 : Int) < (E : Int)) = false := by simp; omega
      go_wp2_with fail
      refine hn.out.mono ?_
      rintro e w15 ⟨p, own, rfl, ht, hge, hk⟩
      have H15 := Lib.hid (H14.out.trans' hk)
      have hs := Lib.hid (tsizes ht)
      rw [List.length_replicate] at hs
      clear ht hge hk hn
      unfold tptr RetPost at *
      go_wp2_with fail
      refine hs.out.mono ?_
      rintro e w16 ⟨rfl, hk⟩
      have H16 := Lib.hid (H15.out.trans' hk)
      clear hk hs
      have b1 : ((V : Int) == (V : Int)) = true := by simp
      have b2 : ((E : Int) == (E : Int)) = true := by simp
      go_wp2_with fail
      refine (HSURE.out _).mono ?_
      rintro e w17 ⟨rfl, hk⟩
      have H17 := Lib.hid (H16.out.trans' hk)
      clear hk
      go_wp2_with fail
      go_ret
      exact ⟨rfl, H17.out⟩
theorem turnNew_enter (W : World) (hE : ErrT W) (v : Int) (_ : (Lit.int .i64 v).wf = true) (x : Int) (_ : (Lit.int .i64 x).wf = true) :
    Calls Tryd.prog 6 #[.int .i64 v, .int .i64 x] W (TruePost W) := turnNew_walk v x W hE
end Go.Proofs.YtjmkejkhpdhhbaaDoor
