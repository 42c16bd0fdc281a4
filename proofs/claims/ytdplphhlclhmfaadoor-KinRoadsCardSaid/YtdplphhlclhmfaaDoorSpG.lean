/- sphere: Legal. -/
import Derived.Test.YtdplphhlclhmfaaDoorSpA
namespace Go.Proofs.YtdplphhlclhmfaaDoor
open Go Go.RowKit
set_option linter.unusedVariables false
set_option linter.unusedSimpArgs false
set_option maxRecDepth 100000

/-- Does an edge between two corners cross none? -/
def legalC (L : List (List Nat)) (E : Nat) (a b : Int × Int) : Prop := sameC L E a b ∨ (grp L E).getD a.1.toNat 0 ≠ (grp L E).getD b.1.toNat 0
instance (L : List (List Nat)) (E : Nat) (a b : Int × Int) : Decidable (legalC L E a b) := by unfold legalC; infer_instance
section
variable {w : World} {own : Nat → Prop} {p E : Nat} {L : List (List Nat)}
set_option maxHeartbeats 2000000 in
theorem slegal (h : Tu w own p E L) (hg : Good E L) (a b : Int × Int) : Calls Tryd.prog 19 #[tptr p, cval a.1 a.2, cval b.1 b.2] w (RetPost (.tuple #[.bool (decide (sameErr L a b = 0 ∧ legalC L E a b)), errVal (sameErr L a b)]) w) := by
  generalize hW : (w.alloc (.cells #[.int .i64 a.1, .int .i64 a.2] 51)).alloc (.cells #[.int .i64 b.1, .int .i64 b.2] 51) = w0
  have hK0 : Keeps (fun _ => False) w w0 := by rw [← hW]; exact ((Keeps.refl _ _).alloc _).alloc _
  have hBA : Blk w0 w.heap.size #[.int .i64 a.1, .int .i64 a.2] 51 := by rw [← hW]; exact (Blk.new _ _ _).alloc _
  have hBB : Blk w0 (w.heap.size + 1) #[.int .i64 b.1, .int .i64 b.2] 51 := by rw [← hW]; exact Blk.newAt _ _ _ (by simp)
  have HK0 := Lib.hid hK0
  have HBA := Lib.hid hBA
  have HBB := Lib.hid hBB
  have HF := Lib.hid (fsame (h.keep hK0) hg a b)
  have HG := Lib.hid (fun W (hk : Keeps (fun _ => False) w0 W) => sgroups ((h.keep hK0).keep hk) hg)
  have hV := h.v2
  obtain ⟨c0, c1, _, _, _⟩ := hBA.cells
  obtain ⟨d0, d1, _, _, _⟩ := hBB.cells
  simp only [cval] at HF ⊢
  by_cases h0 : sameErr L a b = 0
  · by_cases h1 : sameC L E a b
    · have hd : decide (sameErr L a b = 0 ∧ sameC L E a b) = true := decide_eq_true ⟨h0, h1⟩
      have hd2 : decide (sameErr L a b = 0 ∧ legalC L E a b) = true := decide_eq_true ⟨h0, Or.inl h1⟩
      rw [hd, h0, errVal_zero] at HF
      rw [hd2, h0, errVal_zero]
      clear h hg hBA hBB hK0 h0 h1 hd hd2 HG HBA HBB
      generalize a.1 = a1 at *
      generalize a.2 = a2 at *
      generalize b.1 = b1 at *
      generalize b.2 = b2 at *
      unfold RetPost tptr at *
      go_enter Tryd.func19, Tryd.ntmps19
      go_upto_region 1 with fail
      clear hW
      go_wp2_with fail
      with_reducible refine HF.out.mono ?_
      rintro e w1 ⟨rfl, hk⟩
      have HK := Lib.hid (HK0.out.trans' hk)
      clear hk HF
      go_wp2_with fail
      refine bodyPost_ret (v := .tuple #[.bool true, .nilIface]) (by simp [results, Tryd.results19, go_sem]) rfl ?_
      exact ⟨rfl, HK.out⟩
    · have hd : decide (sameErr L a b = 0 ∧ sameC L E a b) = false := decide_eq_false fun q => h1 q.2
      have hab : chkErr L a.1 a.2 = 0 ∧ chkErr L b.1 b.2 = 0 := by
        unfold sameErr at h0
        by_cases q : chkErr L a.1 a.2 = 0
        · rw [if_neg (by simpa using q)] at h0; exact ⟨q, h0⟩
        · rw [if_pos q] at h0; exact absurd h0 q
      obtain ⟨x, hx, l, hxl, _⟩ := chk_ok hab.1
      obtain ⟨y, hy, l2, hyl, _⟩ := chk_ok hab.2
      have hxN := (List.getElem?_eq_some_iff.1 hxl).1
      have hyN := (List.getElem?_eq_some_iff.1 hyl).1
      have hd2 : decide (sameErr L a b = 0 ∧ legalC L E a b) = !decide ((grp L E).getD x 0 = (grp L E).getD y 0) := by
        have e : legalC L E a b ↔ (grp L E).getD x 0 ≠ (grp L E).getD y 0 := by
          unfold legalC
          rw [hx, hy, Int.toNat_natCast, Int.toNat_natCast]
          exact ⟨fun q => q.resolve_left h1, Or.inr⟩
        rw [← decide_not]
        refine decide_eq_decide.2 ⟨fun q => e.1 q.2, fun q => ⟨h0, e.2 q⟩⟩
      rw [hd, h0, errVal_zero] at HF
      rw [hd2, h0, errVal_zero]
      rw [hx] at c0 hBA HBA HF hW
      rw [hy] at d0 hBB HBB HF hW
      have HU := Lib.hid (fun W pp ow (hu : Uf W ow pp L.length E (grp L E)) => usame hu hxN hyN)
      rw [hx, hy]
      clear h hg hBA hBB hK0 h0 h1 hd hd2 hab hxl hyl hx hy
      generalize hr : decide ((grp L E).getD x 0 = (grp L E).getD y 0) = r at *
      clear hr
      generalize grp L E = g at *
      generalize a.2 = a2 at *
      generalize b.2 = b2 at *
      unfold RetPost GrpPost tptr at *
      go_enter Tryd.func19, Tryd.ntmps19
      go_upto_region 1 with fail
      clear hW
      go_wp2_with fail
      with_reducible refine HF.out.mono ?_
      rintro e w1 ⟨rfl, hk⟩
      have HK1 := Lib.hid hk
      clear hk HF c0 c1 d0 d1
      go_wp2_with fail
      with_reducible refine (HG.out _ HK1.out).mono ?_
      rintro e w2 ⟨pp, rfl, ow, hu, hlow, hk⟩
      have HK2 := Lib.hid (HK1.out.trans' hk)
      obtain ⟨c0, _, _, _, _⟩ := (HBA.out.kept HK2.out id).cells
      obtain ⟨d0, _, _, _, _⟩ := (HBB.out.kept HK2.out id).cells
      have HUS := Lib.hid (HU.out _ _ _ hu)
      clear hu hlow hk HK1 HG HU HBA HBB
      go_wp2_with fail
      with_reducible refine HUS.out.mono ?_
      rintro e w3 ⟨rfl, hk⟩
      have HK3 := Lib.hid (HK0.out.trans' (HK2.out.trans' hk))
      clear hk HUS
      cases r
      all_goals
        go_wp2_with fail
        refine bodyPost_ret (v := .tuple #[.bool _, .nilIface]) (by simp [results, Tryd.results19, go_sem]; rfl) rfl ?_
        exact ⟨rfl, HK3.out⟩
  · have hd : decide (sameErr L a b = 0 ∧ sameC L E a b) = false := decide_eq_false fun q => h0 q.1
    have hd2 : decide (sameErr L a b = 0 ∧ legalC L E a b) = false := decide_eq_false fun q => h0 q.1
    rw [hd, errVal_pos h0] at HF
    rw [hd2, errVal_pos h0]
    clear h hg hBA hBB hK0 h0 hd hd2 HG HBA HBB
    generalize a.1 = a1 at *
    generalize a.2 = a2 at *
    generalize b.1 = b1 at *
    generalize b.2 = b2 at *
    generalize sameErr L a b = se at *
    unfold RetPost tptr at *
    go_enter Tryd.func19, Tryd.ntmps19
    go_upto_region 1 with fail
    clear hW
    go_wp2_with fail
    with_reducible refine HF.out.mono ?_
    rintro e w1 ⟨rfl, hk⟩
    have HK := Lib.hid (HK0.out.trans' hk)
    clear hk HF
    go_wp2_with fail
    refine bodyPost_ret (v := .tuple #[.bool false, .iface 87 (.int .i64 (se : Int))]) (by simp [results, Tryd.results19, go_sem]) rfl ?_
    exact ⟨rfl, HK.out⟩
end
end Go.Proofs.YtdplphhlclhmfaaDoor
