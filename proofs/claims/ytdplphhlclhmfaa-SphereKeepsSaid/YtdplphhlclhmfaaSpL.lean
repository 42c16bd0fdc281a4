/- Plain: loops round one vertex. -/
import Derived.Test.YtdplphhlclhmfaaSpQ
namespace Go.Proofs.Ytdplphhlclhmfaa
open Go Go.RowKit
set_option linter.unusedVariables false
set_option linter.unusedSimpArgs false

section
variable {E n : Nat} {L : List (List Nat)}
theorem sameC_self (L : List (List Nat)) (E : Nat) (c : Int × Int) : sameC L E c c := by
  unfold sameC
  split
  · rfl
  · exact orb_self _
/-- One vertex, so many loops: that many edges are laid, the first ones. -/
structure LoopAt (E n : Nat) (L : List (List Nat)) : Prop where
  good : Good E L
  one : L.length = 1
  laid : ∀ e, Stands L (2 * e) ↔ e < n
  le : n ≤ E
  pos : 1 ≤ n
  tell : (faces L E).length = n + 1
theorem LoopAt.ne (h : LoopAt E n L) : L.getD 0 [] ≠ [] := by
  have hs := (h.laid 0).2 h.pos
  intro e
  obtain ⟨v, l, hv, hm⟩ := stands_iff.1 hs
  have hvl := (List.getElem?_eq_some_iff.1 hv).1
  have : v = 0 := by have := h.one; omega
  subst this
  rw [getD_some hv] at e
  subst e
  cases hm
theorem emp_one {L : List (List Nat)} (h : L.length = 1) : emp L = if L.getD 0 [] = [] then 1 else 0 := by
  unfold emp empN
  rw [h]
  by_cases e : L.getD 0 [] = []
  · rw [cnt, if_pos e, if_pos e]; rfl
  · rw [cnt, if_neg e, if_neg e]; rfl
theorem LoopAt.dart (h : LoopAt E n L) {d : Nat} (hd : d < 2 * n) : Stands L d := by
  have h1 := (h.laid (d / 2)).2 (by omega)
  by_cases ho : d % 2 = 1
  · have := (h.good.pair (d / 2)).2 h1
    rwa [show 2 * (d / 2) + 1 = d by omega] at this
  · rwa [show 2 * (d / 2) = d by omega] at h1
theorem LoopAt.chk (h : LoopAt E n L) {d : Nat} (hd : d < 2 * n) : chkErr L 0 (d : Int) = 0 := by
  have hs := h.dart hd
  obtain ⟨v, l, hv, hm⟩ := stands_iff.1 hs
  have hvl := (List.getElem?_eq_some_iff.1 hv).1
  have : v = 0 := by have := h.one; omega
  subst this
  unfold chkErr
  rw [if_neg (by have := h.one; omega), if_neg (by omega), if_neg]
  rintro (q | q)
  · omega
  · rw [Int.toNat_natCast] at q
    exact q (by rw [show (0 : Int).toNat = 0 from rfl, getD_some hv]; exact hm)
theorem LoopAt.step (h : LoopAt E n L) (hn : n < E) {d : Nat} (hd : d < 2 * n) : layErr E L (n : Int) (0, (d : Int)) (0, (d : Int)) = 0 ∧ LoopAt E (n + 1) (lay E L (n : Int) (0, (d : Int)) (0, (d : Int))) := by
  have hns : ¬ Stands L (2 * n) := fun q => by have := (h.laid n).1 q; omega
  have hc := h.chk hd
  have he : layErr E L (n : Int) (0, (d : Int)) (0, (d : Int)) = 0 := by
    unfold layErr
    rw [if_neg (by omega), Int.toNat_natCast, if_neg hns, if_neg (by simp only; rw [hc]; exact fun q => q rfl)]
    exact hc
  have hl : lay E L (n : Int) (0, (d : Int)) (0, (d : Int)) = layL L n (0, (d : Int)) (0, (d : Int)) := by
    unfold lay
    rw [if_pos he, Int.toNat_natCast]
  have hg := h.good.lay (n : Int) (0, (d : Int)) (0, (d : Int))
  refine ⟨he, hg, ?_, ?_, by omega, by omega, ?_⟩
  · rw [lay_length]; exact h.one
  · intro e
    rw [hl, lay_stands hc hc, h.laid]
    omega
  · have hg' := hg
    rw [hl] at hg'
    have hlen : (layL L n (0, (d : Int)) (0, (d : Int))).length = 1 := by rw [← hl, lay_length]; exact h.one
    have hs := (splits h.good hn hns hc hc hg').1 (sameC_self _ _ _)
    have hne : (layL L n (0, (d : Int)) (0, (d : Int))).getD 0 [] ≠ [] := by
      intro e
      have hst : Stands (layL L n (0, (d : Int)) (0, (d : Int))) (2 * n) := (lay_stands hc hc).2 (Or.inl (by omega))
      obtain ⟨v, l, hv, hm⟩ := stands_iff.1 hst
      have hvl := (List.getElem?_eq_some_iff.1 hv).1
      have : v = 0 := by omega
      subst this
      rw [getD_some hv] at e
      subst e
      cases hm
    rw [emp_one hlen, emp_one h.one, if_neg hne, if_neg h.ne, h.tell] at hs
    rw [hl]
    omega
theorem LoopAt.start : LoopAt 12 1 [[0, 1]] := by
  have hg := (Good.new 12 1).lay 0 (0, -1) (0, -1)
  have e : lay 12 (List.replicate 1 []) 0 (0, -1) (0, -1) = [[0, 1]] := by decide
  rw [e] at hg
  refine ⟨hg, rfl, fun e => ?_, by decide, by decide, by decide⟩
  unfold Stands
  simp
  omega
theorem LoopAt.laidN (h : LoopAt E n L) : ∀ k, k ≤ n → Proofs.Ytdplphhlclhmfaa.laidN L k = k
  | 0, _ => rfl
  | k + 1, hk => by rw [laidN_step, h.laidN k (by omega), if_pos ((h.laid k).2 (by omega))]
theorem laidN_same {L : List (List Nat)} {n : Nat} : ∀ k, (∀ e, n ≤ e → ¬ Stands L (2 * e)) → laidN L (n + k) = laidN L n
  | 0, _ => rfl
  | k + 1, h => by rw [← Nat.add_assoc, laidN_step, laidN_same k h, if_neg (h _ (by omega)), Nat.add_zero]
theorem LoopAt.deg (h : LoopAt E n L) : (L.getD 0 []).length = 2 * n := by
  have h1 := sums h.good
  have h2 : Proofs.Ytdplphhlclhmfaa.laidN L E = n := by
    have h3 := laidN_same (L := L) (n := n) (E - n) (fun e he q => by have := (h.laid e).1 q; omega)
    rw [show n + (E - n) = E by have := h.le; omega] at h3
    rw [h3, h.laidN n (Nat.le_refl _)]
  rw [h.one, h2] at h1
  have := manyN_step (L := L) (n := 0) (by rw [h.one]; decide)
  rw [manyN_zero, h1] at this
  omega
/-- The counts of one vertex's component. -/
theorem fAdd_one {g : List Nat} (hg : ∀ v, g.getD v 0 = 0) (F : List (List Nat)) : ∀ (M : Nat → Option Cnt3) (x : Cnt3), M 0 = some x → (∀ k, k ≠ 0 → M k = none) → (F.foldl (fAdd L g) M) 0 = some (x.1, x.2.1, x.2.2 + F.length) ∧ ∀ k, k ≠ 0 → (F.foldl (fAdd L g) M) k = none := by
  induction F with
  | nil => intro M x h0 h; exact ⟨by simpa using h0, h⟩
  | cons f F ih =>
    intro M x h0 h
    have e0 : fAdd L g M f 0 = some (x.1, x.2.1, x.2.2 + 1) := by
      unfold fAdd
      rw [hg, addM_same, h0]
      simp
    have e1 : ∀ k, k ≠ 0 → fAdd L g M f k = none := fun k hk => by
      unfold fAdd
      rw [hg, addM_other _ _ hk]; exact h k hk
    have := ih _ _ e0 e1
    rw [List.foldl_cons]
    refine ⟨?_, this.2⟩
    rw [this.1]
    simp only [List.length_cons, Option.some.injEq, Prod.mk.injEq, true_and]
    omega
theorem grp_one (h : Good E L) (h1 : L.length = 1) (v : Nat) : (grp L E).getD v 0 = 0 := by
  have hok := grp_ok h
  by_cases hv : v < 1
  · have := hok.le v (by omega)
    omega
  · rw [List.getD_eq_getElem?_getD, List.getElem?_eq_none (by rw [hok.len]; omega)]; rfl
theorem LoopAt.each (h : LoopAt E n L) : (eachM L (grp L E) [0] (faces L E)) 0 = some (1, 2 * (n : Int), (n : Int) + 1) ∧ ∀ k, k ≠ 0 → (eachM L (grp L E) [0] (faces L E)) k = none := by
  have hg := grp_one h.good h.one
  have hd := h.deg
  have hp := h.pos
  unfold eachM
  have e0 : eachV L (grp L E) [0] 0 = some (1, 2 * (n : Int), 0) := by
    unfold eachV
    rw [List.foldl_cons, List.foldl_nil]
    unfold vAdd
    rw [if_neg (by omega), hg, addM_same, hd]
    simp
  have e1 : ∀ k, k ≠ 0 → eachV L (grp L E) [0] k = none := fun k hk => by
    unfold eachV
    rw [List.foldl_cons, List.foldl_nil]
    unfold vAdd
    rw [if_neg (by omega), hg, addM_other _ _ hk]
  have := fAdd_one (L := L) hg (faces L E) _ _ e0 e1
  rw [h.tell] at this
  refine ⟨?_, this.2⟩
  rw [this.1]
  simp
end
end Go.Proofs.Ytdplphhlclhmfaa
