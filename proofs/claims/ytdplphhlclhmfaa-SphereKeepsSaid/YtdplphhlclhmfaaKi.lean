/- The document's faces: Next, Walk. The document's faces: All. The document's faces: At, Same. Plain: the groups that edges make. -/
import Derived.Deep.RegionHeld3
import Derived.Test.YtdplphhlclhmfaaKh
namespace Go.Proofs.Ytdplphhlclhmfaa
open Go Go.RowKit
set_option linter.unusedVariables false
set_option linter.unusedSimpArgs false
set_option maxRecDepth 100000

section
variable {w : World} {B E : Nat} {v : Value} {L : List (List Nat)}
theorem tmod_two (d : Nat) : ((d : Int).tmod 2) = ((d % 2 : Nat) : Int) := (Int.ofNat_tmod d 2).symm
theorem len_less {m k : Nat} (h : m = k + 1) (hk : k < 4000000) : IntKind.i64.wrap ((m : Int) - 1) = (k : Int) ∧ wrap64 ((m : Int) - 1) = (k : Int) ∧ (m : Int) - 1 = (k : Int) := by
  subst h
  refine ⟨?_, ?_, by omega⟩
  · rw [IntKind.wrap_i64]; omega
  · unfold wrap64; omega
end
theorem mn_step {R : List Nat} {d k : Nat} (hk : k < R.length) : (R.take (k + 1)).foldl min d = min ((R.take k).foldl min d) (R.getD k 0) := by
  rw [take_next hk, List.foldl_append]; rfl
theorem mn_le (R : List Nat) : ∀ d, R.foldl min d ≤ d := by
  induction R with
  | nil => intro d; exact Nat.le_refl _
  | cons x R ih => intro d; exact Nat.le_trans (ih _) (Nat.min_le_left _ _)
theorem mn_iff (R : List Nat) : ∀ d, R.foldl min d = d ↔ ∀ x ∈ R, d ≤ x := by
  induction R with
  | nil => intro d; simp
  | cons x R ih =>
    intro d
    simp only [List.foldl_cons, List.mem_cons, forall_eq_or_imp]
    constructor
    · intro h
      have h1 := mn_le R (min d x)
      rw [h] at h1
      have h2 : min d x = d := by omega
      rw [h2] at h
      exact ⟨by omega, (ih d).1 h⟩
    · rintro ⟨h1, h2⟩
      rw [Nat.min_eq_left h1]
      exact (ih d).2 h2
theorem mn_lt {R : List Nat} {N : Nat} (h : ∀ x ∈ R, x < N) : ∀ d, d < N → ∀ k, (R.take k).foldl min d < N := fun d hd k => Nat.lt_of_le_of_lt (mn_le _ d) hd
section
variable {E : Nat} {L : List (List Nat)}
theorem least_mn {d : Nat} (hs : Stands L d) : least L E d = true ↔ (orb L E d).foldl min d = d := by
  rw [least_iff, mn_iff]
  exact ⟨fun h => h.2, fun h => ⟨hs, h⟩⟩
theorem faces_darts : ((dartsN L (2 * E)).filter (least L E)).map (orb L E) = faces L E := by
  unfold faces facesN dartsN
  rw [List.filter_filter]
  congr 2
  funext d
  by_cases h : Stands L d
  · rw [decide_eq_true h, Bool.and_true]
  · rw [decide_eq_false h, none_least h]; rfl
end
section
variable {w : World} {B E : Nat} {v : Value} {L : List (List Nat)}
theorem atC_none {L : List (List Nat)} (a : Int × Int) : atC L a = -1 ↔ a.2 = -1 := by
  unfold atC
  by_cases e : a.2 = -1
  · simp [e]
  · rw [if_neg e]; constructor
    · intro q; omega
    · intro q; exact absurd q e
theorem atC_neg {L : List (List Nat)} (a : Int × Int) : atC L a < 0 ↔ a.2 = -1 := by
  rw [← atC_none (L := L)]
  unfold atC
  split
  · simp
  · constructor <;> intro q <;> omega
end
/-- The groups that edges below a bound make. -/
def grpN (L : List (List Nat)) : Nat → List Nat
  | 0 => aloneG L.length
  | e + 1 => if Stands L (2 * e) then joinG (grpN L e) (vtx L (2 * e)) (vtx L (2 * e + 1)) else grpN L e
def grp (L : List (List Nat)) (E : Nat) : List Nat := grpN L E
/-- .. as the document makes them, dart by dart. -/
def grpS (L : List (List Nat)) (g : List Nat) (d : Nat) : List Nat := if d % 2 = 0 then joinG g (vtx L d) (vtx L (d + 1)) else g
section
variable {E : Nat} {L : List (List Nat)}
theorem grpN_length (n : Nat) : (grpN L n).length = L.length := by
  induction n with
  | zero => simp [grpN, aloneG]
  | succ n ih =>
    rw [grpN]; split
    · rw [join_length, ih]
    · exact ih
theorem grpN_ok (h : Good E L) : ∀ n, GOk L.length (grpN L n)
  | 0 => alone_ok _
  | n + 1 => by
    rw [grpN]; split
    · rename_i hs
      exact join_ok (grpN_ok h n) (h.toWF.vtx_lt hs) (h.toWF.vtx_lt ((h.pair n).2 hs))
    · exact grpN_ok h n
theorem grp_ok (h : Good E L) : GOk L.length (grp L E) := grpN_ok h E
theorem grp_darts (h : Good E L) : ∀ n, (dartsN L (2 * n)).foldl (grpS L) (aloneG L.length) = grpN L n
  | 0 => rfl
  | n + 1 => by
    rw [show 2 * (n + 1) = 2 * n + 1 + 1 by omega, dartsN_step, dartsN_step, grpN]
    by_cases hs : Stands L (2 * n)
    · have h1 : Stands L (2 * n + 1) := (h.pair n).2 hs
      rw [if_pos hs, if_pos h1, if_pos hs, List.foldl_append, List.foldl_append, grp_darts h n]
      simp only [List.foldl_cons, List.foldl_nil]
      rw [show grpS L (grpN L n) (2 * n) = joinG (grpN L n) (vtx L (2 * n)) (vtx L (2 * n + 1)) by unfold grpS; rw [if_pos (by omega)]]
      unfold grpS
      rw [if_neg (by omega)]
    · have h1 : ¬ Stands L (2 * n + 1) := fun q => hs ((h.pair n).1 q)
      rw [if_neg hs, if_neg h1, if_neg hs, grp_darts h n]
/-- What edges hang together. -/
inductive Hang (L : List (List Nat)) : Nat → Nat → Prop
  | refl (v : Nat) : Hang L v v
  | edge {u : Nat} (e : Nat) : Stands L (2 * e) → Hang L u (vtx L (2 * e)) → Hang L u (vtx L (2 * e + 1))
  | back {u : Nat} (e : Nat) : Stands L (2 * e) → Hang L u (vtx L (2 * e + 1)) → Hang L u (vtx L (2 * e))
theorem Hang.trans {u v x : Nat} (h : Hang L u v) (k : Hang L v x) : Hang L u x := by
  induction k with
  | refl => exact h
  | edge e hs _ ih => exact .edge e hs ih
  | back e hs _ ih => exact .back e hs ih
theorem Hang.symm {u v : Nat} (h : Hang L u v) : Hang L v u := by
  induction h with
  | refl => exact .refl _
  | edge e hs _ ih => exact Hang.trans (.back e hs (.refl _)) ih
  | back e hs _ ih => exact Hang.trans (.edge e hs (.refl _)) ih
theorem grpN_hang (h : Good E L) : ∀ n u v, u < L.length → v < L.length → (grpN L n).getD u 0 = (grpN L n).getD v 0 → Hang L u v
  | 0, u, v, hu, hv, q => by
    rw [grpN, alone_get hu, alone_get hv] at q
    rw [q]; exact .refl _
  | n + 1, u, v, hu, hv, q => by
    rw [grpN] at q
    split at q
    · rename_i hs
      have ha := h.toWF.vtx_lt hs
      have hb := h.toWF.vtx_lt ((h.pair n).2 hs)
      have hab : Hang L (vtx L (2 * n)) (vtx L (2 * n + 1)) := .edge n hs (.refl _)
      rcases (join_same (grpN_ok h n) hu hv).1 q with q | ⟨q1, q2⟩
      · exact grpN_hang h n u v hu hv q
      · have h1 : Hang L u (vtx L (2 * n)) := q1.elim (fun q => grpN_hang h n _ _ hu ha q) (fun q => (grpN_hang h n _ _ hu hb q).trans hab.symm)
        have h2 : Hang L v (vtx L (2 * n)) := q2.elim (fun q => grpN_hang h n _ _ hv ha q) (fun q => (grpN_hang h n _ _ hv hb q).trans hab.symm)
        exact h1.trans h2.symm
    · exact grpN_hang h n u v hu hv q
theorem grpN_keeps (h : Good E L) {u v n : Nat} (hu : u < L.length) (hv : v < L.length) (q : (grpN L n).getD u 0 = (grpN L n).getD v 0) : ∀ k, (grpN L (n + k)).getD u 0 = (grpN L (n + k)).getD v 0
  | 0 => q
  | k + 1 => by
    have ih := grpN_keeps h hu hv q k
    rw [← Nat.add_assoc, grpN]
    split
    · exact (join_same (grpN_ok h _) hu hv).2 (Or.inl ih)
    · exact ih
theorem grp_edge (h : Good E L) {e : Nat} (hs : Stands L (2 * e)) : (grp L E).getD (vtx L (2 * e)) 0 = (grp L E).getD (vtx L (2 * e + 1)) 0 := by
  have he : e + 1 ≤ E := by have := h.toWF.bdS hs; omega
  have ha := h.toWF.vtx_lt hs
  have hb := h.toWF.vtx_lt ((h.pair e).2 hs)
  have h0 : (grpN L (e + 1)).getD (vtx L (2 * e)) 0 = (grpN L (e + 1)).getD (vtx L (2 * e + 1)) 0 := by
    rw [grpN, if_pos hs]
    exact (join_same (grpN_ok h e) ha hb).2 (Or.inr ⟨Or.inl rfl, Or.inr rfl⟩)
  have := grpN_keeps h ha hb h0 (E - (e + 1))
  rwa [show e + 1 + (E - (e + 1)) = E by omega] at this
theorem grp_iff (h : Good E L) {u v : Nat} (hu : u < L.length) (hv : v < L.length) : (grp L E).getD u 0 = (grp L E).getD v 0 ↔ Hang L u v := by
  refine ⟨grpN_hang h E u v hu hv, fun k => ?_⟩
  clear hu hv
  induction k with
  | refl => rfl
  | edge e hs _ ih => exact ih.trans (grp_edge h hs)
  | back e hs _ ih => exact ih.trans (grp_edge h hs).symm
/-- Lists that tell one partition are one. -/
theorem gok_ext {n : Nat} {g k : List Nat} (hg : GOk n g) (hk : GOk n k) (h : ∀ u v, u < n → v < n → (g.getD u 0 = g.getD v 0 ↔ k.getD u 0 = k.getD v 0)) : g = k := by
  apply List.ext_getElem?
  intro v
  by_cases hv : v < n
  · have e : g.getD v 0 = k.getD v 0 := by
      have h1 := (h v (g.getD v 0) hv (hg.lt hv)).1 (hg.fix v hv).symm
      have h2 := (h v (k.getD v 0) hv (hk.lt hv)).2 (hk.fix v hv).symm
      have h3 := hk.le _ (hg.lt hv)
      have h4 := hg.le _ (hk.lt hv)
      rw [← h1] at h3
      rw [← h2] at h4
      omega
    rw [List.getD_eq_getElem?_getD, List.getD_eq_getElem?_getD] at e
    rw [List.getElem?_eq_getElem (by rw [hg.len]; exact hv), List.getElem?_eq_getElem (by rw [hk.len]; exact hv)] at e ⊢
    simpa using e
  · rw [List.getElem?_eq_none (by rw [hg.len]; omega), List.getElem?_eq_none (by rw [hk.len]; omega)]
end
end Go.Proofs.Ytdplphhlclhmfaa
