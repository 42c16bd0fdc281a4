/- kin: the list of bridges (plain). -/
import Derived.Test.YtdplphhlclhmfaaDoorKiI
namespace Go.Proofs.YtdplphhlclhmfaaDoor
open Go Go.RowKit
set_option linter.unusedVariables false
set_option linter.unusedSimpArgs false
set_option maxRecDepth 100000

theorem Good.without {E : Nat} {L : List (List Nat)} (h : Good E L) (e : Nat) : Good E (liftL L e) := by
  refine ⟨remL_wf (remL_wf h.toWF), fun d hd => ?_⟩
  rw [lift_stands] at hd ⊢
  rw [tw_div]
  exact ⟨hd.1, h.twin d hd.2⟩
theorem liftL_length (L : List (List Nat)) (e : Nat) : (liftL L e).length = L.length := by unfold liftL; rw [remL_length, remL_length]
/-- Whether an edge is a bridge. -/
def isBr (L : List (List Nat)) (E e : Nat) : Bool := decide (Stands L (2 * e)) && ((grp (liftL L e) E).getD (vtx L (2 * e)) 0 != (grp (liftL L e) E).getD (vtx L (2 * e + 1)) 0)
def brl (L : List (List Nat)) (E : Nat) : List Nat := (List.range E).filter (isBr L E)
section
variable {L : List (List Nat)} {E : Nat}
theorem isBr_iff (h : Good E L) (e : Nat) : isBr L E e = true ↔ Bridge L e := by
  unfold isBr Bridge
  rw [Bool.and_eq_true, decide_eq_true_iff, bne_iff_ne]
  constructor
  · rintro ⟨hs, hn⟩
    refine ⟨hs, fun k => hn ?_⟩
    exact (grp_iff (h.without e) (by rw [liftL_length]; exact h.toWF.vtx_lt hs) (by rw [liftL_length]; exact h.toWF.vtx_lt ((h.pair e).2 hs))).2 k
  · rintro ⟨hs, hn⟩
    refine ⟨hs, fun k => hn ?_⟩
    exact (grp_iff (h.without e) (by rw [liftL_length]; exact h.toWF.vtx_lt hs) (by rw [liftL_length]; exact h.toWF.vtx_lt ((h.pair e).2 hs))).1 k
theorem brl_mem (h : Good E L) {e : Nat} : e ∈ brl L E ↔ Bridge L e := by
  unfold brl
  rw [List.mem_filter, List.mem_range, isBr_iff h]
  constructor
  · exact fun q => q.2
  · exact fun q => ⟨by have := h.toWF.bdS q.1; omega, q⟩
theorem sorted_ext : ∀ {l m : List Nat}, l.Pairwise (· < ·) → m.Pairwise (· < ·) → (∀ x, x ∈ l ↔ x ∈ m) → l = m
  | [], [], _, _, _ => rfl
  | [], b :: m, _, _, h => by have := (h b).2 (List.mem_cons_self ..); cases this
  | a :: l, [], _, _, h => by have := (h a).1 (List.mem_cons_self ..); cases this
  | a :: l, b :: m, h1, h2, h => by
    rw [List.pairwise_cons] at h1 h2
    have e : a = b := by
      rcases List.mem_cons.1 ((h a).1 (List.mem_cons_self ..)) with e | e
      · exact e
      · rcases List.mem_cons.1 ((h b).2 (List.mem_cons_self ..)) with e' | e'
        · exact e'.symm
        · have := h2.1 a e
          have := h1.1 b e'
          omega
    subst e
    congr 1
    refine sorted_ext h1.2 h2.2 fun x => ⟨fun hx => ?_, fun hx => ?_⟩
    · rcases List.mem_cons.1 ((h x).1 (List.mem_cons_of_mem _ hx)) with e | e
      · have := h1.1 x hx; omega
      · exact e
    · rcases List.mem_cons.1 ((h x).2 (List.mem_cons_of_mem _ hx)) with e | e
      · have := h2.1 x hx; omega
      · exact e
theorem srt_lt {l : List Nat} (h : l.Nodup) : (srt l).Pairwise (· < ·) := by
  have h1 := srt_sorted l
  have h2 : (srt l).Nodup := (srt_perm l).nodup_iff.2 h
  refine (h1.and h2).imp fun q => ?_
  omega
theorem brl_lt (L : List (List Nat)) (E : Nat) : (brl L E).Pairwise (· < ·) := (List.pairwise_lt_range).filter _
/-- All vertices are met. -/
theorem Gst.all {num low br : List Nat} {met : Nat} (h : Gst L num low met br []) (hg : Good E L) (hall : ∀ v, v < L.length → num.getD v 0 ≠ 0) : srt br = brl L E := by
  obtain ⟨par, tr, rt, hd⟩ := h.dv
  refine sorted_ext (srt_lt hd.Bn) (brl_lt L E) fun x => ?_
  rw [srt_mem, brl_mem hg]
  exact hd.ends hg (fun e => hg.without e) hall x
theorem zeros_getD (n : Nat) : (fun x => (List.replicate n 0).getD x 0) = fun _ => 0 := by
  funext x
  rw [List.getD_eq_getElem?_getD, List.getElem?_replicate]
  split <;> rfl
theorem Gst.start (L : List (List Nat)) : Gst L (List.replicate L.length 0) (List.replicate L.length 0) 0 [] [] := by
  refine ⟨⟨fun _ => -1, fun _ => 0, 0, ?_⟩, ?_, fun x => ?_, by simp, by simp⟩
  · rw [zeros_getD]; exact DInv.empty L
  · have : ∀ n, unm (fun _ => 1) (List.replicate L.length 0) n = n := fun n => by
      induction n with
      | zero => rfl
      | succ n ih =>
        rw [unm_succ, ih, if_pos]
        exact congrFun (zeros_getD L.length) n
    rw [this]; omega
  · rw [show (List.replicate L.length 0).getD x 0 = 0 from congrFun (zeros_getD L.length) x]; exact Nat.le_refl _
end
end Go.Proofs.YtdplphhlclhmfaaDoor
