/- kin: the walk's rounds (plain). -/
import Derived.Test.YtdplphhlclhmfaaDoorKiF
namespace Go.Proofs.YtdplphhlclhmfaaDoor
open Go Go.RowKit
set_option linter.unusedVariables false
set_option linter.unusedSimpArgs false
set_option maxRecDepth 100000

def rsum (road : List Pl) : Nat := (road.map fun q => q.left.length + 1).sum
def msr (L : List (List Nat)) (num : List Nat) (road : List Pl) : Nat := unm (fun v => (L.getD v []).length + 1) num L.length + rsum road
structure Gst (L : List (List Nat)) (num low : List Nat) (met : Nat) (br : List Nat) (road : List Pl) : Prop where
  dv : ∃ par tr rt, DInv L (fun x => num.getD x 0) (fun x => low.getD x 0) met br road par tr rt
  cnt : met + unm (fun _ => 1) num L.length = L.length
  lb : ∀ x, low.getD x 0 ≤ met
  nl : num.length = L.length
  ll : low.length = L.length
section
variable {L : List (List Nat)} {E met : Nat} {num low br : List Nat} {road r : List Pl}
theorem Gst.num_le (h : Gst L num low met br road) (x : Nat) : num.getD x 0 ≤ met := by
  obtain ⟨par, tr, rt, hd⟩ := h.dv
  exact hd.le x
theorem Gst.met_le (h : Gst L num low met br road) : met ≤ L.length := by
  have := h.cnt
  omega
theorem Gst.few (h : Gst L num low met br road) (hw : WF E L) : br.length ≤ E := by
  obtain ⟨par, tr, rt, hd⟩ := h.dv
  exact hd.few hw
theorem chain_len {nm : Nat → Nat} {rt : Nat} : ∀ {r : List Pl} {p : Pl}, Chain L nm rt (p :: r) → (∀ q ∈ p :: r, nm q.v ≠ 0) → r.length < nm p.v
  | [], p, _, h => Nat.pos_of_ne_zero (h p (List.mem_cons_self ..))
  | q :: r, p, hc, h => by
    have := chain_len (r := r) (p := q) hc.2.2 fun x hx => h x (List.mem_cons_of_mem _ hx)
    have := hc.2.1
    simp only [List.length_cons]
    omega
theorem Gst.road_le (h : Gst L num low met br road) : road.length ≤ L.length := by
  have hm := h.met_le
  obtain ⟨par, tr, rt, hd⟩ := h.dv
  cases road with
  | nil => exact Nat.zero_le _
  | cons p r =>
    have := chain_len hd.chain fun q hq => (hd.on q hq).1
    have := hd.le p.v
    simp only [List.length_cons]
    omega
/-- A place whose darts are all taken, a root. -/
theorem Gst.pop0 {v : Nat} {bd : Int} (h : Gst L num low met br [⟨v, bd, []⟩]) : bd = -1 ∧ Gst L num low met br [] := by
  obtain ⟨par, tr, rt, hd⟩ := h.dv
  exact ⟨hd.chain.1, ⟨⟨par, tr, rt, hd.done⟩, h.cnt, h.lb, h.nl, h.ll⟩⟩
theorem Gst.popq {v : Nat} {bd : Int} {q : Pl} (h : Gst L num low met br (⟨v, bd, []⟩ :: q :: r)) (hg : Good E L) :
    ∃ f : Nat, bd = (f : Int) ∧ Stands L f ∧ vtx L f = q.v ∧ q.v ≠ v ∧ v < L.length ∧ Gst L num (low.set q.v (min (low.getD q.v 0) (low.getD v 0))) met (if num.getD q.v 0 < low.getD v 0 then br ++ [f / 2] else br) (q :: r) := by
  obtain ⟨par, tr, rt, hd⟩ := h.dv
  obtain ⟨⟨f, hf, hs, hv, hD⟩, hlt, _⟩ := hd.chain
  simp only at hf hv hD hlt
  have hql : q.v < L.length := by rw [← hv]; exact hg.toWF.vtx_lt hs
  refine ⟨f, hf, hs, hv, fun e => by rw [e] at hlt; omega, by rw [← hD]; exact hg.toWF.vtx_lt (hg.twin _ hs), ⟨par, tr, rt, ?_⟩, h.cnt, fun x => ?_, h.nl, by rw [List.length_set]; exact h.ll⟩
  · rw [set_upd low q.v _ (by rw [h.ll]; exact hql)]
    exact hd.leave hg hf
  · rw [getD_setL low q.v _ x (by rw [h.ll]; exact hql)]
    have := h.lb q.v
    split
    · omega
    · exact h.lb x
theorem Gst.top {v : Nat} {bd : Int} {l : List Nat} (h : Gst L num low met br (⟨v, bd, l⟩ :: r)) (hg : Good E L) : v < L.length ∧ num.getD v 0 ≠ 0 ∧ (∀ d ∈ l, Stands L d ∧ vtx L d = v) ∧ (bd = -1 ∨ ∃ f : Nat, bd = (f : Int) ∧ Stands L f ∧ De L f = v ∧ num.getD (vtx L f) 0 ≠ 0) := by
  obtain ⟨par, tr, rt, hd⟩ := h.dv
  obtain ⟨n1, n2, n3, n4⟩ := hd.on _ (List.mem_cons_self ..)
  simp only at n1 n2 n3 n4
  refine ⟨hd.lt v n1, n1, n4, ?_⟩
  rcases hd.parD v n1 with q | ⟨f, q, hs, hD, hn, _⟩
  · exact Or.inl (by rw [n3, q])
  · exact Or.inr ⟨f, by rw [n3, q], hs, hD, hn⟩
/-- The dart that it was met by is passed over. -/
theorem Gst.skip {v d : Nat} {bd : Int} {l : List Nat} (h : Gst L num low met br (⟨v, bd, d :: l⟩ :: r)) (hg : Good E L) {f : Nat} (hf : bd = (f : Int)) (hd : d = tw f) : Gst L num low met br (⟨v, bd, l⟩ :: r) := by
  obtain ⟨par, tr, rt, hi⟩ := h.dv
  have ht := (h.top hg).2.2.2
  have hn : num.getD (De L d) 0 ≠ 0 := by
    rcases ht with q | ⟨f', q, _, _, hn⟩
    · omega
    · have e : f' = f := by omega
      rw [hd, De_tw, ← e]
      exact hn
  have := hi.eat hg hn (Nat.le_refl _) (fun k => absurd hd (k f hf)) (Or.inl rfl)
  refine ⟨⟨par, tr, rt, ?_⟩, h.cnt, h.lb, h.nl, h.ll⟩
  have e : upd (fun x => low.getD x 0) v (low.getD v 0) = fun x => low.getD x 0 := by
    funext x
    unfold upd
    split
    · rename_i q; rw [q]
    · rfl
  rwa [e] at this
theorem Gst.eat {v d : Nat} {bd : Int} {l : List Nat} (h : Gst L num low met br (⟨v, bd, d :: l⟩ :: r)) (hg : Good E L) (hn : num.getD (De L d) 0 ≠ 0) (hne : ∀ f : Nat, bd = (f : Int) → d ≠ tw f) : Gst L num (low.set v (min (low.getD v 0) (num.getD (De L d) 0))) met br (⟨v, bd, l⟩ :: r) := by
  obtain ⟨par, tr, rt, hi⟩ := h.dv
  have hv := (h.top hg).1
  refine ⟨⟨par, tr, rt, ?_⟩, h.cnt, fun x => ?_, h.nl, by rw [List.length_set]; exact h.ll⟩
  · rw [set_upd low v _ (by rw [h.ll]; exact hv)]
    refine hi.eat hg hn (Nat.min_le_left _ _) (fun _ => Nat.min_le_right _ _) ?_
    by_cases q : low.getD v 0 ≤ num.getD (De L d) 0
    · exact Or.inl (Nat.min_eq_left q)
    · exact Or.inr ⟨Nat.min_eq_right (by omega), hne⟩
  · rw [getD_setL low v _ x (by rw [h.ll]; exact hv)]
    have := h.lb v
    split
    · omega
    · exact h.lb x
theorem Gst.push {v d : Nat} {bd : Int} {l : List Nat} (h : Gst L num low met br (⟨v, bd, d :: l⟩ :: r)) (hg : Good E L) (hn : num.getD (De L d) 0 = 0) : Gst L (num.set (De L d) (met + 1)) (low.set (De L d) (met + 1)) (met + 1) br (⟨De L d, (d : Int), arL L (De L d)⟩ :: ⟨v, bd, l⟩ :: r) := by
  obtain ⟨par, tr, rt, hi⟩ := h.dv
  have hs := ((h.top hg).2.2.1 d (List.mem_cons_self ..)).1
  have hy : De L d < L.length := hg.toWF.vtx_lt (hg.twin _ hs)
  have hp := hi.push hg hn (al := arL L (De L d)) fun d' => arL_iff hg.toWF hy
  rw [← set_upd low _ _ (by rw [h.ll]; exact hy), ← set_upd num _ _ (by rw [h.nl]; exact hy)] at hp
  refine ⟨⟨_, _, rt, hp⟩, ?_, fun x => ?_, by rw [List.length_set]; exact h.nl, by rw [List.length_set]; exact h.ll⟩
  · have := unm_meet (fun _ => 1) (by rw [h.nl]; exact hy) hn (m := met + 1) (by omega) (n := L.length) (by rw [h.nl]; exact Nat.le_refl _)
    rw [if_pos hy] at this
    have hc := h.cnt
    omega
  · rw [getD_setL low _ _ x (by rw [h.ll]; exact hy)]
    have := h.lb x
    split <;> omega
theorem Gst.begin (h : Gst L num low met br []) (hg : Good E L) {v : Nat} (hv : v < L.length) (hn : num.getD v 0 = 0) : Gst L (num.set v (met + 1)) (low.set v (met + 1)) (met + 1) br [⟨v, -1, arL L v⟩] := by
  obtain ⟨par, tr, rt, hi⟩ := h.dv
  have hp := hi.begin hv hn (al := arL L v) fun d' => arL_iff hg.toWF hv
  rw [← set_upd low _ _ (by rw [h.ll]; exact hv), ← set_upd num _ _ (by rw [h.nl]; exact hv)] at hp
  refine ⟨⟨_, _, met + 1, hp⟩, ?_, fun x => ?_, by rw [List.length_set]; exact h.nl, by rw [List.length_set]; exact h.ll⟩
  · have := unm_meet (fun _ => 1) (by rw [h.nl]; exact hv) hn (m := met + 1) (by omega) (n := L.length) (by rw [h.nl]; exact Nat.le_refl _)
    rw [if_pos hv] at this
    have hc := h.cnt
    omega
  · rw [getD_setL low _ _ x (by rw [h.ll]; exact hv)]
    have := h.lb x
    split <;> omega
/-- Numbers stay. -/
def Met (num num' : List Nat) : Prop := ∀ x, num.getD x 0 ≠ 0 → num'.getD x 0 ≠ 0
theorem met_set {y m : Nat} (hm : m ≠ 0) (hy : y < num.length) : Met num (num.set y m) ∧ (num.set y m).getD y 0 ≠ 0 := by
  refine ⟨fun x hx => ?_, ?_⟩
  · rw [getD_setL num y m x hy]; split
    · exact hm
    · exact hx
  · rw [getD_setL num y m y hy, if_pos rfl]; exact hm
theorem rsum_cons (q : Pl) : rsum (q :: r) = q.left.length + 1 + rsum r := by unfold rsum; simp
theorem msr_pop {v : Nat} {bd : Int} : msr L num (⟨v, bd, []⟩ :: r) = msr L num r + 1 := by unfold msr; rw [rsum_cons]; simp; omega
theorem msr_eat {v d : Nat} {bd : Int} {l : List Nat} : msr L num (⟨v, bd, d :: l⟩ :: r) = msr L num (⟨v, bd, l⟩ :: r) + 1 := by unfold msr; rw [rsum_cons, rsum_cons]; simp; omega
theorem msr_push {v d : Nat} {bd : Int} {l : List Nat} (hnl : num.length = L.length) {y m : Nat} {bd2 : Int} (hy : y < L.length) (hn : num.getD y 0 = 0) (hm : m ≠ 0) : msr L num (⟨v, bd, d :: l⟩ :: r) = msr L (num.set y m) (⟨y, bd2, arL L y⟩ :: ⟨v, bd, l⟩ :: r) + 1 := by
  have := unm_meet (fun v => (L.getD v []).length + 1) (by rw [hnl]; exact hy) hn hm (n := L.length) (by rw [hnl]; exact Nat.le_refl _)
  rw [if_pos hy] at this
  unfold msr
  rw [rsum_cons, rsum_cons, rsum_cons, arL_length]
  simp only [List.length_cons] at *
  omega
end
end Go.Proofs.YtdplphhlclhmfaaDoor
