/- Plain facts: where a dart stands, and its neighbours. -/
import Derived.Test.YtjmkejkhpdhhbaaDoorTuRnd
namespace Go.Proofs.YtjmkejkhpdhhbaaDoor
open Go Go.RowKit
set_option linter.unusedVariables false
set_option linter.unusedSimpArgs false

def vtx (L : List (List Nat)) (d : Nat) : Nat := L.findIdx fun l => decide (d ∈ l)
def pos (L : List (List Nat)) (d : Nat) : Nat := (L.getD (vtx L d) []).idxOf d
def nxt (L : List (List Nat)) (d : Nat) : Nat := (L.getD (vtx L d) []).getD (sc (L.getD (vtx L d) []).length (pos L d)) 0
def prv (L : List (List Nat)) (d : Nat) : Nat := (L.getD (vtx L d) []).getD (pc (L.getD (vtx L d) []).length (pos L d)) 0
theorem getD_some {L : List (List Nat)} {v : Nat} {l : List Nat} (h : L[v]? = some l) : L.getD v [] = l := by rw [List.getD_eq_getElem?_getD, h]; rfl
theorem some_getD {L : List (List Nat)} {v : Nat} (h : v < L.length) : L[v]? = some (L.getD v []) := by rw [List.getD_eq_getElem?_getD, List.getElem?_eq_getElem h]; rfl
theorem idx_at {l : List Nat} (h : l.Nodup) {i : Nat} (hi : i < l.length) : l.idxOf (l.getD i 0) = i := by
  have hm : l.getD i 0 ∈ l := getD_mem hi
  have hlt := List.idxOf_lt_length_of_mem hm
  have := List.getElem_idxOf hlt
  exact getD_inj h hlt hi (by rw [getD_at hlt]; exact this)
section
variable {E : Nat} {L : List (List Nat)}
theorem WF.vtx (h : WF E L) {v : Nat} {l : List Nat} {d : Nat} (hv : L[v]? = some l) (hd : d ∈ l) : vtx L d = v := by
  have hvl := (List.getElem?_eq_some_iff.1 hv).1
  have hlt : Proofs.YtjmkejkhpdhhbaaDoor.vtx L d < L.length := List.findIdx_lt_length_of_exists ⟨l, List.mem_iff_getElem?.2 ⟨v, hv⟩, by simpa using hd⟩
  have h2 := List.findIdx_getElem (w := hlt)
  have h3 : d ∈ L[Proofs.YtjmkejkhpdhhbaaDoor.vtx L d] := of_decide_eq_true h2
  exact h.one (List.getElem?_eq_getElem hlt) hv h3 hd
theorem WF.at_ (h : WF E L) {v : Nat} {l : List Nat} {i : Nat} (hv : L[v]? = some l) (hi : i < l.length) :
    Proofs.YtjmkejkhpdhhbaaDoor.vtx L (l.getD i 0) = v ∧ pos L (l.getD i 0) = i ∧ nxt L (l.getD i 0) = l.getD (sc l.length i) 0 ∧ prv L (l.getD i 0) = l.getD (pc l.length i) 0 := by
  have e1 := h.vtx hv (getD_mem hi)
  have e2 : pos L (l.getD i 0) = i := by unfold pos; rw [e1, getD_some hv]; exact idx_at (h.nd hv) hi
  refine ⟨e1, e2, ?_, ?_⟩
  · unfold nxt; rw [e2, e1, getD_some hv]
  · unfold prv; rw [e2, e1, getD_some hv]
theorem stands_ex {d : Nat} (h : Stands L d) : ∃ (v : Nat) (l : List Nat) (i : Nat), L[v]? = some l ∧ i < l.length ∧ l.getD i 0 = d := by
  obtain ⟨v, l, hv, hm⟩ := stands_iff.1 h
  obtain ⟨i, hi, e⟩ := mem_getD hm
  exact ⟨v, l, i, hv, hi, e⟩
theorem WF.nxt_stands (h : WF E L) {d : Nat} (hd : Stands L d) : Stands L (nxt L d) := by
  obtain ⟨v, l, i, hv, hi, rfl⟩ := stands_ex hd
  rw [(h.at_ hv hi).2.2.1]
  exact stands_at hv (getD_mem (sc_lt hi))
theorem WF.prv_stands (h : WF E L) {d : Nat} (hd : Stands L d) : Stands L (prv L d) := by
  obtain ⟨v, l, i, hv, hi, rfl⟩ := stands_ex hd
  rw [(h.at_ hv hi).2.2.2]
  exact stands_at hv (getD_mem (pc_lt hi))
theorem WF.prv_nxt (h : WF E L) {d : Nat} (hd : Stands L d) : prv L (nxt L d) = d := by
  obtain ⟨v, l, i, hv, hi, rfl⟩ := stands_ex hd
  rw [(h.at_ hv hi).2.2.1, (h.at_ hv (sc_lt hi)).2.2.2, pc_sc hi]
theorem WF.nxt_prv (h : WF E L) {d : Nat} (hd : Stands L d) : nxt L (prv L d) = d := by
  obtain ⟨v, l, i, hv, hi, rfl⟩ := stands_ex hd
  rw [(h.at_ hv hi).2.2.2, (h.at_ hv (pc_lt hi)).2.2.1, sc_pc hi]
theorem WF.vtx_nxt (h : WF E L) {d : Nat} (hd : Stands L d) : Proofs.YtjmkejkhpdhhbaaDoor.vtx L (nxt L d) = Proofs.YtjmkejkhpdhhbaaDoor.vtx L d := by
  obtain ⟨v, l, i, hv, hi, rfl⟩ := stands_ex hd
  rw [(h.at_ hv hi).2.2.1, (h.at_ hv (sc_lt hi)).1, (h.at_ hv hi).1]
theorem WF.vtx_lt (h : WF E L) {d : Nat} (hd : Stands L d) : Proofs.YtjmkejkhpdhhbaaDoor.vtx L d < L.length := by
  obtain ⟨v, l, i, hv, hi, rfl⟩ := stands_ex hd
  rw [(h.at_ hv hi).1]
  exact (List.getElem?_eq_some_iff.1 hv).1
end
/-- What asking for a dart answers. -/
def dErr (E : Nat) (L : List (List Nat)) (d : Int) : Nat := if d < 0 ∨ (2 * E : Int) ≤ d then 12 else if Stands L d.toNat then 0 else 13
theorem dErr_stands {E : Nat} {L : List (List Nat)} {d : Nat} (h : WF E L) (hd : Stands L d) : dErr E L d = 0 := by
  have := h.bdS hd
  unfold dErr
  rw [if_neg (by omega), Int.toNat_natCast, if_pos hd]
theorem dErr_none {E : Nat} {L : List (List Nat)} {d : Nat} (h : d < 2 * E) (hd : ¬ Stands L d) : dErr E L d = 13 := by
  unfold dErr
  rw [if_neg (by omega), Int.toNat_natCast, if_neg hd]
end Go.Proofs.YtjmkejkhpdhhbaaDoor
