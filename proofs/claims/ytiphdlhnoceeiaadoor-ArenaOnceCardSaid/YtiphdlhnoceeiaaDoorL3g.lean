/- Chapter 3's laws: what handles tell (the plain law of ArenaOnce). -/
import Derived.Test.YtiphdlhnoceeiaaDoorL3f
namespace Go.Proofs.YtiphdlhnoceeiaaDoor
open Go Go.RowKit
set_option linter.unusedVariables false
set_option linter.unusedSimpArgs false

structure OLog (L : List (Int × Int)) (hs ds : List (Int × Nat)) : Prop where
  lv : ∀ q ∈ hs, L[q.2]? = some (q.1, 1)
  dd : ∀ q ∈ ds, ∃ a s, L[q.2]? = some (a, s) ∧ q.1 ≤ a ∧ (a = q.1 → s ≠ 1)
  nd : hs.Pairwise (· ≠ ·)
theorem OLog.nil (L : List (Int × Int)) : OLog L [] [] := ⟨by simp, by simp, .nil⟩
theorem addL_get (L : List (Int × Int)) (z : Nat) (hz : z ≤ L.length) (i : Nat) (hi : i < L.length) : (addL L z)[i]? = if i = z then some (nage L z, 1) else L[i]? := by
  unfold addL addM
  rw [List.getElem?_set]
  by_cases h : z < L.length
  · rw [if_pos h]
    by_cases e : z = i
    · subst e; simp [h]
    · rw [if_neg e, if_neg (Ne.symm e)]
  · rw [if_neg h]
    have e : ¬ z = i := by omega
    rw [if_neg e, if_neg (Ne.symm e), List.getElem?_append_left hi]
theorem addL_at (L : List (Int × Int)) (z : Nat) (hz : z ≤ L.length) : (addL L z)[z]? = some (nage L z, 1) := by
  unfold addL addM
  rw [List.getElem?_set, if_pos rfl]
  by_cases h : z < L.length
  · rw [if_pos h, if_pos h]
  · rw [if_neg h, if_pos (by simp; omega)]
theorem OLog.new {L : List (Int × Int)} {hs ds : List (Int × Nat)} {z : Nat} (h : OLog L hs ds) (hS : tak L z = false) :
    (∀ q ∈ hs, q.2 ≠ z) ∧ ∀ q ∈ ds, q ≠ (nage L z, z) := by
  refine ⟨fun q hq e => ?_, fun q hq e => ?_⟩
  · have := h.lv q hq
    rw [e] at this
    unfold tak at hS
    rw [this] at hS
    simp at hS
  · obtain ⟨a, s, h1, h2, _⟩ := h.dd q hq
    rw [e] at h1 h2
    unfold nage at h2
    rw [List.getD_eq_getElem?_getD, h1] at h2
    simp at h2
    omega
theorem lt_of_get {L : List (Int × Int)} {i : Nat} {x : Int × Int} (h : L[i]? = some x) : i < L.length := (List.getElem?_eq_some_iff.1 h).1
theorem OLog.add {L : List (Int × Int)} {hs ds : List (Int × Nat)} {z : Nat} (h : OLog L hs ds) (hS : tak L z = false) (hz : z ≤ L.length) : OLog (addL L z) (hs ++ [(nage L z, z)]) ds := by
  obtain ⟨n1, n2⟩ := h.new hS
  refine ⟨fun q hq => ?_, fun q hq => ?_, ?_⟩
  · rcases List.mem_append.1 hq with hq | hq
    · have h1 := h.lv q hq
      rw [addL_get L z hz _ (lt_of_get h1), if_neg (n1 q hq)]
      exact h1
    · simp at hq
      subst hq
      exact addL_at L z hz
  · obtain ⟨a, s, h1, h2, h3⟩ := h.dd q hq
    rw [addL_get L z hz _ (lt_of_get h1)]
    by_cases e : q.2 = z
    · rw [if_pos e]
      refine ⟨_, _, rfl, ?_, fun e2 => absurd (Prod.ext e2.symm e) (n2 q hq)⟩
      unfold nage
      rw [← e, List.getD_eq_getElem?_getD, h1]
      simp
      omega
    · rw [if_neg e]
      exact ⟨a, s, h1, h2, h3⟩
  · rw [List.pairwise_append]
    refine ⟨h.nd, by simp, fun q hq r hr e => ?_⟩
    simp at hr
    exact n1 q hq (by rw [e, hr])
theorem find_lv {n : Nat} {L : List (Int × Int)} {q : Int × Nat} (hn : L.length ≤ n) (h : L[q.2]? = some (q.1, 1)) : findErr n L q.1 q.2 = 0 := by
  unfold findErr
  have := lt_of_get h
  rw [if_neg (by omega), if_pos h]
theorem find_dd {n : Nat} {L : List (Int × Int)} {q : Int × Nat} (hn : L.length ≤ n) (h : ∃ a s, L[q.2]? = some (a, s) ∧ q.1 ≤ a ∧ (a = q.1 → s ≠ 1)) : findErr n L q.1 q.2 = 13 := by
  obtain ⟨a, s, h1, h2, h3⟩ := h
  unfold findErr
  have := lt_of_get h1
  rw [if_neg (by omega), if_neg]
  rw [h1]
  intro e
  simp at e
  exact h3 e.1 e.2
theorem OLog.drop {n : Nat} {L : List (Int × Int)} {hs ds : List (Int × Nat)} {i : Nat} {ag : Int} {y : Nat} (h : OLog L hs ds) (hn : L.length ≤ n) (hi : hs[i]? = some (ag, y)) :
    findErr n L ag y = 0 ∧ findErr n (dropL n L ag y) ag y = 13 ∧ (dropL n L ag y).length = L.length ∧ OLog (dropL n L ag y) (hs.take i ++ hs.drop (i + 1)) (ds ++ [(ag, y)]) := by
  have hil := (List.getElem?_eq_some_iff.1 hi).1
  have hm : (ag, y) ∈ hs := List.mem_of_getElem? hi
  have hy := h.lv _ hm
  simp only at hy
  have hyl := lt_of_get hy
  have h0 : findErr n L ag y = 0 := find_lv (q := (ag, y)) hn hy
  have hd : ∃ s, s ≠ 1 ∧ dropL n L ag y = L.set y (ag, s) := by
    unfold dropL
    rw [if_pos h0]
    refine ⟨_, ?_, rfl⟩
    split <;> decide
  obtain ⟨s, hs1, hd⟩ := hd
  rw [hd]
  have hlen : (L.set y (ag, s)).length = L.length := by simp
  have hdead : (L.set y (ag, s))[y]? = some (ag, s) := by rw [List.getElem?_set, if_pos rfl, if_pos hyl]
  have hsplit : hs = hs.take i ++ (ag, y) :: hs.drop (i + 1) := by
    rw [List.getElem?_eq_some_iff] at hi
    obtain ⟨_, hi⟩ := hi
    rw [← hi, ← List.drop_eq_getElem_cons, List.take_append_drop]
  have hnd := h.nd
  rw [hsplit, List.pairwise_append, List.pairwise_cons] at hnd
  obtain ⟨p1, ⟨p2, p3⟩, p4⟩ := hnd
  refine ⟨h0, find_dd (q := (ag, y)) (by rw [hlen]; exact hn) ⟨ag, s, hdead, Int.le_refl _, fun _ => hs1⟩, hlen, fun q hq => ?_, fun q hq => ?_, ?_⟩
  · have hqm : q ∈ hs ∧ q ≠ (ag, y) := by
      rcases List.mem_append.1 hq with hq | hq
      · exact ⟨List.mem_of_mem_take hq, p4 q hq _ (by simp)⟩
      · exact ⟨List.mem_of_mem_drop hq, (p2 q hq).symm⟩
    have hq1 := h.lv q hqm.1
    have hne : ¬ y = q.2 := fun e => by
      rw [← e, hy] at hq1
      simp at hq1
      exact hqm.2 (Prod.ext hq1.symm e.symm)
    rw [List.getElem?_set, if_neg hne]
    exact hq1
  · rcases List.mem_append.1 hq with hq | hq
    · obtain ⟨a, t, h1, h2, h3⟩ := h.dd q hq
      by_cases e : y = q.2
      · rw [← e, hy] at h1
        simp at h1
        exact ⟨ag, s, by rw [← e]; exact hdead, by omega, fun _ => hs1⟩
      · exact ⟨a, t, by rw [List.getElem?_set, if_neg e]; exact h1, h2, h3⟩
    · simp at hq
      subst hq
      exact ⟨ag, s, hdead, Int.le_refl _, fun _ => hs1⟩
  · rw [List.pairwise_append]
    exact ⟨p1, p3, fun q hq r hr => p4 q hq r (by simp [hr])⟩
end Go.Proofs.YtiphdlhnoceeiaaDoor
