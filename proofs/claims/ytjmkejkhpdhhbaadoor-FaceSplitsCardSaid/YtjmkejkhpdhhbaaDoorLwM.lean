/- Chapter 10, plain: lists that are told: whether darts can stand so. -/
import Derived.Test.YtjmkejkhpdhhbaaDoorTuH
namespace Go.Proofs.YtjmkejkhpdhhbaaDoor
open Go Go.RowKit
set_option linter.unusedVariables false
set_option linter.unusedSimpArgs false

def OkL (E V : Nat) (R : List (List Int)) : Prop :=
  (∀ d ∈ R.flatten, 0 ≤ d ∧ d < 2 * E) ∧ R.flatten.Nodup ∧ (∀ d : Nat, d < 2 * E → ((d : Int) ∈ R.flatten ↔ ((tw d : Nat) : Int) ∈ R.flatten)) ∧ R.length ≤ V
/-- What has been seen. -/
def pre (R : List (List Int)) (i k : Nat) : List Int := (R.take i).flatten ++ (R.getD i []).take k
theorem getD_someI {R : List (List Int)} {v : Nat} {l : List Int} (h : R[v]? = some l) : R.getD v [] = l := by rw [List.getD_eq_getElem?_getD, h]; rfl
theorem pre_zero (R : List (List Int)) : pre R 0 0 = [] := by simp [pre]
theorem pre_row {R : List (List Int)} {i : Nat} {l : List Int} (h : R[i]? = some l) : pre R i l.length = pre R (i + 1) 0 := by
  unfold pre
  rw [getD_someI h, List.take_length, List.take_zero, List.append_nil, List.take_add_one, h]
  simp
theorem pre_step {R : List (List Int)} {i k : Nat} {l : List Int} (h : R[i]? = some l) (hk : k < l.length) : pre R i (k + 1) = pre R i k ++ [l[k]] := by
  unfold pre
  rw [getD_someI h, List.take_add_one, List.getElem?_eq_getElem hk, ← List.append_assoc]; rfl
theorem pre_all (R : List (List Int)) : pre R R.length 0 = R.flatten := by simp [pre]
theorem pre_rest {R : List (List Int)} {i k : Nat} {l : List Int} (h : R[i]? = some l) (hk : k < l.length) : ∃ rest, R.flatten = pre R i k ++ l[k] :: rest := by
  have h1 : R.flatten = pre R i k ++ (l.drop k ++ (R.drop (i + 1)).flatten) := by
    have hi := (List.getElem?_eq_some_iff.1 h).1
    conv => lhs; rw [← List.take_append_drop (i + 1) R, List.flatten_append, List.take_add_one, h]
    unfold pre
    rw [getD_someI h]
    simp only [Option.toList_some, List.flatten_append, List.flatten_singleton]
    simp only [List.append_assoc]
    rw [← List.append_assoc (l.take k), List.take_append_drop]
  rw [List.drop_eq_getElem_cons hk] at h1
  exact ⟨_, h1⟩
def GoodP (E : Nat) (P : List Int) : Prop := (∀ d ∈ P, 0 ≤ d ∧ d < 2 * E) ∧ P.Nodup
theorem GoodP.push {E : Nat} {P : List Int} (h : GoodP E P) {d : Int} (h0 : 0 ≤ d) (h1 : d < 2 * E) (hn : d ∉ P) : GoodP E (P ++ [d]) := by
  refine ⟨fun x hx => ?_, ?_⟩
  · rcases List.mem_append.1 hx with hx | hx
    · exact h.1 x hx
    · rw [List.mem_singleton.1 hx]; exact ⟨h0, h1⟩
  · rw [List.nodup_append]
    refine ⟨h.2, by simp, fun x hx y hy e => ?_⟩
    rw [List.mem_singleton.1 hy] at e
    exact hn (e ▸ hx)
theorem bad_no {E V i k : Nat} {R : List (List Int)} {l : List Int} (h : R[i]? = some l) (hk : k < l.length) (hb : l[k] < 0 ∨ 2 * (E : Int) ≤ l[k] ∨ l[k] ∈ pre R i k) : ¬ OkL E V R := by
  rintro ⟨h1, h2, _⟩
  obtain ⟨rest, he⟩ := pre_rest h hk
  rw [he] at h1 h2
  have := h1 l[k] (by simp)
  rcases hb with hb | hb | hb
  · omega
  · omega
  · rw [List.nodup_append] at h2
    exact h2.2.2 _ hb _ (by simp) rfl
def seenV (E : Nat) (P : List Int) : List Value := (List.range (2 * E)).map fun (d : Nat) => Value.bool (decide ((d : Int) ∈ P))
theorem seenV_length (E : Nat) (P : List Int) : (seenV E P).length = 2 * E := by simp [seenV]
theorem seenV_get {E : Nat} {P : List Int} {d : Nat} (h : d < 2 * E) : (seenV E P)[d]? = some (.bool (decide ((d : Int) ∈ P))) := by simp [seenV, h]
theorem seenV_set (E : Nat) (P : List Int) (d : Nat) : (seenV E P).toArray.setIfInBounds d (.bool true) = (seenV E (P ++ [(d : Int)])).toArray := by
  rw [List.setIfInBounds_toArray]
  congr 1
  apply List.ext_getElem?
  intro j
  rw [List.getElem?_set, seenV_length]
  by_cases hj : j < 2 * E
  · rw [seenV_get hj, seenV_get hj]
    by_cases e : d = j
    · subst e; rw [if_pos rfl, if_pos hj]; simp
    · rw [if_neg e]
      congr 2
      have : (j : Int) ≠ (d : Int) := by omega
      simp [this]
  · rw [List.getElem?_eq_none (by rw [seenV_length]; omega), List.getElem?_eq_none (by rw [seenV_length]; omega)]
    by_cases e : d = j
    · rw [if_pos e, if_neg (by omega)]
    · rw [if_neg e]
theorem zeros_B (n : Nat) : madeCells #[.bool false] (2 * n) = (seenV n []).toArray := by
  rw [madeCells_one]
  congr 1
  apply List.ext_getElem
  · simp [seenV]
  · intro i h1 h2
    simp [seenV]

/-! The lists, laid row by row. -/
def natsOf (R : List (List Int)) : List (List Nat) := R.map fun l => l.map Int.toNat
def rowsAt (N : List (List Nat)) (V i k : Nat) : List (List Nat) := (List.range V).map fun u => if u < i then N.getD u [] else if u = i then (N.getD u []).take k else []
theorem rowsAt_length (N : List (List Nat)) (V i k : Nat) : (rowsAt N V i k).length = V := by simp [rowsAt]
theorem rowsAt_get {N : List (List Nat)} {V i k u : Nat} (h : u < V) : (rowsAt N V i k)[u]? = some (if u < i then N.getD u [] else if u = i then (N.getD u []).take k else []) := by simp [rowsAt, h]
theorem rowsAt_zero (N : List (List Nat)) (V : Nat) : rowsAt N V 0 0 = List.replicate V [] := by
  apply List.ext_getElem?
  intro u
  by_cases h : u < V
  · rw [rowsAt_get h]; simp [h]
  · rw [List.getElem?_eq_none (by rw [rowsAt_length]; omega), List.getElem?_eq_none (by simp; omega)]
theorem rowsAt_row {N : List (List Nat)} {V i : Nat} : rowsAt N V i (N.getD i []).length = rowsAt N V (i + 1) 0 := by
  apply List.ext_getElem?
  intro u
  by_cases h : u < V
  · rw [rowsAt_get h, rowsAt_get h]
    by_cases h1 : u < i
    · rw [if_pos h1, if_pos (by omega)]
    · by_cases h2 : u = i
      · subst h2; rw [if_neg h1, if_pos rfl, if_pos (by omega), List.take_length]
      · rw [if_neg h1, if_neg h2, if_neg (by omega)]
        split
        · simp
        · rfl
  · rw [List.getElem?_eq_none (by rw [rowsAt_length]; omega), List.getElem?_eq_none (by rw [rowsAt_length]; omega)]
theorem rowsAt_step {N : List (List Nat)} {V i k : Nat} {l : List Nat} (hi : i < V) (hl : N.getD i [] = l) (hk : k < l.length) (hn : l.Nodup) (b : Int) (hb : b = -1 ∧ k = 0 ∨ ∃ j, k = j + 1 ∧ b = (l.getD j 0 : Nat)) :
    putL (rowsAt N V i k) (l.getD k 0) i b = rowsAt N V i (k + 1) := by
  have hcur : (rowsAt N V i k)[i]? = some (l.take k) := by rw [rowsAt_get hi, if_neg (Nat.lt_irrefl _), if_pos rfl, hl]
  have hins : insB b (l.getD k 0) (l.take k) = l.take (k + 1) := by
    rw [take_next hk]
    rcases hb with ⟨_, rfl⟩ | ⟨j, rfl, rfl⟩
    · rfl
    · have hj : j < (l.take (j + 1)).length := by simp; omega
      have h1 := insB_at (d := l.getD (j + 1) 0) (l := l.take (j + 1)) (i := j) (hn.sublist (List.take_sublist _ _)) hj
      have h2 : (l.take (j + 1))[j] = l.getD j 0 := by
        rw [List.getElem_take, List.getD_eq_getElem?_getD, List.getElem?_eq_getElem (by omega)]; rfl
      rw [h2] at h1
      rw [h1, List.take_take, Nat.min_self, List.drop_eq_nil_of_le (by simp; omega)]
  apply List.ext_getElem?
  intro u
  rw [putL_get hcur, hins]
  by_cases h : u < V
  · rw [rowsAt_get h, rowsAt_get h]
    by_cases h2 : u = i
    · subst h2; rw [if_pos rfl, if_neg (Nat.lt_irrefl _), if_pos rfl, hl]
    · rw [if_neg h2, if_neg h2, if_neg h2]
  · rw [if_neg (by omega), List.getElem?_eq_none (by rw [rowsAt_length]; omega), List.getElem?_eq_none (by rw [rowsAt_length]; omega)]
theorem rowsAt_all {N : List (List Nat)} {V : Nat} (h : N.length ≤ V) : rowsAt N V N.length 0 = N ++ List.replicate (V - N.length) [] := by
  apply List.ext_getElem?
  intro u
  by_cases hu : u < V
  · rw [rowsAt_get hu]
    by_cases h1 : u < N.length
    · rw [if_pos h1, List.getElem?_append_left h1, some_getD h1]
    · rw [if_neg h1, List.getElem?_append_right (by omega), List.getElem?_replicate, if_pos (show u - N.length < V - N.length by omega)]
      split
      · rw [List.take_zero]
      · rfl
  · rw [List.getElem?_eq_none (by rw [rowsAt_length]; omega), List.getElem?_eq_none (by simp; omega)]
theorem rowsAt_stands {N : List (List Nat)} {V i k : Nat} {l : List Nat} (hl : N[i]? = some l) (hk : k < l.length) (hn : N.flatten.Nodup) : ¬ Stands (rowsAt N V i k) (l.getD k 0) := by
  intro hs
  obtain ⟨u, m, hu, hm⟩ := stands_iff.1 hs
  have huV : u < V := by have := (List.getElem?_eq_some_iff.1 hu).1; rwa [rowsAt_length] at this
  rw [rowsAt_get huV] at hu
  cases hu
  have hd : l.getD k 0 ∈ l := getD_mem hk
  by_cases h1 : u < i
  · rw [if_pos h1] at hm
    have hi := (List.getElem?_eq_some_iff.1 hl).1
    have := (nodup_flat hn).2 u i _ l _ (some_getD (by omega)) hl hm hd
    omega
  · rw [if_neg h1] at hm
    by_cases h2 : u = i
    · subst h2
      rw [if_pos rfl, getD_some hl] at hm
      obtain ⟨j, hj, e⟩ := List.mem_iff_getElem.1 hm
      rw [List.length_take] at hj
      rw [List.getElem_take] at e
      have := getD_inj ((nodup_flat hn).1 u l hl) (i := j) (j := k) (by omega) hk (by rw [getD_at (by omega)]; exact e)
      omega
    · rw [if_neg h2] at hm; simp at hm
end Go.Proofs.YtjmkejkhpdhhbaaDoor
