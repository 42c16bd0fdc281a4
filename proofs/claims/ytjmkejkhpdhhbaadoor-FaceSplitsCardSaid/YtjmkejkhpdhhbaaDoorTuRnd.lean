/- Plain facts: a cycle read from its least dart on; acts on lists of darts. -/
import Derived.Test.YtjmkejkhpdhhbaaDoorTuRel
namespace Go.Proofs.YtjmkejkhpdhhbaaDoor
open Go Go.RowKit
set_option linter.unusedVariables false
set_option linter.unusedSimpArgs false

theorem mod2 {a n : Nat} (h : a < 2 * n) : a % n = if a < n then a else a - n := by
  split
  · rename_i h1; exact Nat.mod_eq_of_lt h1
  · rename_i h1
    rw [show a = (a - n) + n by omega, Nat.add_mod_right, Nat.mod_eq_of_lt (by omega)]; omega
theorem step_mod {n i k : Nat} (hi : i < n) (hk : k ≤ n) : sc n ((i + k) % n) = (i + (k + 1)) % n := by
  have h := Nat.mod_lt (i + k) (show 0 < n by omega)
  rw [sc_mod h, Nat.mod_add_mod, Nat.add_assoc]
theorem mod_ne {n i k : Nat} (hi : i < n) (h0 : 0 < k) (hk : k < n) : (i + k) % n ≠ i := by
  rw [mod2 (by omega)]; split <;> omega
theorem mod_all {n i j : Nat} (hi : i < n) (hj : j < n) : ∃ k, k < n ∧ (i + k) % n = j := by
  by_cases h : i ≤ j
  · exact ⟨j - i, by omega, by rw [mod2 (by omega), if_pos (by omega)]; omega⟩
  · exact ⟨j + n - i, by omega, by rw [mod2 (by omega), if_neg (by omega)]; omega⟩

/-- A cycle from its m-th on. -/
def rotL (l : List Nat) (m : Nat) : List Nat := l.drop m ++ l.take m
theorem rotL_length {l : List Nat} {m : Nat} (h : m ≤ l.length) : (rotL l m).length = l.length := by simp [rotL]; omega
theorem rotL_getD {l : List Nat} {m j : Nat} (hm : m < l.length) (hj : j < l.length) : (rotL l m).getD j 0 = l.getD ((m + j) % l.length) 0 := by
  simp only [rotL, List.getD_eq_getElem?_getD]
  rw [mod2 (by omega)]
  by_cases h : m + j < l.length
  · rw [if_pos h, List.getElem?_append_left (by simp; omega), List.getElem?_drop]
  · rw [if_neg h, List.getElem?_append_right (by simp; omega), List.length_drop, List.getElem?_take, if_pos (by omega)]
    congr 2; omega
theorem rotL_mem {l : List Nat} {m x : Nat} : x ∈ rotL l m ↔ x ∈ l := by
  have h : x ∈ rotL l m ↔ x ∈ l.take m ++ l.drop m := by unfold rotL; rw [List.mem_append, List.mem_append, or_comm]
  rw [h, List.take_append_drop]
theorem rotL_perm (l : List Nat) (m : Nat) : (rotL l m).Perm l := by
  have : (rotL l m).Perm (l.take m ++ l.drop m) := List.perm_append_comm
  rwa [List.take_append_drop] at this

/-- Where the least one is. -/
def argm (l : List Nat) : Nat := l.findIdx fun x => l.all fun y => decide (x ≤ y)
theorem least_ex : ∀ {l : List Nat}, l ≠ [] → ∃ x ∈ l, ∀ y ∈ l, x ≤ y
  | [], h => absurd rfl h
  | [a], _ => ⟨a, by simp, by simp⟩
  | a :: b :: l, _ => by
    obtain ⟨x, hx, h⟩ := least_ex (l := b :: l) (by simp)
    by_cases e : a ≤ x
    · exact ⟨a, by simp, fun y hy => by
        rcases List.mem_cons.1 hy with rfl | hy
        · exact Nat.le_refl _
        · exact Nat.le_trans e (h y hy)⟩
    · exact ⟨x, List.mem_cons_of_mem _ hx, fun y hy => by
        rcases List.mem_cons.1 hy with rfl | hy
        · omega
        · exact h y hy⟩
theorem argm_lt {l : List Nat} (h : l ≠ []) : argm l < l.length := by
  obtain ⟨x, hx, hl⟩ := least_ex h
  exact List.findIdx_lt_length_of_exists ⟨x, hx, by simpa using hl⟩
theorem argm_le {l : List Nat} (h : l ≠ []) : ∀ y ∈ l, l.getD (argm l) 0 ≤ y := by
  have h1 := argm_lt h
  have h2 := List.findIdx_getElem (w := h1)
  rw [getD_at h1]
  intro y hy
  have h3 := List.all_eq_true.1 h2 y hy
  exact of_decide_eq_true h3
theorem argm_eq {l : List Nat} (hn : l.Nodup) {m : Nat} (hm : m < l.length) (h : ∀ y ∈ l, l.getD m 0 ≤ y) : argm l = m := by
  have h0 : l ≠ [] := by rintro rfl; simp at hm
  have h1 := argm_lt h0
  exact getD_inj hn h1 hm (Nat.le_antisymm (argm_le h0 _ (getD_mem hm)) (h _ (getD_mem h1)))
/-- A cycle, the least one first. -/
def rnd (l : List Nat) : List Nat := rotL l (argm l)
theorem argm_le_len (l : List Nat) : argm l ≤ l.length := List.findIdx_le_length
theorem rnd_length (l : List Nat) : (rnd l).length = l.length := rotL_length (argm_le_len l)
theorem rnd_mem {l : List Nat} {x : Nat} : x ∈ rnd l ↔ x ∈ l := rotL_mem
theorem rnd_perm (l : List Nat) : (rnd l).Perm l := rotL_perm _ _
theorem rnd_nil : rnd [] = [] := rfl
theorem rnd_getD {l : List Nat} {j : Nat} (hj : j < l.length) : (rnd l).getD j 0 = l.getD ((argm l + j) % l.length) 0 := rotL_getD (argm_lt (by rintro rfl; simp at hj)) hj
theorem rnd_head {l : List Nat} (h : l ≠ []) : (rnd l).getD 0 0 = l.getD (argm l) 0 := by
  have := argm_lt h
  rw [rnd_getD (by omega), Nat.add_zero, Nat.mod_eq_of_lt this]
theorem rnd_least {l : List Nat} {j : Nat} (hj : j < l.length) : (rnd l).getD 0 0 ≤ (rnd l).getD j 0 := by
  have h : l ≠ [] := by rintro rfl; simp at hj
  rw [rnd_head h]
  exact argm_le h _ (rnd_mem.1 (getD_mem (by rw [rnd_length]; exact hj)))

/-- The other dart of an edge. -/
def tw (d : Nat) : Nat := if d % 2 = 1 then d - 1 else d + 1
theorem tw_tw (d : Nat) : tw (tw d) = d := by unfold tw; split <;> split <;> omega
theorem tw_ne (d : Nat) : tw d ≠ d := by unfold tw; split <;> omega
theorem tw_lt {d E : Nat} (h : d < 2 * E) : tw d < 2 * E := by unfold tw; split <;> omega
theorem tw_even (e : Nat) : tw (2 * e) = 2 * e + 1 := by unfold tw; rw [if_neg (by omega)]
theorem tw_odd (e : Nat) : tw (2 * e + 1) = 2 * e := by unfold tw; rw [if_pos (by omega)]; omega
theorem tw_div (d : Nat) : tw d / 2 = d / 2 := by unfold tw; split <;> omega
theorem div_eq {d e : Nat} : d / 2 = e ↔ d = 2 * e ∨ d = 2 * e + 1 := by omega
/-- All that stand, stand with their other darts. -/
structure Good (E : Nat) (L : List (List Nat)) : Prop extends WF E L where
  twin : ∀ d, Stands L d → Stands L (tw d)
theorem Good.twin_iff {E : Nat} {L : List (List Nat)} (h : Good E L) (d : Nat) : Stands L (tw d) ↔ Stands L d := ⟨fun k => by have := h.twin _ k; rwa [tw_tw] at this, h.twin d⟩
theorem Good.pair {E : Nat} {L : List (List Nat)} (h : Good E L) (e : Nat) : Stands L (2 * e + 1) ↔ Stands L (2 * e) := by have := h.twin_iff (2 * e); rwa [tw_even] at this

/-- Is there such a corner? -/
def chkErr (L : List (List Nat)) (v b : Int) : Nat :=
  if v < 0 ∨ (L.length : Int) ≤ v then 12 else if b = -1 ∧ L.getD v.toNat [] = [] then 0 else if b < 0 ∨ b.toNat ∉ L.getD v.toNat [] then 13 else 0
theorem chk_ok {L : List (List Nat)} {v b : Int} (h : chkErr L v b = 0) : ∃ n : Nat, v = n ∧ ∃ l, L[n]? = some l ∧ (b = -1 ∧ l = [] ∨ ∃ m : Nat, b = m ∧ m ∈ l) := by
  unfold chkErr at h
  split at h
  · simp at h
  · rename_i h1
    have hv : v.toNat < L.length := by omega
    refine ⟨v.toNat, by omega, _, List.getElem?_eq_getElem hv, ?_⟩
    have hg : L.getD v.toNat [] = L[v.toNat] := by rw [List.getD_eq_getElem?_getD, List.getElem?_eq_getElem hv]; rfl
    rw [hg] at h
    split at h
    · rename_i h2; exact .inl h2
    · split at h
      · simp at h
      · rename_i h3
        refine .inr ⟨b.toNat, by omega, ?_⟩
        by_cases hm : b.toNat ∈ L[v.toNat]
        · exact hm
        · exact absurd (.inr hm) h3
/-- An edge laid; an edge taken away. -/
def layErr (E : Nat) (L : List (List Nat)) (e : Int) (a b : Int × Int) : Nat :=
  if e < 0 ∨ (E : Int) ≤ e then 12 else if Stands L (2 * e.toNat) then 20 else if chkErr L a.1 a.2 ≠ 0 then chkErr L a.1 a.2 else chkErr L b.1 b.2
def layL (L : List (List Nat)) (e : Nat) (a b : Int × Int) : List (List Nat) := putL (putL L (2 * e) a.1.toNat a.2) (2 * e + 1) b.1.toNat b.2
def lay (E : Nat) (L : List (List Nat)) (e : Int) (a b : Int × Int) : List (List Nat) := if layErr E L e a b = 0 then layL L e.toNat a b else L
def liftErr (E : Nat) (L : List (List Nat)) (e : Int) : Nat := if e < 0 ∨ (E : Int) ≤ e then 12 else if Stands L (2 * e.toNat) then 0 else 13
def liftL (L : List (List Nat)) (e : Nat) : List (List Nat) := remL (remL L (2 * e)) (2 * e + 1)
def lift (E : Nat) (L : List (List Nat)) (e : Int) : List (List Nat) := if liftErr E L e = 0 then liftL L e.toNat else L
theorem lay_length (E : Nat) (L : List (List Nat)) (e : Int) (a b : Int × Int) : (lay E L e a b).length = L.length := by
  unfold lay layL; split
  · rw [putL_length, putL_length]
  · rfl
theorem lift_length (E : Nat) (L : List (List Nat)) (e : Int) : (lift E L e).length = L.length := by
  unfold lift liftL; split
  · rw [remL_length, remL_length]
  · rfl
theorem chk_lt {L : List (List Nat)} {v b : Int} (h : chkErr L v b = 0) : v.toNat < L.length := by
  obtain ⟨n, rfl, l, hl, _⟩ := chk_ok h
  exact (List.getElem?_eq_some_iff.1 hl).1
theorem lay_stands {L : List (List Nat)} {e : Nat} {a b : Int × Int} (ha : chkErr L a.1 a.2 = 0) (hb : chkErr L b.1 b.2 = 0) {x : Nat} : Stands (layL L e a b) x ↔ x / 2 = e ∨ Stands L x := by
  unfold layL
  rw [putL_stands (by rw [putL_length]; exact chk_lt hb), putL_stands (chk_lt ha), div_eq]
  constructor
  · rintro (h | h | h)
    · exact .inl (.inr h)
    · exact .inl (.inl h)
    · exact .inr h
  · rintro ((h | h) | h)
    · exact .inr (.inl h)
    · exact .inl h
    · exact .inr (.inr h)
theorem lift_stands {L : List (List Nat)} {e x : Nat} : Stands (liftL L e) x ↔ x / 2 ≠ e ∧ Stands L x := by
  unfold liftL
  rw [remL_stands, remL_stands, ne_eq, ne_eq, ne_eq, div_eq]
  constructor
  · rintro ⟨h1, h2, h3⟩
    exact ⟨fun h => h.elim h2 h1, h3⟩
  · rintro ⟨h1, h3⟩
    exact ⟨fun h => h1 (.inr h), fun h => h1 (.inl h), h3⟩
theorem Good.lay {E : Nat} {L : List (List Nat)} (h : Good E L) (e : Int) (a b : Int × Int) : Good E (lay E L e a b) := by
  unfold Proofs.YtjmkejkhpdhhbaaDoor.lay
  split
  · rename_i h0
    unfold layErr at h0
    split at h0
    · simp at h0
    · rename_i h1
      split at h0
      · simp at h0
      · rename_i h2
        split at h0
        · exact absurd h0 ‹_›
        · rename_i h3
          have ha : chkErr L a.1 a.2 = 0 := by simpa using h3
          refine ⟨putL_wf (putL_wf h.toWF (by omega) h2 (chk_lt ha)) (by omega) (fun hs => ?_) (by rw [putL_length]; exact chk_lt h0), fun d hd => ?_⟩
          · rw [putL_stands (chk_lt ha)] at hs
            rcases hs with hs | hs
            · omega
            · exact h2 ((h.pair _).1 hs)
          · rw [lay_stands ha h0] at hd ⊢
            rw [tw_div]
            exact hd.imp_right (h.twin d)
  · exact h
theorem Good.lift {E : Nat} {L : List (List Nat)} (h : Good E L) (e : Int) : Good E (lift E L e) := by
  unfold Proofs.YtjmkejkhpdhhbaaDoor.lift
  split
  · refine ⟨remL_wf (remL_wf h.toWF), fun d hd => ?_⟩
    rw [lift_stands] at hd ⊢
    rw [tw_div]
    exact ⟨hd.1, h.twin d hd.2⟩
  · exact h
theorem Good.new (E v : Nat) : Good E (List.replicate v []) := by
  have hns : ∀ d, ¬ Stands (List.replicate v []) d := fun d hd => by
    obtain ⟨u, l, hu, hm⟩ := stands_iff.1 hd
    rw [List.getElem?_replicate] at hu
    split at hu
    · cases hu; simp at hm
    · cases hu
  refine ⟨⟨fun l hl d hd => ?_, ?_⟩, fun d hd => absurd hd (hns d)⟩
  · rw [(List.mem_replicate.1 hl).2] at hd; simp at hd
  · rw [show (List.replicate v ([] : List Nat)).flatten = [] by simp]; exact List.nodup_nil
end Go.Proofs.YtjmkejkhpdhhbaaDoor
