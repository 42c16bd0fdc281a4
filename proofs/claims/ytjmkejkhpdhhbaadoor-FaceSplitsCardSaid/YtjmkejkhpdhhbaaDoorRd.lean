/- Slices that are read: what their cells hold. -/
import Derived.Test.YtjmkejkhpdhhbaaDoorBase
namespace Go.Proofs.YtjmkejkhpdhhbaaDoor
open Go Go.RowKit
set_option linter.unusedVariables false
set_option linter.unusedSimpArgs false

/-- At a (nil or not) lie so many elements of s cells each: the cells are xs. -/
def Rd (w : World) (a : Option Addr) (xs : List Value) : Prop :=
  xs = [] ∨ ∃ b off, a = some ⟨b, off, none⟩ ∧ ∀ i, i < xs.length → w.cell? ⟨b, off + i, none⟩ = xs[i]?
theorem Rd.at_ {w : World} {a : Option Addr} {xs : List Value} (h : Rd w a xs) (i : Nat) (hi : i < xs.length) :
    ∃ b off, a = some ⟨b, off, none⟩ ∧ ∀ j, j < xs.length → w.cell? ⟨b, off + j, none⟩ = xs[j]? := by
  rcases h with rfl | h
  · simp at hi
  · exact h
theorem Rd.below {w w' : World} {a : Option Addr} {xs : List Value} (h : Rd w a xs) (hk : ∀ b off, a = some ⟨b, off, none⟩ → b < w.heap.size → w'.heap[b]? = w.heap[b]?) : Rd w' a xs := by
  rcases h with rfl | ⟨b, off, rfl, h⟩
  · exact .inl rfl
  · refine .inr ⟨b, off, rfl, fun i hi => ?_⟩
    rw [← h i hi]
    have hc := h i hi
    rw [List.getElem?_eq_getElem hi] at hc
    exact World.cell?_of_block (hk b off rfl (World.block_lt_of_cell? w _ hc))
theorem Rd.kept {w w' : World} {a : Option Addr} {xs : List Value} {fp : Nat → Prop} (h : Rd w a xs) (hk : Keeps fp w w') (hn : ∀ b off, a = some ⟨b, off, none⟩ → ¬ fp b) : Rd w' a xs :=
  h.below fun b off e hb => hk.block b hb (hn b off e)
theorem Rd.keep {w w' : World} {a : Option Addr} {xs : List Value} (h : Rd w a xs) (hk : Keeps (fun _ => False) w w') : Rd w' a xs := h.kept hk fun _ _ _ => id
theorem Rd.of_own {w : World} {base : Nat} {e : TypeId} {v : Value} {n : Nat} {xs : List Value} (h : w.ownsRow base e 1 v n xs) : ∃ a c, v = .slice a n c ∧ Rd w a xs ∧ n ≤ c ∧ (∀ b off, a = some ⟨b, off, none⟩ → v.ownBlock = some b) := by
  rcases h.2 with ⟨rfl, rfl⟩ | ⟨g, cap, cur, rfl, hb, hgg, hnc, hcm, hcs, htake⟩
  · exact ⟨none, 0, rfl, .inl (List.eq_nil_of_length_eq_zero (by simpa using h.1)), Nat.le_refl _, by simp⟩
  · refine ⟨_, cap, rfl, .inr ⟨g, 0, rfl, fun i hi => ?_⟩, hnc, fun b off e => by simp at e; simp [Value.ownBlock, e.1]⟩
    rw [← htake, List.getElem?_take, if_pos (by have := h.1; omega), Nat.zero_add, cell_of_row w g i cur e (0, 0) hgg]
    simp
end Go.Proofs.YtjmkejkhpdhhbaaDoor
