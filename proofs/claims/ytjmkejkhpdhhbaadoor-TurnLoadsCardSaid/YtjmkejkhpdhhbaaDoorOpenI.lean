/- Arguments that came in: slices of slices of whole numbers. -/
import Derived.Test.YtjmkejkhpdhhbaaDoorOpenS
import Derived.Test.YtjmkejkhpdhhbaaDoorLwO
import Derived.Deep.Matrix
namespace Go.Proofs.YtjmkejkhpdhhbaaDoor
open Go Go.ChangeShapes Go.WideShapes Go.ChangeAt Go.RowKit Go.Deep
set_option linter.unusedVariables false
set_option linter.unusedSimpArgs false

theorem open_irows {H : Type} {enc : TypeId × Value → H} {P : Program} {w : World} {base : Nat} {held : Bool} {t e q : TypeId} {fuel : Nat} {a : Option Addr} {len cap : Nat} {x : DataW H × List MemPlace} (ht : P.underlying t = some (.slice e)) (he : P.underlying e = some (.slice q)) (hq : P.underlying q = some (.int .i64))
    (ce : P.cellsOf e = 1) (cq : P.cellsOf q = 1) (h : DataW.trod enc P w base (fun _ => true) held fuel t [.slice a len cap] = some x) :
    ∃ R : List (List Int), R.length = len ∧ IRows w (.slice a R.length cap) R ∧ len ≤ 9223372036854775807 ∧ ∀ l ∈ R, l.length ≤ 9223372036854775807 := by
  rcases open_int_rows ht he hq ce cq h with ⟨hcs, _⟩ | ⟨a', len', cap', A, L, C, Z, hcs, hb, hl, hm, _, hx⟩
  · simp at hcs
    obtain ⟨rfl, rfl, rfl⟩ := hcs
    exact ⟨[], rfl, ⟨[], rfl, ⟨none, 0, rfl, .inl rfl⟩, fun i l hl => by simp at hl⟩, by decide, fun l hl => by simp at hl⟩
  · simp at hcs
    obtain ⟨rfl, rfl, rfl⟩ := hcs
    have each : ∀ r, r < len → ((Z r).take (L r)).length = L r ∧ Rd w (A r) (((Z r).take (L r)).map fun z => Value.int .i64 z) ∧ L r ≤ 9223372036854775807 := fun r hr => by
      obtain ⟨_, h2, h3, h4, h5, h6, h7⟩ := hx r (by omega)
      have hfin := rd_of_ints (k := .i64) (w := w) (a := A r) (len := L r) (cap := C r) (zs := Z r) (by
        cases hA : A r with
        | none =>
          have := h6 hA
          exact Or.inl ⟨rfl, by omega, this, List.eq_nil_of_length_eq_zero (by omega)⟩
        | some a2 =>
          refine Or.inr ⟨a2, rfl, h2, h3, h4, fun i hi => ?_, h5⟩
          exact (h7 a2 hA).2 i (by omega))
      exact ⟨hfin.1, hfin.2.1, hfin.2.2.1⟩
    refine ⟨(List.range len).map fun r => (Z r).take (L r), by simp, ⟨(List.range len).map fun r => Value.slice (A r) (L r) (C r), by simp, ⟨some a', cap, by simp, ?_⟩, fun i l hil => ?_⟩, by unfold maxLen at hm; omega, fun l hl2 => ?_⟩
    · have := rd_of_cells (w := w) (x := a') (n := ((List.range len).map fun r => Value.slice (A r) (L r) (C r)).length) (xs := (List.range len).map fun r => Value.slice (A r) (L r) (C r)) (fun i hi => by
        have hi' : i < len := by simpa using hi
        rw [(hx i (by omega)).1]
        simp [hi']) (Nat.le_refl _)
      rwa [List.take_length] at this
    · have hi' : i < len := by have := (List.getElem?_eq_some_iff.1 hil).1; simpa using this
      simp [hi'] at hil
      subst hil
      obtain ⟨g1, g2, _⟩ := each i hi'
      exact ⟨A i, C i, by rw [g1]; simp [hi'], g2⟩
    · obtain ⟨r, hr, rfl⟩ := List.mem_map.1 hl2
      obtain ⟨g1, _, g3⟩ := each r (List.mem_range.1 hr)
      rw [g1]; exact g3
end Go.Proofs.YtjmkejkhpdhhbaaDoor
