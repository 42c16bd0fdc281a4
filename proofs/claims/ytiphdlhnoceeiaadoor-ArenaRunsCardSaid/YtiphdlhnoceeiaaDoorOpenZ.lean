/- Arguments that came in: how long a slice can be. -/
import Derived.Test.YtiphdlhnoceeiaaDoorOpenS
import Derived.SizedLaws
namespace Go.Proofs.YtiphdlhnoceeiaaDoor
open Go Go.ChangeShapes Go.WideShapes Go.ChangeAt Go.RowKit Go.Deep
set_option linter.unusedVariables false
set_option linter.unusedSimpArgs false
section
variable {H : Type} {enc : TypeId × Value → H} {P : Program} {w : World} {base : Nat} {spare : Nat → Bool} {held : Bool}
theorem open_sized {t e : TypeId} {a : Option Addr} {len cap : Nat} {d : DataW H} {pl : List MemPlace} {ts : List TypeId} {DS : List (DataW H)} (ht : P.underlying t = some (.slice e))
    (h : ∃ fuel, DataW.trod enc P w base spare held fuel t (Value.slice a len cap).cells.toList = some (d, pl)) (hsz : (DataW.weightsEach P ts DS).all (· ≤ reachBytes) = true) (j : Nat) (htj : ts[j]? = some t) (hdj : DS[j]? = some d) :
    len * P.bytesOf e ≤ 140737488351232 := by
  obtain ⟨fuel, h⟩ := h
  have hf' := by simpa only [Value.cells] using h
  rcases open_slice ht hf' with ⟨hcs, _⟩ | ⟨a', len', cap', m, n, D, Pl, hcs, hb, hl, hm, hmm, hx, _⟩
  · simp at hcs
    obtain ⟨rfl, rfl, rfl⟩ := hcs
    omega
  · simp at hcs
    obtain ⟨rfl, rfl, rfl⟩ := hcs
    simp only [Prod.mk.injEq] at hx
    obtain ⟨rfl, _⟩ := hx
    have := sized_slice hsz htj hdj ht
    have hr : reachBytes = 140737488351232 := rfl
    rw [hr] at this
    refine Nat.le_trans (Nat.mul_le_mul_right _ ?_) this
    simp
end
end Go.Proofs.YtiphdlhnoceeiaaDoor
