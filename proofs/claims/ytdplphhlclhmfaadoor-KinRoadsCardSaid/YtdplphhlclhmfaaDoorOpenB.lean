/- Arguments that came in: three numbers. -/
import Derived.Test.YtdplphhlclhmfaaDoorOpenA
namespace Go.Proofs.YtdplphhlclhmfaaDoor
open Go Go.ChangeShapes Go.WideShapes Go.ChangeAt Go.RowKit Go.Deep
set_option linter.unusedVariables false
set_option linter.unusedSimpArgs false
set_option maxRecDepth 100000

section
variable {H : Type} {enc : TypeId × Value → H} {P : Program} {w : World} {base : Nat} {spare : Nat → Bool} {held : Bool}
theorem open_three {t e : TypeId} {fuel : Nat} {cs : List Value} {x : DataW H × List MemPlace} (ht : P.underlying t = some (.array 3 e)) (he : P.underlying e = some (.int .i64)) (ce : P.cellsOf e = 1) (ct : P.cellsOf t = 3)
    (h : DataW.trod enc P w base spare held fuel t cs = some x) : ∃ a b c : Int, cs = [.int .i64 a, .int .i64 b, .int .i64 c] := by
  obtain ⟨xs, m, _, _, hl, hxl, hx⟩ := DataW.trod_array ht h
  rw [ct] at hl
  match cs, hl with
  | [u, v, y], _ =>
    have h0 := hx 0 (by decide)
    have h1 := hx 1 (by decide)
    have h2 := hx 2 (by decide)
    rw [ce, List.getElem?_eq_getElem (by omega)] at h0 h1 h2
    obtain ⟨a, ha, _, wa⟩ := DataW.trod_int he h0
    obtain ⟨b, hb, _, wb⟩ := DataW.trod_int he h1
    obtain ⟨c, hc, _, wc⟩ := DataW.trod_int he h2
    simp at ha hb hc
    subst ha hb hc
    exact ⟨a, b, c, rfl⟩
theorem open_tripleV {t e : TypeId} {r : Reach} {b0 : Nat} {v : Value} {d : DataW H} {ps : List MemPlace} (ht : P.underlying t = some (.array 3 e)) (he : P.underlying e = some (.int .i64)) (ce : P.cellsOf e = 1) (ct : P.cellsOf t = 3)
    (hval : Value.okWide P w r b0 t v) (h : DataW.Trod enc P w base spare held t v d ps) : ∃ a b c : Int, v = .agg #[.int .i64 a, .int .i64 b, .int .i64 c] := by
  simp only [Value.okWide, ht] at hval
  obtain ⟨cs, rfl, _, _⟩ := hval
  obtain ⟨fuel, hf⟩ := h
  obtain ⟨a, b, c, hab⟩ := open_three ht he ce ct hf
  refine ⟨a, b, c, ?_⟩
  obtain ⟨l⟩ := cs
  simp [Value.cells] at hab
  simp [hab]
end
end Go.Proofs.YtdplphhlclhmfaaDoor
