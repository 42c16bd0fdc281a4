/- Arguments that came in: slices of whole numbers. -/
import Derived.Test.YtdplphhlclhmfaaDoorLaidE
import Derived.OpenShut
import Derived.ShutString
import Derived.ChangeOld
import Derived.ProofKit
import Derived.Test.YtdplphhlclhmfaaDoorKe
namespace Go.Proofs.YtdplphhlclhmfaaDoor
open Go Go.ChangeShapes Go.WideShapes Go.ChangeAt Go.RowKit
set_option linter.unusedVariables false
set_option linter.unusedSimpArgs false
set_option maxRecDepth 100000

theorem addr_add (b off i : Nat) : (⟨b, off, none⟩ : Addr).add i = ⟨b, off + i, none⟩ := by
  unfold Addr.add; split
  · rename_i h; simp [h]
  · rfl
theorem rd_of_cells {w : World} {x : Addr} {n : Nat} {xs : List Value} (h : ∀ i, i < xs.length → w.cell? (x.add i) = xs[i]?) (hn : n ≤ xs.length) : Rd w (some x) (xs.take n) := by
  by_cases h0 : n = 0
  · left; simp [h0]
  · obtain ⟨b, off, spot⟩ := x
    have h00 := h 0 (by omega)
    have hs : spot = none := by
      cases spot with
      | none => rfl
      | some s =>
        rw [List.getElem?_eq_getElem (by omega)] at h00
        exfalso
        unfold Addr.add World.cell? at h00
        simp at h00
        split at h00 <;> simp_all
    subst hs
    right
    refine ⟨b, off, rfl, fun i hi => ?_⟩
    simp at hi
    rw [← addr_add, h i (by omega), List.getElem?_take, if_pos (by omega)]
/-- A slice of integers that came in: it reads as these numbers. -/
theorem rd_of_ints {k : IntKind} {w : World} {a : Option Addr} {len cap : Nat} {zs : List Int}
    (h : (a = none ∧ len = 0 ∧ cap = 0 ∧ zs = []) ∨ ∃ x, a = some x ∧ len ≤ cap ∧ cap ≤ maxLen ∧ zs.length = cap ∧ (∀ i, i < zs.length → w.cell? (x.add i) = some (.int k (zs.getD i 0))) ∧ ∀ n ∈ zs, (Lit.int k n).wf = true) :
    (zs.take len).length = len ∧ Rd w a ((zs.take len).map fun z => Value.int k z) ∧ len ≤ 9223372036854775807 ∧ ∀ n ∈ zs.take len, (Lit.int k n).wf = true := by
  rcases h with ⟨rfl, rfl, rfl, rfl⟩ | ⟨x, rfl, hl, hm, hz, hc, hw⟩
  · exact ⟨rfl, .inl rfl, by decide, by simp⟩
  · refine ⟨by simp; omega, ?_, by unfold maxLen at hm; omega, fun n hn => hw n (List.mem_of_mem_take hn)⟩
    rw [List.map_take]
    refine rd_of_cells (fun i hi => ?_) (by simp; omega)
    simp at hi
    rw [hc i hi]
    simp [hi]

/-- A whole number's bounds. -/
theorem i64_bounds {n : Int} (h : (Lit.int .i64 n).wf = true) : -9223372036854775808 ≤ n ∧ n ≤ 9223372036854775807 := by
  simp [Lit.wf, IntKind.min, IntKind.max, IntKind.signed, IntKind.bits] at h
  omega
end Go.Proofs.YtdplphhlclhmfaaDoor
