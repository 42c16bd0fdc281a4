/- Arguments that came in: acts (two numbers and two pairs), a slice of them, one alone; a pair. -/
import Derived.Test.YtdplphhlclhmfaaDoorOpenS
namespace Go.Proofs.YtdplphhlclhmfaaDoor
open Go Go.ChangeShapes Go.WideShapes Go.ChangeAt Go.RowKit Go.Deep
set_option linter.unusedVariables false
set_option linter.unusedSimpArgs false
set_option maxRecDepth 100000

instance : Inhabited Act10 := ⟨⟨0, 0, (0, 0), (0, 0)⟩⟩
/-- An act's six cells. -/
def actCells (x : Act10) : List Value := [.int .i64 x.kind, .int .i64 x.e, .int .i64 x.a.1, .int .i64 x.a.2, .int .i64 x.b.1, .int .i64 x.b.2]

section
variable {H : Type} {enc : TypeId × Value → H} {P : Program} {w : World} {base : Nat} {spare : Nat → Bool} {held : Bool}

theorem open_two {t e : TypeId} {fuel : Nat} {cs : List Value} {x : DataW H × List MemPlace} (ht : P.underlying t = some (.array 2 e)) (he : P.underlying e = some (.int .i64)) (ce : P.cellsOf e = 1) (ct : P.cellsOf t = 2)
    (h : DataW.trod enc P w base spare held fuel t cs = some x) : ∃ a b : Int, cs = [.int .i64 a, .int .i64 b] ∧ (Lit.int .i64 a).wf = true ∧ (Lit.int .i64 b).wf = true := by
  obtain ⟨xs, m, _, _, hl, hxl, hx⟩ := DataW.trod_array ht h
  rw [ct] at hl
  match cs, hl with
  | [u, v], _ =>
    have h0 := hx 0 (by decide)
    have h1 := hx 1 (by decide)
    rw [ce, List.getElem?_eq_getElem (by omega)] at h0 h1
    obtain ⟨a, ha, _, wa⟩ := DataW.trod_int he h0
    obtain ⟨b, hb, _, wb⟩ := DataW.trod_int he h1
    simp at ha hb
    subst ha hb
    exact ⟨a, b, rfl, wa, wb⟩

theorem open_act {t ti tp : TypeId} {fs : Array Field} {fuel : Nat} {cs : List Value} {x : DataW H × List MemPlace} (ht : P.underlying t = some (.struct fs)) (hi : P.underlying ti = some (.int .i64)) (ci : P.cellsOf ti = 1)
    (hp : P.underlying tp = some (.array 2 ti)) (cp : P.cellsOf tp = 2) (ct : P.cellsOf t = 6)
    (f0 : (fs[0]?).map (fun f => (f.offset, f.type)) = some (0, ti)) (f1 : (fs[1]?).map (fun f => (f.offset, f.type)) = some (1, ti))
    (f2 : (fs[2]?).map (fun f => (f.offset, f.type)) = some (2, tp)) (f3 : (fs[3]?).map (fun f => (f.offset, f.type)) = some (4, tp))
    (h : DataW.trod enc P w base spare held fuel t cs = some x) : ∃ y : Act10, cs = actCells y := by
  obtain ⟨xs, k, hk, hxy, hl, hxl, hff⟩ := DataW.trod_struct ht h
  rw [ct] at hl
  obtain ⟨g0, e0, q0⟩ := Option.map_eq_some_iff.1 f0
  obtain ⟨g1, e1, q1⟩ := Option.map_eq_some_iff.1 f1
  obtain ⟨g2, e2, q2⟩ := Option.map_eq_some_iff.1 f2
  obtain ⟨g3, e3, q3⟩ := Option.map_eq_some_iff.1 f3
  simp only [Prod.mk.injEq] at q0 q1 q2 q3
  have h0 := hff 0 g0 e0
  have h1 := hff 1 g1 e1
  have h2 := hff 2 g2 e2
  have h3 := hff 3 g3 e3
  have l3 : 3 < xs.length := by rw [hxl]; exact (Array.getElem?_eq_some_iff.1 e3).1
  rw [q0.1, q0.2, ci, List.getElem?_eq_getElem (by omega)] at h0
  rw [q1.1, q1.2, ci, List.getElem?_eq_getElem (by omega)] at h1
  rw [q2.1, q2.2, cp, List.getElem?_eq_getElem (by omega)] at h2
  rw [q3.1, q3.2, cp, List.getElem?_eq_getElem (by omega)] at h3
  obtain ⟨z0, z0e, _, _⟩ := DataW.trod_int hi h0
  obtain ⟨z1, z1e, _, _⟩ := DataW.trod_int hi h1
  obtain ⟨a1, a2, ae, _⟩ := open_two hp hi ci cp h2
  obtain ⟨b1, b2, be, _⟩ := open_two hp hi ci cp h3
  match cs, hl with
  | [c0, c1, c2, c3, c4, c5], _ =>
    simp at z0e z1e ae be
    obtain ⟨rfl, rfl⟩ := ae
    obtain ⟨rfl, rfl⟩ := be
    subst z0e z1e
    exact ⟨⟨z0, z1, (a1, a2), (b1, b2)⟩, rfl⟩

theorem open_acts {t e ti tp : TypeId} {fs : Array Field} {fuel : Nat} {a : Option Addr} {len cap : Nat} {x : DataW H × List MemPlace} (ht : P.underlying t = some (.slice e)) (he : P.underlying e = some (.struct fs)) (hi : P.underlying ti = some (.int .i64)) (ci : P.cellsOf ti = 1)
    (hp : P.underlying tp = some (.array 2 ti)) (cp : P.cellsOf tp = 2) (ct : P.cellsOf e = 6)
    (f0 : (fs[0]?).map (fun f => (f.offset, f.type)) = some (0, ti)) (f1 : (fs[1]?).map (fun f => (f.offset, f.type)) = some (1, ti))
    (f2 : (fs[2]?).map (fun f => (f.offset, f.type)) = some (2, tp)) (f3 : (fs[3]?).map (fun f => (f.offset, f.type)) = some (4, tp))
    (h : DataW.trod enc P w base spare held fuel t [.slice a len cap] = some x) :
    ∃ ls : List Act10, ls.length = len ∧ Rd w a (ls.flatMap actCells) ∧ len ≤ 9223372036854775807 := by
  rcases open_slice ht h with ⟨hcs, _⟩ | ⟨a', len', cap', m, n, D, Pl, hcs, hb, hl, hm, hmm, _, hx⟩
  · simp at hcs
    obtain ⟨rfl, rfl, rfl⟩ := hcs
    exact ⟨[], rfl, .inl rfl, by decide⟩
  · simp at hcs
    obtain ⟨rfl, rfl, rfl⟩ := hcs
    have hlm : len ≤ m := by rw [hmm]; split <;> omega
    have each : ∀ i, i < len → ∃ y : Act10, ∀ j, j < 6 → w.cell? (a'.add (i * 6 + j)) = (actCells y)[j]? := by
      intro i hi'
      obtain ⟨cs', h1, h2⟩ := hx i (by omega)
      rw [ct] at h1
      obtain ⟨_, hlen, hcell⟩ := World.cells?_some h1
      obtain ⟨y, rfl⟩ := open_act he hi ci hp cp ct f0 f1 f2 f3 h2
      refine ⟨y, fun j hj => ?_⟩
      have := hcell j hj
      rwa [add_add] at this
    obtain ⟨Z, hZ⟩ := choose_lt each
    refine ⟨(List.range len).map Z, by simp, ?_, by unfold maxLen at hm; omega⟩
    have hL : ∀ l ∈ ((List.range len).map Z).map actCells, l.length = 6 := by
      intro l hl
      simp at hl
      obtain ⟨i, hi, rfl⟩ := hl
      rfl
    have hlen2 := flat_length 6 _ hL
    rw [List.flatMap_def]
    have := rd_of_cells (w := w) (x := a') (n := ((((List.range len).map Z).map actCells).flatten).length) (xs := (((List.range len).map Z).map actCells).flatten) (fun q hq => ?_) (Nat.le_refl _)
    · rwa [List.take_length] at this
    · have hq' : q < len * 6 := by rw [hlen2] at hq; simpa using hq
      have hqi : q / 6 < len := by omega
      have hqj : q % 6 < 6 := by omega
      have hqe : q / 6 * 6 + q % 6 = q := by omega
      have h3 := hZ _ hqi _ hqj
      rw [hqe] at h3
      rw [h3]
      have h4 := flat_get 6 _ hL (q / 6) (q % 6) hqj (by simpa using hqi)
      rw [hqe] at h4
      rw [h4]
      simp [hqi]
theorem open_pairV {t e : TypeId} {r : Reach} {b0 : Nat} {v : Value} {d : DataW H} {ps : List MemPlace} (ht : P.underlying t = some (.array 2 e)) (he : P.underlying e = some (.int .i64)) (ce : P.cellsOf e = 1) (ct : P.cellsOf t = 2)
    (hval : Value.okWide P w r b0 t v) (h : DataW.Trod enc P w base spare held t v d ps) : ∃ a b : Int, v = .agg #[.int .i64 a, .int .i64 b] := by
  simp only [Value.okWide, ht] at hval
  obtain ⟨cs, rfl, _, _⟩ := hval
  obtain ⟨fuel, hf⟩ := h
  obtain ⟨a, b, hab, _⟩ := open_two ht he ce ct hf
  refine ⟨a, b, ?_⟩
  obtain ⟨l⟩ := cs
  simp [Value.cells] at hab
  simp [hab]
theorem open_actV {t ti tp : TypeId} {fs : Array Field} {r : Reach} {b0 : Nat} {v : Value} {d : DataW H} {ps : List MemPlace} (ht : P.underlying t = some (.struct fs)) (hi : P.underlying ti = some (.int .i64)) (ci : P.cellsOf ti = 1)
    (hp : P.underlying tp = some (.array 2 ti)) (cp : P.cellsOf tp = 2) (ct : P.cellsOf t = 6)
    (f0 : (fs[0]?).map (fun f => (f.offset, f.type)) = some (0, ti)) (f1 : (fs[1]?).map (fun f => (f.offset, f.type)) = some (1, ti))
    (f2 : (fs[2]?).map (fun f => (f.offset, f.type)) = some (2, tp)) (f3 : (fs[3]?).map (fun f => (f.offset, f.type)) = some (4, tp))
    (hval : Value.okWide P w r b0 t v) (h : DataW.Trod enc P w base spare held t v d ps) : ∃ y : Act10, v = actVal y := by
  simp only [Value.okWide, ht] at hval
  obtain ⟨cs, rfl, _, _⟩ := hval
  obtain ⟨fuel, hf⟩ := h
  obtain ⟨y, hy⟩ := open_act ht hi ci hp cp ct f0 f1 f2 f3 hf
  refine ⟨y, ?_⟩
  obtain ⟨l⟩ := cs
  simp [Value.cells] at hy
  simp [hy, actVal, actCells]
end
end Go.Proofs.YtdplphhlclhmfaaDoor
