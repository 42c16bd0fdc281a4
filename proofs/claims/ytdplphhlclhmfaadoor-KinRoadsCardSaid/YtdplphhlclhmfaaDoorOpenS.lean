/- Arguments that came in: slices of structs of whole numbers. -/
import Derived.Deep.Slices
import Derived.Test.YtdplphhlclhmfaaDoorOpen
namespace Go.Proofs.YtdplphhlclhmfaaDoor
open Go Go.ChangeShapes Go.WideShapes Go.ChangeAt Go.RowKit Go.Deep
set_option linter.unusedVariables false
set_option linter.unusedSimpArgs false
set_option maxRecDepth 100000

theorem flat_length {α : Type} (m : Nat) : ∀ (L : List (List α)), (∀ l ∈ L, l.length = m) → L.flatten.length = L.length * m
  | [], _ => by simp
  | l :: L, h => by
    rw [List.flatten_cons, List.length_append, h l (by simp), flat_length m L fun x hx => h x (by simp [hx]), List.length_cons, Nat.succ_mul]; omega
theorem flat_get {α : Type} (m : Nat) : ∀ (L : List (List α)) (_ : ∀ l ∈ L, l.length = m) (i j : Nat) (_ : j < m) (_ : i < L.length), L.flatten[i * m + j]? = (L[i]?).bind (·[j]?)
  | [], _, i, j, _, hi => by simp at hi
  | l :: L, h, 0, j, hj, _ => by
    rw [List.flatten_cons, List.getElem?_append_left (by rw [h l (by simp)]; omega)]; simp
  | l :: L, h, i + 1, j, hj, hi => by
    have hl := h l (by simp)
    rw [List.flatten_cons, List.getElem?_append_right (by rw [hl, Nat.succ_mul]; omega)]
    rw [show (i + 1) * m + j - l.length = i * m + j by rw [hl, Nat.succ_mul]; omega]
    rw [flat_get m L (fun x hx => h x (by simp [hx])) i j hj (by simpa using hi)]
    simp

/-- A record of whole numbers as values. -/
def recVals (ks : List IntKind) (z : List Int) : List Value := List.zipWith Value.int ks z

section
variable {H : Type} {enc : TypeId × Value → H} {P : Program} {w : World} {base : Nat} {spare : Nat → Bool} {held : Bool}

theorem open_recs {t e : TypeId} {fs : Array Field} {fuel : Nat} {a : Option Addr} {len cap : Nat} {x : DataW H × List MemPlace} (ks : List IntKind) (hks : 0 < ks.length) (ht : P.underlying t = some (.slice e)) (he : P.underlying e = some (.struct fs))
    (ce : P.cellsOf e = ks.length) (hf : ∀ j (h : j < ks.length), ∃ f, fs[j]? = some f ∧ f.offset = j ∧ P.cellsOf f.type = 1 ∧ P.underlying f.type = some (.int ks[j]))
    (h : DataW.trod enc P w base spare held fuel t [.slice a len cap] = some x) :
    ∃ zs : List (List Int), zs.length = len ∧ (∀ z ∈ zs, z.length = ks.length ∧ ∀ j (h : j < ks.length) (h' : j < z.length), (Lit.int ks[j] z[j]).wf = true) ∧ Rd w a (zs.map (recVals ks)).flatten ∧ len ≤ 9223372036854775807 := by
  rcases open_slice ht h with ⟨hcs, _⟩ | ⟨a', len', cap', m, n, D, Pl, hcs, hb, hl, hm, hmm, _, hx⟩
  · simp at hcs
    obtain ⟨rfl, rfl, rfl⟩ := hcs
    exact ⟨[], rfl, by simp, .inl rfl, by decide⟩
  · simp at hcs
    obtain ⟨rfl, rfl, rfl⟩ := hcs
    have hlm : len ≤ m := by rw [hmm]; split <;> omega
    have each : ∀ i, i < len → ∃ z : List Int, z.length = ks.length ∧ (∀ j (h : j < ks.length) (h' : j < z.length), (Lit.int ks[j] z[j]).wf = true) ∧ ∀ j, j < ks.length → w.cell? (a'.add (i * ks.length + j)) = (recVals ks z)[j]? := by
      intro i hi
      obtain ⟨cs', h1, h2⟩ := hx i (by omega)
      rw [ce] at h1
      obtain ⟨_, hlen, hcell⟩ := World.cells?_some h1
      obtain ⟨xs, k, hk, hxy, _, hxl, hff⟩ := DataW.trod_struct he h2
      have hz : ∀ j, j < ks.length → ∃ v : Int, ∃ h : j < ks.length, cs'[j]? = some (.int ks[j] v) ∧ (Lit.int ks[j] v).wf = true := by
        intro j hj
        obtain ⟨f, hfj, ho, hc, hu⟩ := hf j hj
        have g := hff j f hfj
        have hxj : j < xs.length := by rw [hxl]; exact (Array.getElem?_eq_some_iff.1 hfj).1
        rw [ho, hc, List.getElem?_eq_getElem hxj] at g
        obtain ⟨v, hv, _, hw⟩ := DataW.trod_int hu g
        refine ⟨v, hj, ?_, hw⟩
        have := congrArg (·[0]?) hv
        simpa using this
      obtain ⟨g, hg⟩ := choose_lt hz
      refine ⟨(List.range ks.length).map g, by simp, fun j h h' => ?_, fun j hj => ?_⟩
      · obtain ⟨_, _, hw⟩ := hg j h
        simpa using hw
      · obtain ⟨_, hcj, _⟩ := hg j hj
        have := hcell j hj
        rw [add_add] at this
        rw [this, hcj]
        simp [recVals, List.getElem?_zipWith, hj]
    obtain ⟨Z, hZ⟩ := choose_lt each
    refine ⟨(List.range len).map Z, by simp, fun z hz => ?_, ?_, by unfold maxLen at hm; omega⟩
    · obtain ⟨i, hi, rfl⟩ := List.mem_map.1 hz
      exact ⟨(hZ i (List.mem_range.1 hi)).1, (hZ i (List.mem_range.1 hi)).2.1⟩
    · have hL : ∀ l ∈ ((List.range len).map Z).map (recVals ks), l.length = ks.length := by
        intro l hl
        simp at hl
        obtain ⟨i, hi, rfl⟩ := hl
        simp [recVals, (hZ i hi).1]
      have hlen2 := flat_length ks.length _ hL
      simp at hlen2
      have := rd_of_cells (w := w) (x := a') (n := ((((List.range len).map Z).map (recVals ks)).flatten).length) (xs := (((List.range len).map Z).map (recVals ks)).flatten) (fun q hq => ?_) (Nat.le_refl _)
      · rwa [List.take_length] at this
      · have hq' : q < len * ks.length := by rw [flat_length ks.length _ hL] at hq; simpa using hq
        have hqi : q / ks.length < len := by
          rw [Nat.div_lt_iff_lt_mul hks]; exact hq'
        have hqj := Nat.mod_lt q hks
        have hqe : q / ks.length * ks.length + q % ks.length = q := by rw [Nat.mul_comm]; exact Nat.div_add_mod q ks.length
        have h3 := (hZ _ hqi).2.2 _ hqj
        rw [hqe] at h3
        rw [h3, ← hqe, flat_get ks.length _ hL _ _ hqj (by simpa using hqi)]
        simp [hqi, hqe]

theorem open_pairs {t e : TypeId} {fs : Array Field} {fuel : Nat} {a : Option Addr} {len cap : Nat} {x : DataW H × List MemPlace} (k0 k1 : IntKind) (ht : P.underlying t = some (.slice e)) (he : P.underlying e = some (.struct fs))
    (ce : P.cellsOf e = 2) (hf : ∀ j (h : j < [k0, k1].length), ∃ f, fs[j]? = some f ∧ f.offset = j ∧ P.cellsOf f.type = 1 ∧ P.underlying f.type = some (.int [k0, k1][j]))
    (h : DataW.trod enc P w base spare held fuel t [.slice a len cap] = some x) :
    ∃ ls : List (Int × Int), ls.length = len ∧ Rd w a (ls.flatMap fun p => [Value.int k0 p.1, .int k1 p.2]) ∧ len ≤ 9223372036854775807 ∧ ∀ p ∈ ls, (Lit.int k0 p.1).wf = true ∧ (Lit.int k1 p.2).wf = true := by
  obtain ⟨zs, h1, h2, h3, h4⟩ := open_recs [k0, k1] (by simp) ht he ce hf h
  have h5 : (zs.map (recVals [k0, k1])).flatten = (zs.map fun z => (z.getD 0 0, z.getD 1 0)).flatMap fun p => [Value.int k0 p.1, .int k1 p.2] := by
    rw [List.flatMap_def, List.map_map]
    congr 1
    apply List.map_congr_left
    intro z hz
    obtain ⟨hz, _⟩ := h2 z hz
    match z, hz with
    | [x, y], _ => rfl
  refine ⟨_, by rw [List.length_map]; exact h1, h5 ▸ h3, h4, fun p hp => ?_⟩
  obtain ⟨z, hz, rfl⟩ := List.mem_map.1 hp
  obtain ⟨hl, hw⟩ := h2 z hz
  match z, hl with
  | [x, y], _ => exact ⟨hw 0 (by simp) (by simp), hw 1 (by simp) (by simp)⟩

theorem open_quads {t e : TypeId} {fs : Array Field} {fuel : Nat} {a : Option Addr} {len cap : Nat} {x : DataW H × List MemPlace} (k0 k1 k2 k3 : IntKind) (ht : P.underlying t = some (.slice e)) (he : P.underlying e = some (.struct fs))
    (ce : P.cellsOf e = 4) (hf : ∀ j (h : j < [k0, k1, k2, k3].length), ∃ f, fs[j]? = some f ∧ f.offset = j ∧ P.cellsOf f.type = 1 ∧ P.underlying f.type = some (.int [k0, k1, k2, k3][j]))
    (h : DataW.trod enc P w base spare held fuel t [.slice a len cap] = some x) :
    ∃ ls : List (Int × Int × Int × Int), ls.length = len ∧ Rd w a (ls.flatMap fun p => [Value.int k0 p.1, .int k1 p.2.1, .int k2 p.2.2.1, .int k3 p.2.2.2]) ∧ len ≤ 9223372036854775807 ∧
      ∀ p ∈ ls, (Lit.int k0 p.1).wf = true ∧ (Lit.int k1 p.2.1).wf = true ∧ (Lit.int k2 p.2.2.1).wf = true ∧ (Lit.int k3 p.2.2.2).wf = true := by
  obtain ⟨zs, h1, h2, h3, h4⟩ := open_recs [k0, k1, k2, k3] (by simp) ht he ce hf h
  have h5 : (zs.map (recVals [k0, k1, k2, k3])).flatten = (zs.map fun z => (z.getD 0 0, z.getD 1 0, z.getD 2 0, z.getD 3 0)).flatMap fun p => [Value.int k0 p.1, .int k1 p.2.1, .int k2 p.2.2.1, .int k3 p.2.2.2] := by
    rw [List.flatMap_def, List.map_map]
    congr 1
    apply List.map_congr_left
    intro z hz
    obtain ⟨hz, _⟩ := h2 z hz
    match z, hz with
    | [x, y, u, v], _ => rfl
  refine ⟨_, by rw [List.length_map]; exact h1, h5 ▸ h3, h4, fun p hp => ?_⟩
  obtain ⟨z, hz, rfl⟩ := List.mem_map.1 hp
  obtain ⟨hl, hw⟩ := h2 z hz
  match z, hl with
  | [x, y, u, v], _ => exact ⟨hw 0 (by simp) (by simp), hw 1 (by simp) (by simp), hw 2 (by simp) (by simp), hw 3 (by simp) (by simp)⟩
end
end Go.Proofs.YtdplphhlclhmfaaDoor
