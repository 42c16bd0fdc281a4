/- Chapter 3's laws: handles in memory, beside an arena. -/
import Derived.Test.YtiphdlhnoceeiaaDoorL3g
namespace Go.Proofs.YtiphdlhnoceeiaaDoor
open Go Go.RowKit
set_option linter.unusedVariables false
set_option linter.unusedSimpArgs false
set_option maxRecDepth 100000

theorem infoHa : (Tryd.prog.info? 46).map (fun i => (i.zero, i.size, i.bytes)) = some (some (.agg #[.int .u32 0, .int .u32 0]), 2, 8) := by kernel_rfl
def hrVals (hs : List (Int × Nat)) : List Value := hs.flatMap fun q => [Value.int .u32 q.1, .int .u32 (q.2 : Int)]
theorem hrVals_length (L : List (Int × Nat)) : (hrVals L).length = L.length * 2 := by
  induction L with
  | nil => rfl
  | cons p L ih => simp only [hrVals, List.flatMap_cons] at ih ⊢; simp [ih]; omega
theorem hrVals_get (L : List (Int × Nat)) (i : Nat) (h : i < L.length) : (hrVals L)[i * 2]? = some (.int .u32 L[i].1) ∧ (hrVals L)[i * 2 + 1]? = some (.int .u32 (L[i].2 : Int)) := by
  induction L generalizing i with
  | nil => simp at h
  | cons p L ih =>
    cases i with
    | zero => simp [hrVals]
    | succ i =>
      have := ih i (by simpa using h)
      simp only [hrVals, List.flatMap_cons] at this ⊢
      rw [List.getElem?_append_right (by simp; omega), List.getElem?_append_right (by simp; omega)]
      simp only [List.length_cons, List.length_nil, List.getElem_cons_succ]
      rw [show (i + 1) * 2 - (0 + 1 + 1) = i * 2 from by omega, show (i + 1) * 2 + 1 - (0 + 1 + 1) = i * 2 + 1 from by omega]
      exact this
theorem hrVals_append (L M : List (Int × Nat)) : hrVals (L ++ M) = hrVals L ++ hrVals M := by simp [hrVals]
theorem hrVals_one (L : List (Int × Nat)) : ∀ u ∈ hrVals L, u.oneCell' = true := by
  intro u hu
  simp only [hrVals, List.mem_flatMap] at hu
  obtain ⟨q, _, hq⟩ := hu
  simp at hq
  rcases hq with rfl | rfl <;> rfl
def HRow (w : World) (base : Nat) (v : Value) (hs : List (Int × Nat)) : Prop := w.ownsRow base 46 2 v hs.length (hrVals hs)
theorem HRow.nil (w : World) (base : Nat) : HRow w base (.slice none 0 0) [] := World.ownsRow_nil _ _ _ _
theorem HRow.at_ {w : World} {base : Nat} {v : Value} {hs : List (Int × Nat)} (h : HRow w base v hs) (i : Nat) (hi : i < hs.length) :
    ∃ g c, v = .slice (some ⟨g, 0, none⟩) hs.length c ∧ hs.length ≤ c ∧ c ≤ maxLen ∧ w.cell? ⟨g, i * 2, none⟩ = some (.int .u32 hs[i].1) ∧ w.cell? ⟨g, i * 2 + 1, none⟩ = some (.int .u32 (hs[i].2 : Int)) := by
  rcases h.2 with ⟨_, h0⟩ | ⟨g, c, cur, rfl, _, _, hc, hm, _⟩
  · omega
  · refine ⟨g, c, rfl, hc, hm, ?_, ?_⟩
    · rw [World.ownsRow.cellAt h _ (by omega)]; exact (hrVals_get hs i hi).1
    · rw [World.ownsRow.cellAt h _ (by omega)]; exact (hrVals_get hs i hi).2
theorem HRow.cells {w : World} {base : Nat} {g c : Nat} {hs : List (Int × Nat)} (h : HRow w base (.slice (some ⟨g, 0, none⟩) hs.length c) hs) (o m : Nat) (hm : o + m ≤ hs.length) :
    ∀ j u, (hrVals ((hs.drop o).take m))[j]? = some u → w.cell? ⟨g, o * 2 + j, none⟩ = some u := by
  intro j u hu
  have hj := (List.getElem?_eq_some_iff.1 hu).1
  rw [hrVals_length, List.length_take, List.length_drop] at hj
  have hj2 : j < m * 2 := by omega
  rw [World.ownsRow.cellAt h _ (by omega), ← hu]
  have e : hrVals hs = hrVals (hs.take o) ++ (hrVals ((hs.drop o).take m) ++ hrVals ((hs.drop o).drop m)) := by
    rw [← hrVals_append, ← hrVals_append, List.take_append_drop, List.take_append_drop]
  rw [e, List.getElem?_append_right (by rw [hrVals_length, List.length_take]; omega), hrVals_length, List.length_take, Nat.min_eq_left (by omega),
    List.getElem?_append_left (by rw [hrVals_length, List.length_take, List.length_drop]; omega)]
  congr 1
  omega

theorem add_plain (g o j : Nat) : (⟨g, o, none⟩ : Addr).add j = ⟨g, o + j, none⟩ := by unfold Addr.add; split <;> simp_all
theorem HRow.newsTake {w : World} {base : Nat} {g c : Nat} {hs : List (Int × Nat)} (h : HRow w base (.slice (some ⟨g, 0, none⟩) hs.length c) hs) (m : Nat) (hm : m ≤ hs.length) :
    ∀ j u, (hrVals (hs.take m))[j]? = some u → w.cell? ((⟨g, 0, none⟩ : Addr).add j) = some u := by
  intro j u hu
  rw [add_plain, show 0 + j = 0 * 2 + j by omega]
  exact h.cells 0 m (by omega) j u (by rw [List.drop_zero]; exact hu)
theorem HRow.newsDrop {w W : World} {base : Nat} {g c : Nat} {hs : List (Int × Nat)} (h : HRow w base (.slice (some ⟨g, 0, none⟩) hs.length c) hs) (o : Nat) (ho : o ≤ hs.length) (hk : Keeps (fun _ => False) w W) :
    ∀ j u, (hrVals (hs.drop o))[j]? = some u → W.cell? ((⟨g, o * 2, none⟩ : Addr).add j) = some u := by
  intro j u hu
  rw [add_plain]
  exact hk.cellF (h.cells o (hs.length - o) (by omega) j u (by rw [List.take_of_length_le (by rw [List.length_drop]; exact Nat.le_refl _)]; exact hu))
theorem hrTake_length (hs : List (Int × Nat)) (m : Nat) (h : m ≤ hs.length) : (hrVals (hs.take m)).length = m * 2 := by rw [hrVals_length, List.length_take, Nat.min_eq_left h]
theorem hrDrop_length (hs : List (Int × Nat)) (o : Nat) : (hrVals (hs.drop o)).length = (hs.length - o) * 2 := by rw [hrVals_length, List.length_drop]

/-- An append at a step of a region that draws its order. -/
theorem step_app {P : Program} {ops : Array Oper} {o : Oper} {a : Act} {K : Act → World → Prop} {Q : Exit → Act → World → Prop} {E : Prop} {w : World} (hgd : o.guard = none) (s x : Operand) (t : TypeId)
    (ho : o.op = .call { callee := .builtin .append, args := #[s, x], argTypes := #[t, t] })
    (base : Nat) (e : TypeId) (i : TypeInfo) (z : Value) (size bytes : Nat) (ht : P.underlying t = some (.slice e)) (hi : P.info? e = some i) (hz : i.zero = some z)
    (hsize : i.size = size) (hby : i.bytes = bytes) (hzs : z.cells.size = size) (hsz : 0 < size)
    (v : Value) (n : Nat) (xs : List Value) (hs : a.eval s = v) (hown : w.ownsRow base e size v n xs)
    (ad : Addr) (m c : Nat) (news : List Value) (hx : a.eval x = .slice (some ad) m c) (hl : news.length = m * size) (hnews : ∀ j u, news[j]? = some u → w.cell? (ad.add j) = some u) (h1 : ∀ u ∈ news, u.oneCell' = true)
    (h63 : n + m ≤ maxLen) (hbytes : (n + m) * bytes ≤ 140737488355328) (hbase : base ≤ w.heap.size)
    (h : ∀ v' w', w'.ownsRow base e size v' (n + m) (xs ++ news) → Keeps (fun k => v.ownBlock = some k) w w' → (∀ k, v'.ownBlock = some k → v.ownBlock = some k ∨ k = w.heap.size) → K (a.put o.dst v') w') :
    if Region.wanted o (yielded ops a.tmps) = true then Oper.wp P o a w K Q else E := by
  obtain ⟨v', w', hr, h2, h3, h4, h5⟩ := run_app (P := P) w base t o.type e i z size bytes ht hi hz hsize hby hzs hsz v n xs hown ad m c news hl hnews h1 h63 hbytes hbase
  have hw : Region.wanted o (yielded ops a.tmps) = true := by simp [Region.wanted, hgd]
  rw [if_pos hw]
  unfold Oper.wp execOp
  simp only [ho, resolve, invoke, builtin, Sem.run_bind, Sem.run_pure, Result.andThen_ok, List.map_toArray, List.map_cons, List.map_nil, hs, hx, hr]
  exact h _ _ h2 h3 h4

/-- An arena, and two lists of handles, apart. -/
structure OMem (w : World) (p n : Nat) (L : List (Int × Int)) (own : Nat → Prop) (vl : Value) (hs : List (Int × Nat)) (vd : Value) (ds : List (Int × Nat)) (wr : World) : Prop where
  a : ALoop w p n L own wr
  l : HRow wr w.heap.size vl hs
  d : HRow wr w.heap.size vd ds
  al : ∀ g, vl.ownBlock = some g → ¬ own g
  ad : ∀ g, vd.ownBlock = some g → ¬ own g
  ld : ∀ g, vl.ownBlock = some g → vd.ownBlock ≠ some g
section
variable {w wr w2 : World} {p n : Nat} {L M : List (Int × Int)} {own own' : Nat → Prop} {vl vd v' : Value} {hs ds hs' ds' : List (Int × Nat)}
theorem OMem.quiet (h : OMem w p n L own vl hs vd ds wr) (hk : Keeps (fun _ => False) wr w2) : OMem w p n L own vl hs vd ds w2 :=
  ⟨h.a.quiet hk, ownsRow_kept h.l hk fun _ _ => id, ownsRow_kept h.d hk fun _ _ => id, h.al, h.ad, h.ld⟩
theorem OMem.arena (h : OMem w p n L own vl hs vd ds wr) (ha : ALoop w p n M own' w2) (hst : Step wr own w2 own') : OMem w p n M own' vl hs vd ds w2 :=
  ⟨ha, ownsRow_kept h.l hst.1 h.al, ownsRow_kept h.d hst.1 h.ad, fun g e e2 => by
    rcases hst.2 g e2 with e3 | e3
    · exact h.al g e e3
    · have := (h.l.lt g e).2; omega, fun g e e2 => by
    rcases hst.2 g e2 with e3 | e3
    · exact h.ad g e e3
    · have := (h.d.lt g e).2; omega, h.ld⟩
theorem OMem.live (h : OMem w p n L own vl hs vd ds wr) (hr : HRow w2 w.heap.size v' hs') (hk : Keeps (fun k => vl.ownBlock = some k) wr w2) (hb : ∀ g, v'.ownBlock = some g → vl.ownBlock = some g ∨ wr.heap.size ≤ g) :
    OMem w p n L own v' hs' vd ds w2 :=
  ⟨⟨h.a.ar.kept hk fun k e e2 => h.al k e2 e, h.a.new, h.a.keep.thin hk fun k e => (h.l.lt k e).1⟩, hr, ownsRow_kept h.d hk fun g e e2 => h.ld g e2 e, fun g e e2 => by
    rcases hb g e with e3 | e3
    · exact h.al g e3 e2
    · have := h.a.ar.lt g e2; omega, h.ad, fun g e e2 => by
    rcases hb g e with e3 | e3
    · exact h.ld g e3 e2
    · have := (h.d.lt g e2).2; omega⟩
theorem OMem.dead (h : OMem w p n L own vl hs vd ds wr) (hr : HRow w2 w.heap.size v' ds') (hk : Keeps (fun k => vd.ownBlock = some k) wr w2) (hb : ∀ g, v'.ownBlock = some g → vd.ownBlock = some g ∨ wr.heap.size ≤ g) :
    OMem w p n L own vl hs v' ds' w2 :=
  ⟨⟨h.a.ar.kept hk fun k e e2 => h.ad k e2 e, h.a.new, h.a.keep.thin hk fun k e => (h.d.lt k e).1⟩, ownsRow_kept h.l hk fun g e e2 => h.ld g e e2, hr, h.al, fun g e e2 => by
    rcases hb g e with e3 | e3
    · exact h.ad g e3 e2
    · have := h.a.ar.lt g e2; omega, fun g e e2 => by
    rcases hb g e2 with e3 | e3
    · exact h.ld g e e3
    · have := (h.l.lt g e).2; omega⟩
theorem OMem.rest (h : OMem w p n L own vl hs vd ds wr) {m : Nat} {xs : List Value} (ho : w2.ownsRow wr.heap.size 46 2 v' m xs) (hm : m = hs'.length) (hx : xs = hrVals hs') (hk : Keeps (fun _ => False) wr w2) :
    OMem w p n L own v' hs' vd ds w2 := by
  subst hm hx
  exact h.live (ownsRow_base ho h.a.keep.size) (hk.mono fun _ _ => False.elim) fun g e => .inr (ho.lt g e).1
end
end Go.Proofs.YtiphdlhnoceeiaaDoor
