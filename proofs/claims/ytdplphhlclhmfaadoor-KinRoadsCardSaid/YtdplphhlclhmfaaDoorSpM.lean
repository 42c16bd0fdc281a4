/- sphere: counts in a map; add. -/
import Derived.Test.YtdplphhlclhmfaaDoorSpA
import Derived.Test.YtdplphhlclhmfaaDoorSpQ
import Derived.Maps.Views
import Derived.Maps.OwnSet
import Derived.Maps.RangeWalk
namespace Go.Proofs.YtdplphhlclhmfaaDoor
open Go Go.RowKit Go.Maps
set_option linter.unusedVariables false
set_option linter.unusedSimpArgs false
set_option maxRecDepth 100000

/-- Counts as a value; as they are read. -/
def cagg (x : Cnt3) (c : Int) : Value := .agg #[.int .i64 x.1, .int .i64 x.2.1, .int .i64 x.2.2, .int .i64 c]
def cdat (x : Cnt3) : DataW Unit := .agg [.lit (.int .i64 x.1), .lit (.int .i64 x.2.1), .lit (.int .i64 x.2.2)]
def cntElem (v : Value) : Option (DataW Unit × List MemPlace) :=
  match v with
  | .agg cs => match cs.toList with
    | [.int .i64 a, .int .i64 b, .int .i64 c, .int .i64 0] => some (cdat (a, b, c), [])
    | _ => none
  | _ => none
theorem cntElem_mk (x : Cnt3) : cntElem (cagg x 0) = some (cdat x, []) := rfl
theorem cdat_inj {x y : Cnt3} (h : cdat x = cdat y) : x = y := by
  obtain ⟨a, b, c⟩ := x
  obtain ⟨d, e, f⟩ := y
  unfold cdat at h
  simp only [DataW.agg.injEq, List.cons.injEq, DataW.lit.injEq, Lit.int.injEq, true_and, and_true] at h
  obtain ⟨rfl, rfl, rfl⟩ := h
  rfl
theorem cntElem_inv {v : Value} {z : DataW Unit × List MemPlace} (h : cntElem v = some z) : ∃ x, v = cagg x 0 ∧ z = (cdat x, []) := by
  unfold cntElem at h
  split at h
  · rename_i cs
    split at h
    · rename_i a b c e
      cases h
      refine ⟨(a, b, c), ?_, rfl⟩
      unfold cagg
      rw [← Array.toArray_toList (xs := cs), e]
    · cases h
  · cases h
theorem mapKeys : Keyed Tryd.prog 3 := int_keyed Tryd.underlying3
theorem i64wf {k : Nat} (hk : k < 9223372036854775808) : (Lit.int .i64 (k : Int)).wf = true := WalkArith.wf_i64 (by omega)
theorem keyN {k : Nat} (hk : k < 9223372036854775808) : keyOf Tryd.prog 3 (.int .i64 (k : Int)) = some (.int .i64 (k : Int)) := keyOf_int_mk Tryd.underlying3 (i64wf hk)
theorem keyLit {k : Nat} (hk : k < 9223372036854775808) : WideAt.IsKeyLit (.int .i64 (k : Int)) := trivial
theorem zeroC (w : World) : (zeroValue 32).run Tryd.prog w = .ok (cagg (0, 0, 0) 0) w := by kernel_rfl
/-- What a map tells of a key. -/
def tells (D : DataW Unit) (l : Lit) : Option Cnt3 → Prop
  | none => has D l = false
  | some x => has D l = true ∧ ∀ z, D.atKey l z = cdat x
/-- A map that tells counts. -/
def MapAt (w : World) (b n N : Nat) (M : Nat → Option Cnt3) : Prop := ∃ D, w.ownsMap Tryd.prog 3 cntElem b n D ∧ (∀ k : Nat, k < N → tells D (.int .i64 (k : Int)) (M k)) ∧ (∀ l, has D l = true → ∃ k : Nat, k < N ∧ l = .int .i64 (k : Int)) ∧ N ≤ 1048576
section
variable {w w' : World} {b n N : Nat} {M : Nat → Option Cnt3}
theorem MapAt.lt (h : MapAt w b n N M) : b < w.heap.size := by obtain ⟨D, h1, _⟩ := h; exact h1.lt
theorem MapAt.mono (h : MapAt w b n N M) {n' : Nat} (hn : n ≤ n') : MapAt w b n' N M := by obtain ⟨D, h1, h2⟩ := h; exact ⟨D, h1.mono hn, h2⟩
theorem MapAt.made (w : World) (hN : N ≤ 1048576) : MapAt (w.alloc (.map #[] 0)) w.heap.size 0 N fun _ => none :=
  ⟨.map [], World.ownsMap_made _ _ _ _, fun k _ => rfl, fun l h => by simp [has] at h, hN⟩
theorem ownsMap_keep {fp : Nat → Prop} {P : Program} {k : TypeId} {R : Value → Option (DataW Unit × List MemPlace)} {D : DataW Unit} (h : w.ownsMap P k R b n D) (hk : Keeps fp w w') (hb : ¬ fp b) : w'.ownsMap P k R b n D := by
  have hl := h.lt
  obtain ⟨es, clock, h1, h2⟩ := h
  exact ⟨es, clock, by rw [hk.block b hl hb]; exact h1, h2⟩
theorem MapAt.kept {fp : Nat → Prop} (h : MapAt w b n N M) (hk : Keeps fp w w') (hb : ¬ fp b) : MapAt w' b n N M := by
  obtain ⟨D, h1, h2⟩ := h
  exact ⟨D, ownsMap_keep h1 hk hb, h2⟩
theorem MapAt.keep (h : MapAt w b n N M) (hk : Keeps (fun _ => False) w w') : MapAt w' b n N M := h.kept hk id
theorem MapAt.look (h : MapAt w b n N M) {k : Nat} (hk : k < N) : (Instr.lookup 84 (.map (some b)) (.int .i64 (k : Int)) false).run Tryd.prog w = .ok (cagg ((M k).getD (0, 0, 0)) 0) w := by
  obtain ⟨D, h1, h2, _, hN⟩ := h
  obtain ⟨v, ps, hr, hv⟩ := h1.lookup mapKeys Tryd.underlying84 (zeroC w) (cntElem_mk (0, 0, 0)) (keyN (k := k) (by omega))
  obtain ⟨x, rfl, e⟩ := cntElem_inv hv
  have := h2 k hk
  have e2 : D.atKey (.int .i64 (k : Int)) (cdat (0, 0, 0)) = cdat x := (Prod.mk.inj e).1
  cases hm : M k with
  | none =>
    rw [hm] at this
    rw [atKey_of_not_has this] at e2
    rw [hr, cdat_inj e2]; rfl
  | some y =>
    rw [hm] at this
    rw [this.2] at e2
    rw [hr, cdat_inj e2]; rfl
theorem keeps_grown {row : Option Nat} (hg : w.grownBy w' row) : Keeps (fun q => row = some q) w w' := keeps_of_grown hg
theorem MapAt.store (h : MapAt w b n N M) {k : Nat} (hk : k < N) (hn : n < 8000000) (x : Cnt3) : ∃ w', (Instr.mapUpdate 84 (.map (some b)) (.int .i64 (k : Int)) (cagg x 0)).run Tryd.prog w = .ok () w' ∧ MapAt w' b (n + 1) N (fun z => if z = k then some x else M z) ∧ Keeps (fun q => q = b) w w' := by
  obtain ⟨D, h1, h2, h3, hN⟩ := h
  obtain ⟨w', hr, ho, hg⟩ := h1.update mapKeys Tryd.underlying84 (by unfold maxLen; omega) (keyN (k := k) (by omega)) (cntElem_mk x)
  refine ⟨w', hr, ⟨_, ho, fun z hz => ?_, fun l hl => ?_, hN⟩, (keeps_grown hg).mono fun i _ e => (Option.some.inj e).symm⟩
  · by_cases e : z = k
    · subst e
      simp only [if_true]
      exact ⟨has_put_same h1.isMap (keyLit (by omega)) _, fun z => atKey_put_same h1.isMap (keyLit (by omega)) _ _⟩
    · simp only [if_neg e]
      have hne : (Lit.int .i64 (z : Int)) ≠ .int .i64 (k : Int) := fun q => e (by injection q with _ q2; omega)
      have := h2 z hz
      cases hm : M z with
      | none => rw [hm] at this; show has _ _ = false; rw [has_put_other hne]; exact this
      | some y => rw [hm] at this; exact ⟨by rw [has_put_other hne]; exact this.1, fun q => by rw [atKey_put_other hne]; exact this.2 q⟩
  · by_cases e : l = .int .i64 (k : Int)
    · exact ⟨k, hk, e⟩
    · rw [has_put_other e] at hl
      exact h3 l hl
theorem Blk.cells4 {w : World} {b : Nat} {x y z u : Value} {t : TypeId} (h : Blk w b #[x, y, z, u] t) : w.cell? ⟨b, 0, none⟩ = some x ∧ w.cell? ⟨b, 1, none⟩ = some y ∧ w.cell? ⟨b, 2, none⟩ = some z ∧ w.cell? ⟨b, 3, none⟩ = some u := by
  have h0 := h.cell (i := 0)
  have h1 := h.cell (i := 1)
  have h2 := h.cell (i := 2)
  have h3 := h.cell (i := 3)
  simp only [List.getElem?_toArray, List.getElem?_cons_zero, List.getElem?_cons_succ] at h0 h1 h2 h3
  exact ⟨h0, h1, h2, h3⟩
/-- Added. -/
def AddPost (b n N : Nat) (M : Nat → Option Cnt3) (w : World) (e : Ending) (w' : World) : Prop := e = .returned .nilIface ∧ MapAt w' b n N M ∧ Keeps (fun q => q = b) w w'
/-- Counts within bounds. -/
def CntOk (x : Cnt3) : Prop := 0 ≤ x.1 ∧ x.1 ≤ 4398046511104 ∧ 0 ≤ x.2.1 ∧ x.2.1 ≤ 4398046511104 ∧ 0 ≤ x.2.2 ∧ x.2.2 ≤ 4398046511104
set_option maxHeartbeats 1000000 in
theorem sadd {ow : Nat → Prop} {pp k v : Nat} {g : List Nat} (hm : MapAt w b n N M) (hu : Uf w ow pp N k g) (hv : v < N) (hgv : g.getD v 0 < N) (hn : n < 8000000) (hM : CntOk ((M (g.getD v 0)).getD (0, 0, 0))) (c : Cnt3) (hc : CntOk c) :
    Calls Tryd.prog 73 #[.map (some b), tptr pp, .int .i64 (v : Int), cagg c 0] w (AddPost b (n + 1) N (addM M (g.getD v 0) c) w) := by
  have HB := hm.lt
  have HL := Lib.hid fun W (hk : Keeps (fun _ => False) w W) => uleast (hu.keep hk) hv
  obtain ⟨c1, c2, c3⟩ := c
  obtain ⟨x1, x2, x3, x4, x5, x6⟩ := hc
  unfold addM
  generalize g.getD v 0 = at_ at *
  generalize hx : (M at_).getD (0, 0, 0) = x at *
  obtain ⟨d1, d2, d3⟩ := x
  obtain ⟨y1, y2, y3, y4, y5, y6⟩ := hM
  have HM := Lib.hid hm
  clear hm hu
  unfold RetPost tptr cagg at *
  simp only at x1 x2 x3 x4 x5 x6 y1 y2 y3 y4 y5 y6
  go_enter Tryd.func73, Tryd.ntmps73
  go_upto_region 1 with fail
  have HA : Hid (Blk (w.alloc (.cells #[.int .i64 c1, .int .i64 c2, .int .i64 c3, .int .i64 0] 32)) w.heap.size #[.int .i64 c1, .int .i64 c2, .int .i64 c3, .int .i64 0] 32) := Lib.hid (Blk.new _ _ _)
  have HK := Lib.hid ((Keeps.refl (fun _ => False) w).alloc (.cells #[.int .i64 c1, .int .i64 c2, .int .i64 c3, .int .i64 0] 32))
  have HS : Hid (w.heap.size < (w.alloc (.cells #[.int .i64 c1, .int .i64 c2, .int .i64 c3, .int .i64 0] 32)).heap.size) := Lib.hid (by simp)
  generalize World.alloc w _ = wa at *
  go_wp2_with fail
  with_reducible refine (HL.out _ HK.out).mono ?_
  rintro e w1 ⟨rfl, hk⟩
  have HK1 := Lib.hid (HK.out.trans' hk)
  have HA1 := Lib.hid (HA.out.kept hk id)
  have HS1 := Lib.hid (Nat.lt_of_lt_of_le HS.out hk.size)
  clear hk HL HK HA HS
  have hl := (HM.out.keep HK1.out).look hgv
  rw [hx] at hl
  unfold cagg at hl
  go_upto_region 5 with fail
  have HB5 := Blk.new w1 #[.int .i64 d1, .int .i64 d2, .int .i64 d3, .int .i64 0] 32
  have HA5 := HA1.out.alloc (.cells #[.int .i64 d1, .int .i64 d2, .int .i64 d3, .int .i64 0] 32)
  have HK5 := Lib.hid (HK1.out.alloc (.cells #[.int .i64 d1, .int .i64 d2, .int .i64 d3, .int .i64 0] 32))
  generalize World.alloc w1 _ = w5 at *
  obtain ⟨w6, hup, hm6, hk6⟩ := (HM.out.keep HK5.out).store hgv hn (d1 + c1, d2 + c2, d3 + c3)
  have HM6 := Lib.hid hm6
  have HK6 := Lib.hid hk6
  unfold cagg at hup
  obtain ⟨p0, p1, p2, _⟩ := HA5.cells4
  obtain ⟨q0, q1, q2, _⟩ := HB5.cells4
  clear hl hm6 hk6 HA1 HS1 HA5 HB5
  go_wp2_with fail
  go_ret
  exact ⟨rfl, HM6.out, (HK5.out.mono fun _ _ e => e.elim).trans' HK6.out⟩
end
end Go.Proofs.YtdplphhlclhmfaaDoor
