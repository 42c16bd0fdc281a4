/- kin: the walk's road in memory; its measure. -/
import Derived.Test.YtdplphhlclhmfaaDoorKiE
import Derived.WalkSmall
import Derived.Laws.OwnMore
namespace Go.Proofs.YtdplphhlclhmfaaDoor
open Go Go.RowKit
set_option linter.unusedVariables false
set_option linter.unusedSimpArgs false
set_option maxRecDepth 100000

/-- What is not met yet, weighed. -/
def unm (f : Nat → Nat) (num : List Nat) (n : Nat) : Nat := ((List.range n).map fun v => if num.getD v 0 = 0 then f v else 0).sum
theorem unm_succ (f : Nat → Nat) (num : List Nat) (n : Nat) : unm f num (n + 1) = unm f num n + (if num.getD n 0 = 0 then f n else 0) := by
  unfold unm
  rw [List.range_succ, List.map_append, List.sum_append]
  simp
theorem getD_setL (l : List Nat) (y m x : Nat) (hy : y < l.length) : (l.set y m).getD x 0 = if x = y then m else l.getD x 0 := by
  simp only [List.getD_eq_getElem?_getD]
  by_cases h : x = y
  · rw [if_pos h, h, List.getElem?_set_self hy]; rfl
  · rw [if_neg h, List.getElem?_set_ne (Ne.symm h)]
theorem set_upd (l : List Nat) (y m : Nat) (hy : y < l.length) : (fun x => (l.set y m).getD x 0) = upd (fun x => l.getD x 0) y m := by
  funext x
  rw [getD_setL l y m x hy]
  rfl
theorem unm_meet (f : Nat → Nat) {num : List Nat} {y m : Nat} (hy : y < num.length) (h0 : num.getD y 0 = 0) (hm : m ≠ 0) : ∀ {n : Nat}, n ≤ num.length → unm f (num.set y m) n + (if y < n then f y else 0) = unm f num n
  | 0, _ => rfl
  | n + 1, hn => by
    have ih := unm_meet f hy h0 hm (n := n) (by omega)
    rw [unm_succ, unm_succ, getD_setL num y m n hy]
    by_cases e : n = y
    · subst e
      rw [if_pos rfl, if_neg hm, if_pos h0, if_pos (show n < n + 1 by omega)]
      rw [if_neg (Nat.lt_irrefl n)] at ih
      omega
    · rw [if_neg e]
      by_cases q : y < n
      · rw [if_pos (show y < n + 1 by omega)]; rw [if_pos q] at ih; omega
      · rw [if_neg (show ¬ y < n + 1 by omega)]; rw [if_neg q] at ih; omega
/-- Few bridges. -/
theorem nodup_few {l : List Nat} (h : l.Nodup) {n : Nat} (hb : ∀ x ∈ l, x < n) : l.length ≤ n := by
  have := List.Nodup.length_le_of_subset h (l₂ := List.range n) fun x hx => List.mem_range.2 (hb x hx)
  simpa using this
theorem DInv.few {L : List (List Nat)} {num low : Nat → Nat} {met rt E : Nat} {br : List Nat} {road : List Pl} {par : Nat → Int} {tr : Nat → Nat} (h : DInv L num low met br road par tr rt) (hw : WF E L) : br.length ≤ E :=
  nodup_few h.Bn fun f hf => by
    obtain ⟨x, hx, _, e, he, rfl⟩ := h.Bs f hf
    rcases h.parD x hx with q | ⟨d, q, hs, _⟩
    · omega
    · have := hw.bdS hs
      omega
/-- The road's cells, the top first. -/
def rcells : List (Pl × Value) → List Value
  | [] => []
  | (q, s) :: r => rcells r ++ [.int .i64 (q.v : Int), .int .i64 q.bd, s]
theorem rcells_len : ∀ z : List (Pl × Value), (rcells z).length = z.length * 3
  | [] => rfl
  | (q, s) :: r => by rw [rcells, List.length_append, rcells_len r, List.length_cons]; simp; omega
structure RoadAt (B : Nat) (bv : Value) (w : World) (rv : Value) (z : List (Pl × Value)) : Prop where
  own : w.ownsRow B 150 3 rv z.length (rcells z)
  sl : ∀ q ∈ z, ∃ a c, q.2 = .slice a q.1.left.length c ∧ Rd w a (nats q.1.left) ∧ q.1.left.length ≤ c ∧ (q.1.left ≠ [] → ∀ b off, a = some ⟨b, off, none⟩ → B ≤ b ∧ b < w.heap.size ∧ rv.ownBlock ≠ some b ∧ bv.ownBlock ≠ some b)
  ne : ∀ k, rv.ownBlock = some k → bv.ownBlock ≠ some k
section
variable {B : Nat} {bv bv' rv : Value} {w w1 : World} {z : List (Pl × Value)}
theorem rd_kept {l : List Nat} {a : Option Addr} {fp : Nat → Prop} (h : Rd w a (nats l)) (hk : Keeps fp w w1) (hn : l ≠ [] → ∀ b off, a = some ⟨b, off, none⟩ → ¬ fp b) : Rd w1 a (nats l) := by
  by_cases e : l = []
  · subst e; exact .inl rfl
  · exact h.kept hk (hn e)
theorem RoadAt.kept {fp : Nat → Prop} (h : RoadAt B bv w rv z) (hk : Keeps fp w w1) (h1 : ∀ k, fp k → k < B ∨ bv.ownBlock = some k) (h2 : ∀ k, bv'.ownBlock = some k → bv.ownBlock = some k ∨ w.heap.size ≤ k) : RoadAt B bv' w1 rv z := by
  refine ⟨ownsRow_kept h.own hk fun k q e => ?_, fun q hq => ?_, fun k hk' e => ?_⟩
  · have := h.own.lt k q
    rcases h1 k e with g | g
    · omega
    · exact h.ne k q g
  · obtain ⟨a, c, e, hr, hlc, hb⟩ := h.sl q hq
    refine ⟨a, c, e, rd_kept hr hk fun hl b off ea k => ?_, hlc, fun hl b off ea => ?_⟩
    · have := hb hl b off ea
      rcases h1 b k with g | g
      · omega
      · exact this.2.2.2 g
    · have := hb hl b off ea
      have hs := hk.size
      refine ⟨this.1, by omega, this.2.2.1, fun g => ?_⟩
      rcases h2 b g with k | k
      · exact this.2.2.2 k
      · omega
  · rcases h2 k e with g | g
    · exact h.ne k hk' g
    · have := (h.own.lt k hk').2
      omega
theorem RoadAt.top {q : Pl} {s : Value} {r : List (Pl × Value)} (h : RoadAt B bv w rv ((q, s) :: r)) : ∃ g c, rv = .slice (some ⟨g, 0, none⟩) (r.length + 1) c ∧ r.length + 1 ≤ c ∧ B ≤ g ∧ g < w.heap.size ∧
    w.cell? ⟨g, r.length * 3, none⟩ = some (.int .i64 (q.v : Int)) ∧ w.cell? ⟨g, r.length * 3 + 1, none⟩ = some (.int .i64 q.bd) ∧ w.cell? ⟨g, r.length * 3 + 2, none⟩ = some s ∧ ∀ j, w.frozen? ⟨g, j, none⟩ = false := by
  obtain ⟨g, c, rfl, hb, hl⟩ := h.own.form (by simp)
  have hcap : r.length + 1 ≤ c := by
    rcases h.own.2 with ⟨e, _⟩ | ⟨g', c', cur, e, _, _, hcc, _⟩
    · cases e
    · cases e; exact hcc
  have hL : (((q, s) :: r).length) * 3 = r.length * 3 + 3 := by simp; omega
  have hc := fun j hj => h.own.cellAt j (by rw [hL]; exact hj)
  have hn := rcells_len r
  refine ⟨g, c, rfl, hcap, hb, hl, ?_, ?_, ?_, fun j => h.own.frozenAt j⟩
  · rw [hc _ (by omega), rcells, List.getElem?_append_right (by omega), hn, Nat.sub_self]; rfl
  · rw [hc _ (by omega), rcells, List.getElem?_append_right (by omega), hn, Nat.add_sub_cancel_left]; rfl
  · rw [hc _ (by omega), rcells, List.getElem?_append_right (by omega), hn, Nat.add_sub_cancel_left]; rfl
theorem RoadAt.pop {q : Pl} {s : Value} {r : List (Pl × Value)} {g c : Nat} (h : RoadAt B bv w (.slice (some ⟨g, 0, none⟩) (r.length + 1) c) ((q, s) :: r)) : RoadAt B bv w (.slice (some ⟨g, 0, none⟩) r.length c) r :=
  ⟨ownsRow_pop (rcells_len r) h.own, fun x hx => h.sl x (List.mem_cons_of_mem _ hx), h.ne⟩
/-- The top's next dart is taken. -/
theorem RoadAt.next {v d : Nat} {bd : Int} {l : List Nat} {s : Value} {r : List (Pl × Value)} {g c : Nat} (h : RoadAt B bv w (.slice (some ⟨g, 0, none⟩) (r.length + 1) c) ((⟨v, bd, d :: l⟩, s) :: r)) :
    ∃ b off c', s = .slice (some ⟨b, off, none⟩) (l.length + 1) c' ∧ l.length + 1 ≤ c' ∧ w.cell? ⟨b, off, none⟩ = some (.int .i64 (d : Int)) ∧ ∀ a2 c2, (l = [] ∨ a2 = some ⟨b, off + 1, none⟩) → l.length ≤ c2 → RoadAt B bv (w.setCell ⟨g, r.length * 3 + 2, none⟩ (.slice a2 l.length c2)) (.slice (some ⟨g, 0, none⟩) (r.length + 1) c) ((⟨v, bd, l⟩, .slice a2 l.length c2) :: r) := by
  obtain ⟨a, c', e, hr, hlc, hb⟩ := h.sl _ (List.mem_cons_self ..)
  simp only at e hr hlc hb
  have hr' := hr
  rcases hr with e0 | ⟨b, off, rfl, hc⟩
  · simp [nats] at e0
  · have hbb := hb (by simp) b off rfl
    refine ⟨b, off, c', by rw [e]; rfl, hlc, ?_, fun a2 c2 ha2 hc2 => ?_⟩
    · have := hc 0 (by simp [nats])
      simpa [nats] using this
    · have hst := h.own.stored (r.length * 3 + 2) (.slice a2 l.length c2)
      have hk := keeps_of_grown hst.2
      refine ⟨?_, fun x hx => ?_, h.ne⟩
      · have h1 := hst.1
        rw [rcells, List.set_append_right _ _ (by rw [rcells_len]; omega), rcells_len, Nat.add_sub_cancel_left] at h1
        exact h1
      · have hsz := hk.size
        rcases List.mem_cons.1 hx with e1 | hx
        · rw [e1]
          refine ⟨_, _, rfl, ?_, hc2, fun hl b' off' e2 => ?_⟩
          · rcases ha2 with rfl | rfl
            · exact .inl rfl
            · refine .inr ⟨b, off + 1, rfl, fun i hi => ?_⟩
              have h2 := hc (i + 1) (by simp [nats] at hi ⊢; exact hi)
              rw [show off + 1 + i = off + (i + 1) by omega]
              rw [World.cell?_of_block (hk.block b hbb.2.1 fun q => hbb.2.2.1 q)]
              rw [h2]; rfl
          · rcases ha2 with rfl | rfl
            · exact absurd rfl hl
            · cases e2
              exact ⟨hbb.1, by omega, hbb.2.2.1, hbb.2.2.2⟩
        · obtain ⟨a2, c3, e2, hr2, hlc2, hb2⟩ := h.sl x (List.mem_cons_of_mem _ hx)
          exact ⟨a2, c3, e2, rd_kept hr2 hk fun hl b' off' e3 q => (hb2 hl b' off' e3).2.2.1 q, hlc2, fun hl b' off' e3 => by have := hb2 hl b' off' e3; exact ⟨this.1, by omega, this.2.2.1, this.2.2.2⟩⟩
/-- A place is laid upon the road. -/
theorem RoadAt.push {v : Nat} {bd : Int} {al : List Nat} {a : Option Addr} {c : Nat} {rv' : Value} (h : RoadAt B bv w rv z) (hr : Rd w a (nats al)) (hlc : al.length ≤ c) (hf : ∀ b off, a = some ⟨b, off, none⟩ → al ≠ [] → B ≤ b ∧ b < w.heap.size ∧ rv.ownBlock ≠ some b ∧ bv.ownBlock ≠ some b)
    (ho : w1.ownsRow B 150 3 rv' (z.length + 1) (rcells z ++ [.int .i64 (v : Int), .int .i64 bd, .slice a al.length c])) (hk : Keeps (fun k => rv.ownBlock = some k) w w1) (hn : ∀ k, rv'.ownBlock = some k → rv.ownBlock = some k ∨ w.heap.size ≤ k) (hb : ∀ k, bv.ownBlock = some k → k < w.heap.size) :
    RoadAt B bv w1 rv' ((⟨v, bd, al⟩, .slice a al.length c) :: z) := by
  have hs := hk.size
  have hne : ∀ b, b < w.heap.size → rv.ownBlock ≠ some b → rv'.ownBlock ≠ some b := fun b h1 h2 e => by
    rcases hn b e with q | q
    · exact h2 q
    · omega
  refine ⟨ho, fun x hx => ?_, fun k e q => ?_⟩
  · rcases List.mem_cons.1 hx with e1 | hx
    · rw [e1]
      exact ⟨a, c, rfl, rd_kept hr hk fun hl b off e => (hf b off e hl).2.2.1, hlc, fun hl b off e => by have := hf b off e hl; exact ⟨this.1, by omega, hne b this.2.1 this.2.2.1, this.2.2.2⟩⟩
    · obtain ⟨a2, c3, e2, hr2, hlc2, hb2⟩ := h.sl x hx
      exact ⟨a2, c3, e2, rd_kept hr2 hk fun hl b' off' e3 q => (hb2 hl b' off' e3).2.2.1 q, hlc2, fun hl b' off' e3 => by have := hb2 hl b' off' e3; exact ⟨this.1, by omega, hne b' this.2.1 this.2.2.1, this.2.2.2⟩⟩
  · rcases hn k e with g | g
    · exact h.ne k g q
    · have := hb k q
      omega
theorem RoadAt.nil (bv : Value) (w : World) : RoadAt B bv w (.slice none 0 0) [] := ⟨World.ownsRow_nil _ _ _ _, fun q hq => (by cases hq), fun k e => (by simp [Value.ownBlock] at e)⟩
end
end Go.Proofs.YtdplphhlclhmfaaDoor
