/- A Slots object in memory: what its blocks hold. -/
import Derived.Test.YtiphdlhnoceeiaaDoorBase
import Derived.Lib.TrailingZeros
namespace Go.Proofs.YtiphdlhnoceeiaaDoor
open Go Go.RowKit
set_option linter.unusedVariables false
set_option linter.unusedSimpArgs false

/-- Words as values. -/
def u64s (l : List Nat) : List Value := l.map fun (x : Nat) => Value.int .u64 (x : Int)

structure SO where
  base : Nat
  b : Nat
  lb : Nat
  cap : Nat
  cs : Array Value
  bk : Nat → Nat
  n : Nat
  tk : Nat
  L : List (List Nat)

def SO.lv (o : SO) (k : Nat) : List Nat := o.L.getD k []
def SO.own (o : SO) (k : Nat) : Prop := k = o.b ∨ k = o.lb ∨ ∃ i, i < o.L.length ∧ k = o.bk i

structure SO.At (o : SO) (w : World) : Prop where
  head : Blk w o.b #[.int .i64 o.n, .int .i64 o.tk, .slice (some ⟨o.lb, 0, none⟩) o.L.length o.cap] 100
  lvs : Blk w o.lb o.cs 103
  lcs : ∀ k, k < o.L.length → o.cs[k]? = some (.slice (some ⟨o.bk k, 0, none⟩) (o.lv k).length (o.lv k).length)
  row : ∀ k, k < o.L.length → Blk w (o.bk k) (u64s (o.lv k)).toArray 104
  d0 : ∀ k, o.own k → o.base ≤ k
  d1 : o.b ≠ o.lb
  d2 : ∀ k, k < o.L.length → o.b ≠ o.bk k ∧ o.lb ≠ o.bk k
  d3 : ∀ i j, i < o.L.length → j < o.L.length → i ≠ j → o.bk i ≠ o.bk j
  few : o.L.length ≤ 30
  small : ∀ k, k < o.L.length → (o.lv k).length ≤ 20000
  fit : o.n ≤ 1048576
  tkn : o.tk ≤ o.n
  word : ∀ k i, k < o.L.length → i < (o.lv k).length → (o.lv k).getD i 0 < 18446744073709551616
  reach : ∀ x k, x < o.n → k < o.L.length → x / 64 ^ (k + 1) < (o.lv k).length
  some_ : 0 < o.L.length

theorem SO.At.kept {o : SO} {w w' : World} {fp : Nat → Prop} (h : o.At w) (hk : Keeps fp w w') (hd : ∀ k, o.own k → ¬ fp k) : o.At w' :=
  ⟨h.head.kept hk (hd _ (.inl rfl)), h.lvs.kept hk (hd _ (.inr (.inl rfl))), h.lcs, fun k hkl => (h.row k hkl).kept hk (hd _ (.inr (.inr ⟨k, hkl, rfl⟩))),
    h.d0, h.d1, h.d2, h.d3, h.few, h.small, h.fit, h.tkn, h.word, h.reach, h.some_⟩
theorem SO.At.lt {o : SO} {w : World} (h : o.At w) (k : Nat) (hk : o.own k) : k < w.heap.size := by
  rcases hk with rfl | rfl | ⟨i, hi, rfl⟩
  · exact h.head.lt
  · exact h.lvs.lt
  · exact (h.row i hi).lt
theorem SO.At.below {o : SO} {w w' : World} (h : o.At w) (hk : Keeps o.own w w') (hb : o.base ≤ w.heap.size) : Below o.base w w' :=
  hk.below fun k hkb => ⟨by omega, fun e => by have := h.d0 k e; omega⟩
theorem SO.At.alloc {o : SO} {w : World} (h : o.At w) (x : Obj) : o.At (w.alloc x) := h.kept (fp := fun _ => False) ((Keeps.refl _ _).alloc x) (fun _ _ => id)
theorem SO.At.drew {o : SO} {w : World} (h : o.At w) : o.At w.drew := h.kept (fp := fun _ => False) ((Keeps.refl _ _).drew) (fun _ _ => id)
theorem SO.At.drewN {o : SO} {w : World} (h : o.At w) (n : Nat) : o.At (w.drewN n) := h.kept (fp := fun _ => False) ((Keeps.refl _ _).drewN n) (fun _ _ => id)
theorem SO.At.setCell {o : SO} {w : World} (h : o.At w) (p : Addr) (u : Value) (hp : ¬ o.own p.block) : o.At (w.setCell p u) :=
  h.kept (fp := fun k => k = p.block) ((Keeps.refl _ _).setCell p u fun _ => rfl) (fun k hk e => hp (e ▸ hk))

theorem SO.At.c0 {o : SO} {w : World} (h : o.At w) : w.cell? ⟨o.b, 0, none⟩ = some (.int .i64 o.n) := by rw [h.head.cell]; rfl
theorem SO.At.c1 {o : SO} {w : World} (h : o.At w) : w.cell? ⟨o.b, 1, none⟩ = some (.int .i64 o.tk) := by rw [h.head.cell]; rfl
theorem SO.At.c2 {o : SO} {w : World} (h : o.At w) : w.cell? ⟨o.b, 2, none⟩ = some (.slice (some ⟨o.lb, 0, none⟩) o.L.length o.cap) := by rw [h.head.cell]; rfl
theorem SO.At.f1 {o : SO} {w : World} (h : o.At w) : w.frozen? ⟨o.b, 1, none⟩ = false := h.head.free 1
theorem SO.At.cl {o : SO} {w : World} (h : o.At w) (k : Nat) (hk : k < o.L.length) : w.cell? ⟨o.lb, k, none⟩ = some (.slice (some ⟨o.bk k, 0, none⟩) (o.lv k).length (o.lv k).length) := by
  rw [h.lvs.cell]; exact h.lcs k hk
theorem SO.At.cw {o : SO} {w : World} (h : o.At w) (k i : Nat) (hk : k < o.L.length) (hi : i < (o.lv k).length) : w.cell? ⟨o.bk k, i, none⟩ = some (.int .u64 ((o.lv k).getD i 0 : Nat)) := by
  rw [(h.row k hk).cell]
  simp [u64s, hi]
theorem SO.At.fw {o : SO} {w : World} (h : o.At w) (k i : Nat) (hk : k < o.L.length) : w.frozen? ⟨o.bk k, i, none⟩ = false := (h.row k hk).free i

def SO.put (o : SO) (k i v : Nat) : SO := { o with L := o.L.set k ((o.lv k).set i v) }
theorem SO.put_same (o : SO) (k i v : Nat) (hk : k < o.L.length) : (o.put k i v).lv k = (o.lv k).set i v := by simp [SO.put, SO.lv, hk]
theorem SO.put_other (o : SO) (k i v j : Nat) (hj : j ≠ k) : (o.put k i v).lv j = o.lv j := by simp [SO.put, SO.lv, List.getElem?_set, Ne.symm hj]
theorem SO.put_len (o : SO) (k i v : Nat) : (o.put k i v).L.length = o.L.length := by simp [SO.put]
theorem SO.put_lens (o : SO) (k i v j : Nat) (hk : k < o.L.length) : ((o.put k i v).lv j).length = (o.lv j).length := by
  by_cases e : j = k
  · subst e; rw [o.put_same _ _ _ hk]; simp
  · rw [o.put_other _ _ _ _ e]
theorem SO.put_own (o : SO) (k i v j : Nat) : (o.put k i v).own j ↔ o.own j := by simp [SO.own, SO.put]
/-- A word stored. -/
theorem SO.At.store {o : SO} {w : World} (h : o.At w) (k i v : Nat) (hk : k < o.L.length) (hv : v < 18446744073709551616) :
    (o.put k i v).At (w.setCell ⟨o.bk k, i, none⟩ (.int .u64 (v : Int))) := by
  have hb : (o.put k i v).bk = o.bk := rfl
  refine ⟨?_, h.lvs.set_other _ _ (h.d2 k hk).2, fun j hj => ?_, fun j hj => ?_, fun j hj => h.d0 j ((o.put_own k i v j).1 hj), h.d1, ?_, ?_, ?_, fun j hj => ?_, h.fit, h.tkn, fun j i' hj hi => ?_, fun x j hx hj => ?_, ?_⟩
  · rw [SO.put_len]; exact h.head.set_other _ _ (h.d2 k hk).1
  · rw [SO.put_len] at hj; rw [SO.put_lens _ _ _ _ _ hk]; exact h.lcs j hj
  · rw [SO.put_len] at hj
    by_cases e : j = k
    · subst e
      have := (h.row j hk).set i (.int .u64 (v : Int))
      rw [o.put_same _ _ _ hk]
      have e2 : (u64s (o.lv j)).toArray.setIfInBounds i (.int .u64 (v : Int)) = (u64s ((o.lv j).set i v)).toArray := by simp [u64s, List.map_set]
      rw [e2] at this
      exact this
    · rw [o.put_other _ _ _ _ e]; exact (h.row j hj).set_other _ _ (h.d3 j k hj hk e)
  · rw [SO.put_len]; exact h.d2
  · rw [SO.put_len]; exact h.d3
  · rw [SO.put_len]; exact h.few
  · rw [SO.put_len] at hj; rw [SO.put_lens _ _ _ _ _ hk]; exact h.small j hj
  · rw [SO.put_len] at hj; rw [SO.put_lens _ _ _ _ _ hk] at hi
    by_cases e : j = k
    · subst e
      rw [o.put_same _ _ _ hk]
      have hw := h.word j i' hj hi
      simp only [List.getD_eq_getElem?_getD, List.getElem?_set] at hw ⊢
      split
      · split
        · exact hv
        · exact (by decide)
      · exact hw
    · rw [o.put_other _ _ _ _ e]; exact h.word j i' hj hi
  · rw [SO.put_len] at hj; rw [SO.put_lens _ _ _ _ _ hk]; exact h.reach x j hx hj
  · rw [SO.put_len]; exact h.some_
/-- The count stored. -/
theorem SO.At.count {o : SO} {w : World} (h : o.At w) (t : Nat) (ht : t ≤ o.n) :
    ({ o with tk := t } : SO).At (w.setCell ⟨o.b, 1, none⟩ (.int .i64 (t : Int))) := by
  refine ⟨?_, h.lvs.set_other _ _ h.d1.symm, h.lcs, fun k hk => (h.row k hk).set_other _ _ (h.d2 k hk).1.symm, h.d0, h.d1, h.d2, h.d3, h.few, h.small, h.fit, ht, h.word, h.reach, h.some_⟩
  exact h.head.set 1 (.int .i64 (t : Int))

def SO.bit (o : SO) (y : Nat) : Bool := ((o.lv 0).getD (y / 64) 0).testBit (y % 64)
def SO.topN (o : SO) : Nat → Nat → Nat
  | 0, _ => 0
  | f + 1, j => o.topN f (j + 1) * 64 + Lib.ctz 64 (18446744073709551615 - (o.lv j).getD (o.topN f (j + 1)) 0)
/-- Where the way from the top stands behind level j. -/
def SO.top (o : SO) (j : Nat) : Nat := o.topN (o.L.length - j) j
theorem SO.top_end (o : SO) (j : Nat) (h : o.L.length ≤ j) : o.top j = 0 := by simp [SO.top, show o.L.length - j = 0 from by omega, SO.topN]
theorem SO.top_step (o : SO) (j : Nat) (h : j < o.L.length) : o.top j = o.top (j + 1) * 64 + Lib.ctz 64 (18446744073709551615 - (o.lv j).getD (o.top (j + 1)) 0) := by
  simp only [SO.top]
  rw [show o.L.length - j = (o.L.length - (j + 1)) + 1 from by omega]
  rfl
def SO.setFrom : Nat → SO → Nat → Nat → SO
  | 0, o, _, _ => o
  | f + 1, o, k, x =>
    if (o.lv k).getD (x / 64) 0 ||| 2 ^ (x % 64) = 18446744073709551615 then SO.setFrom f (o.put k (x / 64) ((o.lv k).getD (x / 64) 0 ||| 2 ^ (x % 64))) (k + 1) (x / 64)
    else o.put k (x / 64) ((o.lv k).getD (x / 64) 0 ||| 2 ^ (x % 64))
def SO.set (o : SO) (x : Nat) : SO := SO.setFrom o.L.length { o with tk := o.tk + 1 } 0 x
def SO.freeFrom : Nat → SO → Nat → Nat → SO
  | 0, o, _, _ => o
  | f + 1, o, k, x =>
    if (o.lv k).getD (x / 64) 0 = 18446744073709551615 then SO.freeFrom f (o.put k (x / 64) ((o.lv k).getD (x / 64) 0 &&& (18446744073709551615 - 2 ^ (x % 64)))) (k + 1) (x / 64)
    else o.put k (x / 64) ((o.lv k).getD (x / 64) 0 &&& (18446744073709551615 - 2 ^ (x % 64)))
def SO.free (o : SO) (x : Nat) : SO := SO.freeFrom o.L.length { o with tk := o.tk - 1 } 0 x

end Go.Proofs.YtiphdlhnoceeiaaDoor
