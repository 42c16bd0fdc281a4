/- Plain words on the model's memory: what a call keeps, blocks known whole, rows. No program is named. Plain facts on what stands round vertices: lists of darts, each read as a cycle. No program is named. Plain facts: the rows that hold the turns (of each dart its vertex, the dart behind it, the dart ahead), and what laying and taking do to them. Plain facts: a cycle read from its least dart on; acts on lists of darts. Plain facts: where a dart stands, and its neighbours. Slices that are read: what their cells hold. The turns in memory. -/
import Derived.WalkKit
import Derived.Lib.Hide
import Derived.Deep.QuietTactic
import Derived.BigQuiet
import Derived.Deep.Draws
import Derived.Deep.LoopGhost
import Derived.Deep.DeepFit
import Derived.Deep.DeepCutAuto
import Derived.Deep.CutBlock
import Derived.Deep.Light
import Derived.WalkSpells
import Derived.WideLaws
import Derived.LaidEql
import Derived.Test.YtdplphhlclhmfaaDoorProg
namespace Go.Proofs.YtdplphhlclhmfaaDoor
open Go Go.RowKit
set_option linter.unusedVariables false
set_option linter.unusedSimpArgs false
set_option maxRecDepth 100000

/-- An error's value. -/
def errno (n : Int) : Value := .iface 87 (.int .i64 n)

/-- .. of number 0: none. -/
def errVal (k : Nat) : Value := if k = 0 then .nilIface else errno k

/-- What was there stays as it was, but for the blocks of `fp`. -/
structure Keeps (fp : Nat → Prop) (w w' : World) : Prop where
  os : w'.os = w.os
  tape : w'.tape = w.tape
  output : w'.output = w.output
  size : w.heap.size ≤ w'.heap.size
  block : ∀ k, k < w.heap.size → ¬ fp k → w'.heap[k]? = w.heap[k]?

theorem Keeps.refl (fp : Nat → Prop) (w : World) : Keeps fp w w := ⟨rfl, rfl, rfl, Nat.le_refl _, fun _ _ _ => rfl⟩
theorem Keeps.trans {fp fp' : Nat → Prop} {a b c : World} (h : Keeps fp a b) (k : Keeps fp' b c) (hs : ∀ i, i < a.heap.size → fp' i → fp i) : Keeps fp a c :=
  ⟨k.os.trans h.os, k.tape.trans h.tape, k.output.trans h.output, Nat.le_trans h.size k.size,
    fun i hi hn => (k.block i (Nat.lt_of_lt_of_le hi h.size) (fun e => hn (hs i hi e))).trans (h.block i hi hn)⟩
theorem Keeps.trans' {fp : Nat → Prop} {a b c : World} (h : Keeps fp a b) (k : Keeps fp b c) : Keeps fp a c := h.trans k fun _ _ e => e
theorem Keeps.mono {fp fp' : Nat → Prop} {a b : World} (h : Keeps fp a b) (hs : ∀ i, i < a.heap.size → fp i → fp' i) : Keeps fp' a b :=
  ⟨h.os, h.tape, h.output, h.size, fun i hi hn => h.block i hi (fun e => hn (hs i hi e))⟩
theorem Keeps.alloc {fp : Nat → Prop} {a w : World} (h : Keeps fp a w) (o : Obj) : Keeps fp a (w.alloc o) :=
  ⟨h.os, h.tape, h.output, Nat.le_trans h.size (by simp), fun k hk hn => (Below.heap_alloc w o k (Nat.lt_of_lt_of_le hk h.size)).trans (h.block k hk hn)⟩
theorem Keeps.drew {fp : Nat → Prop} {a w : World} (h : Keeps fp a w) : Keeps fp a w.drew := ⟨h.os, h.tape, h.output, h.size, h.block⟩
theorem Keeps.drewN {fp : Nat → Prop} {a w : World} (h : Keeps fp a w) (n : Nat) : Keeps fp a (w.drewN n) := ⟨h.os, h.tape, h.output, h.size, h.block⟩
theorem Keeps.setCell {fp : Nat → Prop} {a w : World} (h : Keeps fp a w) (p : Addr) (u : Value) (hp : p.block < a.heap.size → fp p.block) : Keeps fp a (w.setCell p u) :=
  ⟨h.os, h.tape, h.output, by simpa [World.setCell] using h.size, fun k hk hn => by
    rw [Below.heap_setCell _ _ _ _ (by rintro rfl; exact hn (hp hk))]; exact h.block k hk hn⟩
theorem Keeps.grown {fp : Nat → Prop} {a w w' : World} {row : Option Nat} (h : Keeps fp a w) (hg : w.grownBy w' row) (hr : ∀ k, row = some k → k < a.heap.size → fp k) : Keeps fp a w' :=
  ⟨hg.os.trans h.os, hg.tape.trans h.tape, hg.output.trans h.output, Nat.le_trans h.size hg.size, fun k hk hn =>
    (hg.block k (Nat.lt_of_lt_of_le hk h.size) (fun e => hn (hr k e.symm hk))).trans (h.block k hk hn)⟩
theorem Keeps.below {fp : Nat → Prop} {a w : World} {B : Nat} (h : Keeps fp a w) (hB : ∀ k, k < B → k < a.heap.size ∧ ¬ fp k) : Below B a w :=
  ⟨h.os, h.tape, h.output, h.size, fun k hk => h.block k (hB k hk).1 (hB k hk).2⟩
theorem Keeps.of_below {a w : World} (h : Below a.heap.size a w) (fp : Nat → Prop) : Keeps fp a w := ⟨h.os, h.tape, h.output, h.size, fun k hk _ => h.block k hk⟩
theorem Keeps.whole {a w : World} (h : Keeps (fun _ => False) a w) : Below a.heap.size a w := h.below fun _ hk => ⟨hk, id⟩

/-- A block known whole. -/
def Blk (w : World) (b : Nat) (cs : Array Value) (t : TypeId) : Prop := w.heap[b]? = some (.cells cs t (0, 0))

theorem Blk.lt {w : World} {b : Nat} {cs : Array Value} {t : TypeId} (h : Blk w b cs t) : b < w.heap.size := (Array.getElem?_eq_some_iff.1 h).1
theorem Blk.cell {w : World} {b : Nat} {cs : Array Value} {t : TypeId} (h : Blk w b cs t) (i : Nat) : w.cell? ⟨b, i, none⟩ = cs[i]? := by simp [World.cell?, show w.heap[b]? = _ from h]
theorem Blk.free {w : World} {b : Nat} {cs : Array Value} {t : TypeId} (h : Blk w b cs t) (i : Nat) : w.frozen? ⟨b, i, none⟩ = false := by
  simp [World.frozen?, show w.heap[b]? = _ from h]
theorem Blk.of_heap {w w' : World} {b : Nat} {cs : Array Value} {t : TypeId} (h : Blk w b cs t) (e : w'.heap[b]? = w.heap[b]?) : Blk w' b cs t := e.trans h
theorem Blk.kept {fp : Nat → Prop} {w w' : World} {b : Nat} {cs : Array Value} {t : TypeId} (h : Blk w b cs t) (hk : Keeps fp w w') (hn : ¬ fp b) : Blk w' b cs t :=
  h.of_heap (hk.block b h.lt hn)
theorem Blk.set {w : World} {b : Nat} {cs : Array Value} {t : TypeId} (h : Blk w b cs t) (i : Nat) (v : Value) : Blk (w.setCell ⟨b, i, none⟩ v) b (cs.setIfInBounds i v) t := by
  unfold Blk at *
  simp [World.setCell, Array.getElem?_modify, h]
theorem Blk.set_other {w : World} {b : Nat} {cs : Array Value} {t : TypeId} (h : Blk w b cs t) (a : Addr) (v : Value) (hn : b ≠ a.block) : Blk (w.setCell a v) b cs t :=
  h.of_heap (Below.heap_setCell _ _ _ _ hn)
theorem Blk.alloc {w : World} {b : Nat} {cs : Array Value} {t : TypeId} (h : Blk w b cs t) (o : Obj) : Blk (w.alloc o) b cs t :=
  h.of_heap (Below.heap_alloc w o b h.lt)
theorem Blk.drew {w : World} {b : Nat} {cs : Array Value} {t : TypeId} (h : Blk w b cs t) : Blk w.drew b cs t := h
theorem Blk.drewN {w : World} {b : Nat} {cs : Array Value} {t : TypeId} (h : Blk w b cs t) (n : Nat) : Blk (w.drewN n) b cs t := h
theorem Blk.new (w : World) (cs : Array Value) (t : TypeId) : Blk (w.alloc (.cells cs t)) w.heap.size cs t := heap_alloc_new w _


theorem ownsRow_kept {w w' : World} {base : Nat} {e : TypeId} {size : Nat} {v : Value} {n : Nat} {xs : List Value} {fp : Nat → Prop}
    (h : w.ownsRow base e size v n xs) (hk : Keeps fp w w') (hn : ∀ k, v.ownBlock = some k → ¬ fp k) : w'.ownsRow base e size v n xs := by
  refine ⟨h.1, ?_⟩
  rcases h.2 with h2 | ⟨g, cap, cur, rfl, hb, hgg, r⟩
  · exact .inl h2
  · exact .inr ⟨g, cap, cur, rfl, hb, by rw [hk.block g (Array.getElem?_eq_some_iff.1 hgg).1 (hn g rfl)]; exact hgg, r⟩
theorem ownsRow_base {w : World} {base base' : Nat} {e : TypeId} {size : Nat} {v : Value} {n : Nat} {xs : List Value} (h : w.ownsRow base e size v n xs) (hb : base' ≤ base) :
    w.ownsRow base' e size v n xs := by
  refine ⟨h.1, ?_⟩
  rcases h.2 with h2 | ⟨g, cap, cur, rfl, hg, r⟩
  · exact .inl h2
  · exact .inr ⟨g, cap, cur, rfl, by omega, r⟩
theorem ownsRow_slice {w : World} {base : Nat} {e : TypeId} {size : Nat} {v : Value} {n : Nat} {xs : List Value} (h : w.ownsRow base e size v n xs) : ∃ a c, v = .slice a n c := by
  rcases h.2 with ⟨rfl, rfl⟩ | ⟨g, cap, cur, rfl, _⟩
  · exact ⟨none, 0, rfl⟩
  · exact ⟨_, cap, rfl⟩
theorem keeps_of_grown {w w' : World} {row : Option Nat} (h : w.grownBy w' row) : Keeps (fun k => row = some k) w w' :=
  ⟨h.os, h.tape, h.output, h.size, fun k hk hn => h.block k hk (fun e => hn e.symm)⟩

section
variable {P : Program}
/-- An append onto a row of the call's own: the row behind it lies where it lay, or in a new block. -/
theorem run_app (w : World) (base : Nat) (t ty e : TypeId) (i : TypeInfo) (z : Value) (size bytes : Nat) (ht : P.underlying t = some (.slice e)) (hi : P.info? e = some i) (hz : i.zero = some z)
    (hsize : i.size = size) (hby : i.bytes = bytes) (hzs : z.cells.size = size) (hsz : 0 < size)
    (v : Value) (n : Nat) (xs : List Value) (hown : w.ownsRow base e size v n xs)
    (a : Addr) (m c : Nat) (news : List Value) (hl : news.length = m * size) (hnews : ∀ j u, news[j]? = some u → w.cell? (a.add j) = some u) (h1 : ∀ u ∈ news, u.oneCell' = true)
    (h63 : n + m ≤ maxLen) (hbytes : (n + m) * bytes ≤ 140737488355328) (hbase : base ≤ w.heap.size) :
    ∃ v' w', (Builtin.append_ #[t, t] ty #[v, .slice (some a) m c]).run P w = .ok v' w' ∧ w'.ownsRow base e size v' (n + m) (xs ++ news) ∧ Keeps (fun k => v.ownBlock = some k) w w' ∧
      (∀ k, v'.ownBlock = some k → v.ownBlock = some k ∨ k = w.heap.size) ∧ (0 < m → v' ≠ .slice none 0 0) := by
  obtain ⟨v', w', hr, ho, hg, hnil⟩ := run_append_own (P := P) w base t ty e i z size bytes ht hi hz hsize hby hzs hsz v n xs hown a m c news hl hnews h1 h63 hbytes hbase
  refine ⟨v', w', hr, ho, keeps_of_grown hg, ?_, fun hm e => by have := hnil.1 e; omega⟩
  subst hsize
  subst hby
  have hsmall : n + m ≤ 9223372036854775807 := by simp only [maxLen] at h63; omega
  rcases hown.2 with ⟨rfl, rfl⟩ | ⟨g, cap, cur, rfl, hbg, hgg, hnc, hcm, hcs, htake⟩
  · by_cases hm : m = 0
    · have hv : v' = .slice none 0 0 := hnil.2 ⟨rfl, hm⟩
      subst hv
      intro k hk
      simp [Value.ownBlock] at hk
    · have hr2 := run_append_nil (P := P) w t ty e i z ht hi hz a m c news hl hnews (by omega) (by omega) (by have hb := hbytes; simp only [Nat.zero_add] at hb; omega)
      rw [hr] at hr2
      simp only [Result.ok.injEq] at hr2
      obtain ⟨rfl, _⟩ := hr2
      intro k hk
      simp [Value.ownBlock] at hk
      exact .inr hk.symm
  · by_cases hroom : n + m ≤ cap
    · have hfit : n * i.size + news.length ≤ cur.size := by rw [hl, hcs, ← Nat.add_mul]; exact Nat.mul_le_mul_right _ hroom
      have hr2 := run_append_room (P := P) w t ty e i ht hi g n cap cur hgg a m c news hl hnews h1 hroom hfit
      rw [hr] at hr2
      simp only [Result.ok.injEq] at hr2
      obtain ⟨rfl, _⟩ := hr2
      intro k hk
      exact .inl hk
    · have holds : ∀ j u, xs[j]? = some u → w.cell? ((⟨g, 0, none⟩ : Addr).add j) = some u := hown.cells (g := g) rfl
      have hr2 := run_append_grow (P := P) w t ty e i z ht hi hz ⟨g, 0, none⟩ n cap xs hown.1 holds a m c news hl hnews (by omega) (by omega) (growslice_fits (by omega) hbytes)
      rw [hr] at hr2
      simp only [Result.ok.injEq] at hr2
      obtain ⟨rfl, _⟩ := hr2
      intro k hk
      simp [Value.ownBlock] at hk
      exact .inr hk.symm

theorem wpList_app {ops : Array Oper} {rest : List Oper} {o : Oper} {a : Act} {Q : Exit → Act → World → Prop} {w : World} (hgd : o.guard = none) (s x : Operand) (t : TypeId)
    (ho : o.op = .call { callee := .builtin .append, args := #[s, x], argTypes := #[t, t] })
    (base : Nat) (e : TypeId) (i : TypeInfo) (z : Value) (size bytes : Nat) (ht : P.underlying t = some (.slice e)) (hi : P.info? e = some i) (hz : i.zero = some z)
    (hsize : i.size = size) (hby : i.bytes = bytes) (hzs : z.cells.size = size) (hsz : 0 < size)
    (v : Value) (n : Nat) (xs : List Value) (hs : a.eval s = v) (hown : w.ownsRow base e size v n xs)
    (ad : Addr) (m c : Nat) (news : List Value) (hx : a.eval x = .slice (some ad) m c) (hl : news.length = m * size) (hnews : ∀ j u, news[j]? = some u → w.cell? (ad.add j) = some u) (h1 : ∀ u ∈ news, u.oneCell' = true)
    (h63 : n + m ≤ maxLen) (hbytes : (n + m) * bytes ≤ 140737488355328) (hbase : base ≤ w.heap.size)
    (h : ∀ v' w', w'.ownsRow base e size v' (n + m) (xs ++ news) → Keeps (fun k => v.ownBlock = some k) w w' → (∀ k, v'.ownBlock = some k → v.ownBlock = some k ∨ k = w.heap.size) →
      (0 < m → v' ≠ .slice none 0 0) → wpList P ops Q rest (a.put o.dst v') w') : wpList P ops Q (o :: rest) a w := by
  obtain ⟨v', w', hr, h2, h3, h4, h5⟩ := run_app (P := P) w base t o.type e i z size bytes ht hi hz hsize hby hzs hsz v n xs hown ad m c news hl hnews h1 h63 hbytes hbase
  refine wpList_plain hgd fun K hK => ?_
  unfold Oper.wp execOp
  simp only [ho, resolve, invoke, builtin, Sem.run_bind, Sem.run_pure, Result.andThen_ok, List.map_toArray, List.map_cons, List.map_nil, hs, hx, hr]
  exact hK _ _ (h v' w' h2 h3 h4 h5)

/-- .. of what was just laid into a block of its own. -/
theorem wpList_app1 {ops : Array Oper} {rest : List Oper} {o : Oper} {a : Act} {Q : Exit → Act → World → Prop} {w : World} (hgd : o.guard = none) (s x : Operand) (t : TypeId)
    (ho : o.op = .call { callee := .builtin .append, args := #[s, x], argTypes := #[t, t] })
    (base : Nat) (e : TypeId) (i : TypeInfo) (z : Value) (size bytes : Nat) (ht : P.underlying t = some (.slice e)) (hi : P.info? e = some i) (hz : i.zero = some z)
    (hsize : i.size = size) (hby : i.bytes = bytes) (hzs : z.cells.size = size) (hsz : 0 < size)
    (v : Value) (n : Nat) (xs : List Value) (hs : a.eval s = v) (hown : w.ownsRow base e size v n xs)
    (b m c : Nat) (news : List Value) (tn : TypeId) (hx : a.eval x = .slice (some ⟨b, 0, none⟩) m c) (hb : b = w.heap.size) (hl : news.length = m * size) (h1 : ∀ u ∈ news, u.oneCell' = true)
    (h63 : n + m ≤ maxLen) (hbytes : (n + m) * bytes ≤ 140737488355328) (hbase : base ≤ w.heap.size)
    (h : ∀ v' w', w'.ownsRow base e size v' (n + m) (xs ++ news) → Keeps (fun k => v.ownBlock = some k) w w' → (∀ k, v'.ownBlock = some k → v.ownBlock = some k ∨ w.heap.size < k) →
      w.heap.size < w'.heap.size → (0 < m → v' ≠ .slice none 0 0) → wpList P ops Q rest (a.put o.dst v') w') : wpList P ops Q (o :: rest) a (w.alloc (.cells news.toArray tn)) := by
  subst hb
  refine wpList_app hgd s x t ho base e i z size bytes ht hi hz hsize hby hzs hsz v n xs hs (hown.alloc _) ⟨w.heap.size, 0, none⟩ m c news hx hl (fun j u hu => ?_) h1 h63 hbytes (by simp; omega) fun v' w' g1 g2 g3 g4 => ?_
  · have hadd : (⟨w.heap.size, 0, none⟩ : Addr).add j = ⟨w.heap.size, j, none⟩ := by unfold Addr.add; split <;> simp_all
    rw [hadd, (Blk.new w _ _).cell]
    simpa using hu
  · refine h v' w' g1 ?_ (fun k hk => ?_) (by have := g2.size; simp at this; omega) g4
    · exact ((Keeps.refl _ _).alloc _).trans' g2
    · rcases g3 k hk with g | g
      · exact .inl g
      · simp at g; exact .inr (by omega)

theorem madeCells_one (z : Value) (n : Nat) : madeCells #[z] n = (List.replicate n z).toArray := by
  apply Array.ext
  · simp [madeCells]
  · intro i h1 h2
    simp [madeCells, Nat.mod_one]

/-- make([]T, n). -/
theorem wpList_mk {ops : Array Oper} {rest : List Oper} {o : Oper} {a : Act} {Q : Exit → Act → World → Prop} {w : World}
    (hg : o.guard = none) (l c : Operand) (t : TypeId) (hop : o.op = Op.makeSlice t l c)
    (e : TypeId) (i : TypeInfo) (z : Value) (size bytes : Nat) (ht : P.underlying t = some (.slice e)) (hi : P.info? e = some i) (hz : i.zero = some z) (hsize : i.size = size) (hby : i.bytes = bytes)
    (n : Nat) (kl kc : IntKind) (L C : Int) (hl : a.eval l = .int kl L) (hc : a.eval c = .int kc C) (hL : L = (n : Int)) (hC : C = (n : Int)) (hb : bytes * n ≤ 281474976710656) (h63 : n ≤ 9223372036854775807)
    (hK : wpList P ops Q rest (a.put o.dst (.slice (some ⟨w.heap.size, 0, none⟩) n n)) (w.alloc (.cells (madeCells z.cells (n * size)) e))) :
    wpList P ops Q (o :: rest) a w := by
  refine wpList_plain hg fun K hK' => ?_
  subst hL
  subst hC
  subst hsize
  subst hby
  have hrun := run_make (P := P) w t e i z ht hi hz kl kc (n : Int) (n : Int) (by omega) (Int.le_refl _) (by have : ((i.bytes * n : Nat) : Int) ≤ 281474976710656 := by omega
                                                                                                             rwa [Int.natCast_mul] at this) (by omega)
  simp only [Int.toNat_natCast] at hrun
  unfold Oper.wp
  simp [execOp, hop, hl, hc, hrun, Result.andThen]
  exact hK' _ _ hK
/-- .. of one-cell elements. -/
theorem wpList_mk1 {ops : Array Oper} {rest : List Oper} {o : Oper} {a : Act} {Q : Exit → Act → World → Prop} {w : World}
    (hg : o.guard = none) (l c : Operand) (t : TypeId) (hop : o.op = Op.makeSlice t l c)
    (e : TypeId) (i : TypeInfo) (z : Value) (bytes : Nat) (ht : P.underlying t = some (.slice e)) (hi : P.info? e = some i) (hz : i.zero = some z) (hsize : i.size = 1) (hby : i.bytes = bytes) (hzc : z.cells = #[z])
    (n : Nat) (kl kc : IntKind) (L C : Int) (hl : a.eval l = .int kl L) (hc : a.eval c = .int kc C) (hL : L = (n : Int)) (hC : C = (n : Int)) (hb : bytes * n ≤ 281474976710656) (h63 : n ≤ 9223372036854775807)
    (hK : wpList P ops Q rest (a.put o.dst (.slice (some ⟨w.heap.size, 0, none⟩) n n)) (w.alloc (.cells (List.replicate n z).toArray e))) :
    wpList P ops Q (o :: rest) a w :=
  wpList_mk hg l c t hop e i z 1 bytes ht hi hz hsize hby n kl kc L C hl hc hL hC hb h63 (by rw [hzc, Nat.mul_one, madeCells_one]; exact hK)
end
/-- The place behind one, ahead of one, round a cycle of n. -/
def sc (n i : Nat) : Nat := if i + 1 = n then 0 else i + 1
def pc (n i : Nat) : Nat := if i = 0 then n - 1 else i - 1
theorem sc_lt {n i : Nat} (h : i < n) : sc n i < n := by unfold sc; split <;> omega
theorem pc_lt {n i : Nat} (h : i < n) : pc n i < n := by unfold pc; split <;> omega
theorem pc_sc {n i : Nat} (h : i < n) : pc n (sc n i) = i := by unfold sc pc; split <;> split <;> omega
theorem sc_pc {n i : Nat} (h : i < n) : sc n (pc n i) = i := by unfold sc pc; split <;> split <;> omega
theorem sc_mod {n i : Nat} (h : i < n) : sc n i = (i + 1) % n := by
  unfold sc; split
  · rename_i e; rw [e, Nat.mod_self]
  · rw [Nat.mod_eq_of_lt (by omega)]
theorem pc_mod {n i : Nat} (h : i < n) : pc n i = (i + n - 1) % n := by
  unfold pc; split
  · rename_i e; subst e; rw [Nat.zero_add, Nat.mod_eq_of_lt (by omega)]
  · rw [show i + n - 1 = (i - 1) + n by omega, Nat.add_mod_right, Nat.mod_eq_of_lt (by omega)]

/-- A dart laid behind another one; behind the last one, where that is none of these. -/
def insB (b : Int) (d : Nat) : List Nat → List Nat
  | [] => [d]
  | x :: l => if (x : Int) = b then x :: d :: l else x :: insB b d l
theorem insB_not {b : Int} {d : Nat} : ∀ {l : List Nat}, (∀ x ∈ l, (x : Int) ≠ b) → insB b d l = l ++ [d]
  | [], _ => rfl
  | x :: l, h => by
    rw [insB, if_neg (h x (by simp)), insB_not fun y hy => h y (by simp [hy])]; rfl
theorem insB_at {d : Nat} : ∀ {l : List Nat} {i : Nat} (_ : l.Nodup) (hi : i < l.length), insB (l[i] : Nat) d l = l.take (i + 1) ++ d :: l.drop (i + 1)
  | x :: l, 0, _, _ => by simp [insB]
  | x :: l, i + 1, hn, hi => by
    have hx : x ≠ l[i]'(by simpa using hi) := fun e => by
      have := (List.nodup_cons.1 hn).1
      rw [e] at this
      exact this (List.getElem_mem _)
    rw [List.getElem_cons_succ, insB, if_neg (by omega), insB_at (List.nodup_cons.1 hn).2 (by simpa using hi)]
    simp
theorem insB_perm (b : Int) (d : Nat) : ∀ l : List Nat, (insB b d l).Perm (d :: l)
  | [] => List.Perm.refl _
  | x :: l => by
    unfold insB
    split
    · exact List.Perm.swap _ _ _
    · exact ((insB_perm b d l).cons x).trans (List.Perm.swap _ _ _)
theorem insB_length (b : Int) (d : Nat) (l : List Nat) : (insB b d l).length = l.length + 1 := (insB_perm b d l).length_eq.trans (by simp)
theorem mem_insB {b : Int} {d x : Nat} {l : List Nat} : x ∈ insB b d l ↔ x = d ∨ x ∈ l := by rw [(insB_perm b d l).mem_iff]; simp
theorem insB_nodup {b : Int} {d : Nat} {l : List Nat} (h : l.Nodup) (hd : d ∉ l) : (insB b d l).Nodup := (insB_perm b d l).nodup_iff.2 (List.nodup_cons.2 ⟨hd, h⟩)
theorem get_ins (l : List Nat) (i d j : Nat) (hi : i < l.length) :
    (l.take (i + 1) ++ d :: l.drop (i + 1))[j]? = if j ≤ i then l[j]? else if j = i + 1 then some d else l[j - 1]? := by
  by_cases h1 : j ≤ i
  · rw [if_pos h1, List.getElem?_append_left (by simp; omega), List.getElem?_take, if_pos (by omega)]
  · rw [if_neg h1, List.getElem?_append_right (by simp; omega), List.length_take, Nat.min_eq_left (by omega)]
    by_cases h2 : j = i + 1
    · rw [if_pos h2, h2, Nat.sub_self]; rfl
    · rw [if_neg h2, show j - (i + 1) = (j - 1 - (i + 1)) + 1 by omega, List.getElem?_cons_succ, List.getElem?_drop]
      congr 1; omega

/-- The turns: of each vertex its darts. -/
structure WF (E : Nat) (L : List (List Nat)) : Prop where
  lt : ∀ l ∈ L, ∀ d ∈ l, d < 2 * E
  nodup : L.flatten.Nodup
/-- A dart stands there. -/
def Stands (L : List (List Nat)) (d : Nat) : Prop := d ∈ L.flatten
instance (L : List (List Nat)) (d : Nat) : Decidable (Stands L d) := inferInstanceAs (Decidable (d ∈ L.flatten))
theorem stands_iff {L : List (List Nat)} {d : Nat} : Stands L d ↔ ∃ (v : Nat) (l : List Nat), L[v]? = some l ∧ d ∈ l := by
  unfold Stands
  rw [List.mem_flatten]
  constructor
  · rintro ⟨l, h1, h2⟩
    obtain ⟨v, h⟩ := List.mem_iff_getElem?.1 h1
    exact ⟨v, l, h, h2⟩
  · rintro ⟨v, l, h1, h2⟩
    exact ⟨l, List.mem_iff_getElem?.2 ⟨v, h1⟩, h2⟩
theorem nodup_flat {L : List (List Nat)} (h : L.flatten.Nodup) : (∀ (v : Nat) (l : List Nat), L[v]? = some l → l.Nodup) ∧ ∀ (u v : Nat) (l m : List Nat) (d : Nat), L[u]? = some l → L[v]? = some m → d ∈ l → d ∈ m → u = v := by
  induction L with
  | nil => simp
  | cons a L ih =>
    rw [List.flatten_cons, List.nodup_append] at h
    obtain ⟨h1, h2, h3⟩ := h
    obtain ⟨i1, i2⟩ := ih h2
    refine ⟨fun v l hv => ?_, fun u v l m d hu hv hl hm => ?_⟩
    · cases v with
      | zero => simp at hv; exact hv ▸ h1
      | succ v => exact i1 v l (by simpa using hv)
    · cases u with
      | zero =>
        cases v with
        | zero => rfl
        | succ v =>
          simp at hu hv
          subst hu
          exact absurd rfl (h3 d hl d (List.mem_flatten.2 ⟨m, List.mem_iff_getElem?.2 ⟨v, hv⟩, hm⟩))
      | succ u =>
        cases v with
        | zero =>
          simp at hu hv
          subst hv
          exact absurd rfl (h3 d hm d (List.mem_flatten.2 ⟨l, List.mem_iff_getElem?.2 ⟨u, hu⟩, hl⟩))
        | succ v => rw [i2 u v l m d (by simpa using hu) (by simpa using hv) hl hm]
theorem nodup_of {L : List (List Nat)} (h1 : ∀ (v : Nat) (l : List Nat), L[v]? = some l → l.Nodup) (h2 : ∀ (u v : Nat) (l m : List Nat) (d : Nat), L[u]? = some l → L[v]? = some m → d ∈ l → d ∈ m → u = v) : L.flatten.Nodup := by
  induction L with
  | nil => simp
  | cons a L ih =>
    rw [List.flatten_cons, List.nodup_append]
    refine ⟨h1 0 a rfl, ih (fun v l hv => h1 (v + 1) l (by simpa using hv)) (fun u v l m d hu hv hl hm => ?_), fun x hx y hy e => ?_⟩
    · have := h2 (u + 1) (v + 1) l m d (by simpa using hu) (by simpa using hv) hl hm
      omega
    · subst e
      obtain ⟨m, hm, hxm⟩ := List.mem_flatten.1 hy
      obtain ⟨v, hv⟩ := List.mem_iff_getElem?.1 hm
      have := h2 0 (v + 1) a m x rfl (by simpa using hv) hx hxm
      omega
section
variable {E : Nat} {L : List (List Nat)}
theorem WF.nd (h : WF E L) {v : Nat} {l : List Nat} (hv : L[v]? = some l) : l.Nodup := (nodup_flat h.nodup).1 v l hv
theorem WF.one (h : WF E L) {u v : Nat} {l m : List Nat} {d : Nat} (hu : L[u]? = some l) (hv : L[v]? = some m) (hl : d ∈ l) (hm : d ∈ m) : u = v := (nodup_flat h.nodup).2 u v l m d hu hv hl hm
theorem WF.bd (h : WF E L) {v : Nat} {l : List Nat} (hv : L[v]? = some l) {d : Nat} (hd : d ∈ l) : d < 2 * E := h.lt l (List.mem_iff_getElem?.2 ⟨v, hv⟩) d hd
theorem WF.bdS (h : WF E L) {d : Nat} (hd : Stands L d) : d < 2 * E := by
  obtain ⟨v, l, hv, hm⟩ := stands_iff.1 hd
  exact h.bd hv hm
end
theorem nd_inj {l : List Nat} (h : l.Nodup) {i j : Nat} {x : Nat} (hi : l[i]? = some x) (hj : l[j]? = some x) : i = j := by
  obtain ⟨h1, e1⟩ := List.getElem?_eq_some_iff.1 hi
  obtain ⟨h2, e2⟩ := List.getElem?_eq_some_iff.1 hj
  exact (List.getElem_inj h).1 (e1.trans e2.symm)

/-- A dart laid at a vertex, behind one; a dart taken away. -/
def putL (L : List (List Nat)) (d v : Nat) (b : Int) : List (List Nat) := L.set v (insB b d (L.getD v []))
def remL (L : List (List Nat)) (d : Nat) : List (List Nat) := L.map fun l => l.filter (· != d)
theorem putL_get {L : List (List Nat)} {d v : Nat} {b : Int} {l : List Nat} (hv : L[v]? = some l) (u : Nat) : (putL L d v b)[u]? = if u = v then some (insB b d l) else L[u]? := by
  have hlt := (List.getElem?_eq_some_iff.1 hv).1
  unfold putL
  rw [List.getElem?_set, List.getD_eq_getElem?_getD, hv]
  by_cases e : u = v
  · subst e; simp [hlt]
  · rw [if_neg (fun h => e h.symm), if_neg e]
theorem putL_wf {E : Nat} {L : List (List Nat)} {d v : Nat} {b : Int} (h : WF E L) (hd : d < 2 * E) (hn : ¬ Stands L d) (hv : v < L.length) : WF E (putL L d v b) := by
  obtain ⟨l, hl⟩ : ∃ l, L[v]? = some l := ⟨_, List.getElem?_eq_getElem hv⟩
  have hdl : ∀ (u : Nat) (m : List Nat), L[u]? = some m → d ∉ m := fun u m hu hm => hn (stands_iff.2 ⟨u, m, hu, hm⟩)
  refine ⟨fun m hm x hx => ?_, nodup_of (fun u m hu => ?_) fun u u' m m' x hu hu' hm hm' => ?_⟩
  · obtain ⟨u, hu⟩ := List.mem_iff_getElem?.1 hm
    rw [putL_get hl] at hu
    split at hu
    · cases hu
      rcases mem_insB.1 hx with rfl | hx
      · exact hd
      · exact h.bd hl hx
    · exact h.bd hu hx
  · rw [putL_get hl] at hu
    split at hu
    · cases hu; exact insB_nodup (h.nd hl) (hdl v l hl)
    · exact h.nd hu
  · rw [putL_get hl] at hu hu'
    split at hu <;> split at hu'
    · omega
    · rename_i e1 e2
      cases hu
      rcases mem_insB.1 hm with rfl | hm
      · exact absurd hm' (hdl _ _ hu')
      · have := h.one hl hu' hm hm'; omega
    · rename_i e1 e2
      cases hu'
      rcases mem_insB.1 hm' with rfl | hm'
      · exact absurd hm (hdl _ _ hu)
      · have := h.one hu hl hm hm'; omega
    · exact h.one hu hu' hm hm'
theorem putL_stands {L : List (List Nat)} {d v : Nat} {b : Int} {x : Nat} (hv : v < L.length) : Stands (putL L d v b) x ↔ x = d ∨ Stands L x := by
  obtain ⟨l, hl⟩ : ∃ l, L[v]? = some l := ⟨_, List.getElem?_eq_getElem hv⟩
  simp only [stands_iff, putL_get hl]
  constructor
  · rintro ⟨u, m, hu, hm⟩
    split at hu
    · cases hu
      rcases mem_insB.1 hm with e | hm
      · exact .inl e
      · exact .inr ⟨v, l, hl, hm⟩
    · exact .inr ⟨u, m, hu, hm⟩
  · rintro (rfl | ⟨u, m, hu, hm⟩)
    · exact ⟨v, _, by rw [if_pos rfl], mem_insB.2 (.inl rfl)⟩
    · by_cases e : u = v
      · subst e
        rw [hl] at hu
        cases hu
        exact ⟨u, _, by rw [if_pos rfl], mem_insB.2 (.inr hm)⟩
      · exact ⟨u, m, by rw [if_neg e]; exact hu, hm⟩
theorem putL_length (L : List (List Nat)) (d v : Nat) (b : Int) : (putL L d v b).length = L.length := by simp [putL]
theorem remL_length (L : List (List Nat)) (d : Nat) : (remL L d).length = L.length := by simp [remL]
theorem remL_get {L : List (List Nat)} {d u : Nat} : (remL L d)[u]? = (L[u]?).map fun l => l.filter (· != d) := by simp [remL]
theorem remL_wf {E : Nat} {L : List (List Nat)} {d : Nat} (h : WF E L) : WF E (remL L d) := by
  refine ⟨fun m hm x hx => ?_, nodup_of (fun u m hu => ?_) fun u u' m m' x hu hu' hm hm' => ?_⟩
  · obtain ⟨u, hu⟩ := List.mem_iff_getElem?.1 hm
    rw [remL_get] at hu
    obtain ⟨l, hl, rfl⟩ := Option.map_eq_some_iff.1 hu
    exact h.bd hl (List.mem_filter.1 hx).1
  · rw [remL_get] at hu
    obtain ⟨l, hl, rfl⟩ := Option.map_eq_some_iff.1 hu
    exact (h.nd hl).filter _
  · rw [remL_get] at hu hu'
    obtain ⟨l, hl, rfl⟩ := Option.map_eq_some_iff.1 hu
    obtain ⟨l', hl', rfl⟩ := Option.map_eq_some_iff.1 hu'
    exact h.one hl hl' (List.mem_filter.1 hm).1 (List.mem_filter.1 hm').1
theorem remL_stands {L : List (List Nat)} {d x : Nat} : Stands (remL L d) x ↔ x ≠ d ∧ Stands L x := by
  simp only [stands_iff, remL_get]
  constructor
  · rintro ⟨u, m, hu, hm⟩
    obtain ⟨l, hl, rfl⟩ := Option.map_eq_some_iff.1 hu
    obtain ⟨h1, h2⟩ := List.mem_filter.1 hm
    exact ⟨by simpa using h2, u, l, hl, h1⟩
  · rintro ⟨h1, u, l, hl, hm⟩
    exact ⟨u, _, by rw [hl]; rfl, List.mem_filter.2 ⟨hm, by simpa using h1⟩⟩
theorem filter_at {l : List Nat} {i : Nat} (hn : l.Nodup) (hi : i < l.length) : l.filter (· != l[i]) = l.take i ++ l.drop (i + 1) := by
  induction l generalizing i with
  | nil => simp at hi
  | cons x l ih =>
    obtain ⟨h1, h2⟩ := List.nodup_cons.1 hn
    cases i with
    | zero =>
      simp only [List.getElem_cons_zero, List.take_zero, List.nil_append, List.drop_succ_cons, List.drop_zero, List.filter_cons, bne_self_eq_false, Bool.false_eq_true, if_false]
      rw [List.filter_eq_self]
      intro y hy
      simp only [bne_iff_ne]
      rintro rfl
      exact h1 hy
    | succ i =>
      have hi' : i < l.length := by simpa using hi
      have hx : x ≠ l[i] := fun e => h1 (e ▸ List.getElem_mem _)
      simp only [List.getElem_cons_succ, List.filter_cons]
      rw [if_pos (by simpa using hx), ih h2 hi']
      simp
abbrev Dart := Int × Int × Int
/-- The rows tell the lists. -/
structure Rel (E : Nat) (L : List (List Nat)) (D : List Dart) (ls mn : List Int) : Prop where
  wf : WF E L
  dl : D.length = 2 * E
  ll : ls.length = L.length
  ml : mn.length = L.length
  cyc : ∀ (v : Nat) (l : List Nat), L[v]? = some l → ∀ i, i < l.length → D[l.getD i 0]? = some ((v : Int), ((l.getD (sc l.length i) 0 : Nat) : Int), ((l.getD (pc l.length i) 0 : Nat) : Int))
  off : ∀ d, d < 2 * E → ¬ Stands L d → ∃ x y, D[d]? = some (-1, x, y)
  least0 : ∀ v : Nat, L[v]? = some [] → ls[v]? = some (-1)
  least1 : ∀ (v : Nat) (l : List Nat), L[v]? = some l → l ≠ [] → ∃ d, d ∈ l ∧ ls[v]? = some (d : Int)
  many : ∀ (v : Nat) (l : List Nat), L[v]? = some l → mn[v]? = some (l.length : Int)

theorem sc_last {n i : Nat} (h : i + 1 = n) : sc n i = 0 := if_pos h
theorem sc_in {n i : Nat} (h : ¬ i + 1 = n) : sc n i = i + 1 := if_neg h
theorem pc_in {n i : Nat} (h : ¬ i = 0) : pc n i = i - 1 := if_neg h
theorem getD_mem {l : List Nat} {i : Nat} (hi : i < l.length) : l.getD i 0 ∈ l := by
  rw [List.getD_eq_getElem?_getD, List.getElem?_eq_getElem hi]; exact List.getElem_mem hi
theorem getD_at {l : List Nat} {i : Nat} (hi : i < l.length) : l.getD i 0 = l[i] := by
  rw [List.getD_eq_getElem?_getD, List.getElem?_eq_getElem hi]; rfl
theorem getD_inj {l : List Nat} (h : l.Nodup) {i j : Nat} (hi : i < l.length) (hj : j < l.length) (e : l.getD i 0 = l.getD j 0) : i = j := by
  rw [getD_at hi, getD_at hj] at e
  exact (List.getElem_inj h).1 e
theorem mem_getD {l : List Nat} {x : Nat} (h : x ∈ l) : ∃ i, i < l.length ∧ l.getD i 0 = x := by
  obtain ⟨i, hi, rfl⟩ := List.mem_iff_getElem.1 h
  exact ⟨i, hi, getD_at hi⟩
theorem getD_ins (l : List Nat) (i d j : Nat) (hi : i < l.length) :
    (l.take (i + 1) ++ d :: l.drop (i + 1)).getD j 0 = if j ≤ i then l.getD j 0 else if j = i + 1 then d else l.getD (j - 1) 0 := by
  simp only [List.getD_eq_getElem?_getD, get_ins l i d j hi]
  split
  · rfl
  · split <;> rfl
theorem getD_del (l : List Nat) (i j : Nat) (hi : i < l.length) : (l.take i ++ l.drop (i + 1)).getD j 0 = if j < i then l.getD j 0 else l.getD (j + 1) 0 := by
  simp only [List.getD_eq_getElem?_getD]
  by_cases h : j < i
  · rw [if_pos h, List.getElem?_append_left (by simp; omega), List.getElem?_take, if_pos h]
  · rw [if_neg h, List.getElem?_append_right (by simp; omega), List.length_take, Nat.min_eq_left (by omega), List.getElem?_drop]
    congr 2; omega

/-- The fields of one dart told anew. -/
def setO (D : List Dart) (d : Nat) (x : Int) : List Dart := D.modify d fun q => (x, q.2.1, q.2.2)
def setN (D : List Dart) (d : Nat) (x : Int) : List Dart := D.modify d fun q => (q.1, x, q.2.2)
def setP (D : List Dart) (d : Nat) (x : Int) : List Dart := D.modify d fun q => (q.1, q.2.1, x)
theorem setO_get (D : List Dart) (d : Nat) (x : Int) (j : Nat) : (setO D d x)[j]? = if d = j then (D[j]?).map (fun q => (x, q.2.1, q.2.2)) else D[j]? := by
  unfold setO; rw [List.getElem?_modify]; split <;> simp
theorem setN_get (D : List Dart) (d : Nat) (x : Int) (j : Nat) : (setN D d x)[j]? = if d = j then (D[j]?).map (fun q => (q.1, x, q.2.2)) else D[j]? := by
  unfold setN; rw [List.getElem?_modify]; split <;> simp
theorem setP_get (D : List Dart) (d : Nat) (x : Int) (j : Nat) : (setP D d x)[j]? = if d = j then (D[j]?).map (fun q => (q.1, q.2.1, x)) else D[j]? := by
  unfold setP; rw [List.getElem?_modify]; split <;> simp
theorem setO_length (D : List Dart) (d : Nat) (x : Int) : (setO D d x).length = D.length := by simp [setO]
theorem setN_length (D : List Dart) (d : Nat) (x : Int) : (setN D d x).length = D.length := by simp [setN]
theorem setP_length (D : List Dart) (d : Nat) (x : Int) : (setP D d x).length = D.length := by simp [setP]

section
variable {E : Nat} {L : List (List Nat)} {D : List Dart} {ls mn : List Int}
theorem set_get {α : Type} {L : List α} {v : Nat} {l' : α} (hv : v < L.length) (u : Nat) : (L.set v l')[u]? = if u = v then some l' else L[u]? := by
  rw [List.getElem?_set]
  by_cases e : u = v
  · subst e; simp [hv]
  · rw [if_neg (fun h => e h.symm), if_neg e]
theorem stands_at {v : Nat} {l : List Nat} (hv : L[v]? = some l) {d : Nat} (h : d ∈ l) : Stands L d := stands_iff.2 ⟨v, l, hv, h⟩
theorem ite_map {α β : Type} {p : Prop} [Decidable p] (f : α → β) (a b : Option α) : (if p then a else b).map f = if p then a.map f else b.map f := by split <;> rfl

/-- Laid at a vertex without darts. -/
theorem Rel.put0 (h : Rel E L D ls mn) {d v : Nat} (hd : d < 2 * E) (hn : ¬ Stands L d) (hv : L[v]? = some []) (b : Int) :
    Rel E (putL L d v b) (D.set d ((v : Int), (d : Int), (d : Int))) (ls.set v (d : Int)) (mn.set v 1) := by
  have hvl : v < L.length := (List.getElem?_eq_some_iff.1 hv).1
  have hdd : d < D.length := by rw [h.dl]; exact hd
  have hg := putL_get (d := d) (b := b) hv
  have hi : insB b d [] = [d] := rfl
  rw [hi] at hg
  refine ⟨putL_wf h.wf hd hn hvl, by rw [List.length_set, h.dl], by rw [List.length_set, putL_length, h.ll], by rw [List.length_set, putL_length, h.ml], fun u l hu i hil => ?_, fun x hx hs => ?_, fun u hu => ?_, fun u l hu hl => ?_, fun u l hu => ?_⟩
  · rw [hg] at hu
    split at hu
    · rename_i e
      subst e
      cases hu
      have : i = 0 := by simpa using hil
      subst this
      rw [show ([d] : List Nat).getD 0 0 = d from rfl, set_get hdd, if_pos rfl]
      rfl
    · have hne : l.getD i 0 ≠ d := fun e => hn (stands_at hu (e ▸ getD_mem hil))
      rw [set_get hdd, if_neg hne]
      exact h.cyc u l hu i hil
  · rw [putL_stands hvl] at hs
    have hxd : x ≠ d := fun e => hs (.inl e)
    rw [set_get hdd, if_neg hxd]
    exact h.off x hx fun e => hs (.inr e)
  · rw [hg] at hu
    split at hu
    · cases hu
    · rename_i e
      rw [set_get (by rw [h.ll]; exact hvl), if_neg e]
      exact h.least0 u hu
  · rw [hg] at hu
    rw [set_get (by rw [h.ll]; exact hvl)]
    split at hu
    · rename_i e
      cases hu
      exact ⟨d, by simp, by rw [if_pos e]⟩
    · rename_i e
      rw [if_neg e]
      exact h.least1 u l hu hl
  · rw [hg] at hu
    rw [set_get (by rw [h.ml]; exact hvl)]
    split at hu
    · rename_i e
      cases hu
      rw [if_pos e]; rfl
    · rename_i e
      rw [if_neg e]
      exact h.many u l hu

/-- Laid behind another one. -/
theorem Rel.put1 (h : Rel E L D ls mn) {d v k : Nat} {l : List Nat} (hd : d < 2 * E) (hn : ¬ Stands L d) (hv : L[v]? = some l) (hk : k < l.length) :
    Rel E (putL L d v (l.getD k 0 : Nat)) (setP (setN (D.set d ((v : Int), ((l.getD (sc l.length k) 0 : Nat) : Int), ((l.getD k 0 : Nat) : Int))) (l.getD k 0) d) (l.getD (sc l.length k) 0) d) ls (mn.set v (l.length + 1 : Nat)) := by
  have hvl : v < L.length := (List.getElem?_eq_some_iff.1 hv).1
  have hdd : d < D.length := by rw [h.dl]; exact hd
  have hg := putL_get (d := d) (b := ((l.getD k 0 : Nat) : Int)) hv
  have hnd := h.wf.nd hv
  have hins : insB ((l.getD k 0 : Nat) : Int) d l = l.take (k + 1) ++ d :: l.drop (k + 1) := by rw [getD_at hk]; exact insB_at hnd hk
  have hlen : (l.take (k + 1) ++ d :: l.drop (k + 1)).length = l.length + 1 := by rw [← hins, insB_length]
  rw [hins] at hg
  have hsk := sc_lt hk
  have hdl : ∀ j, j < l.length → l.getD j 0 ≠ d := fun j hj e => hn (stands_at hv (e ▸ getD_mem hj))
  have hin : ∀ (u : Nat) (m : List Nat), L[u]? = some m → u ≠ v → ∀ j i, j < m.length → i < l.length → l.getD i 0 ≠ m.getD j 0 := fun u m hu hne j i hj hi e => hne (h.wf.one hu hv (getD_mem hj) (e ▸ getD_mem hi))
  refine ⟨putL_wf h.wf hd hn hvl, by rw [setP_length, setN_length, List.length_set, h.dl], by rw [putL_length, h.ll], by rw [List.length_set, putL_length, h.ml], fun u m hu i hil => ?_, fun x hx hs => ?_, fun u hu => ?_, fun u m hu hl => ?_, fun u m hu => ?_⟩
  · rw [hg] at hu
    split at hu
    · rename_i e
      subst e
      cases hu
      rw [hlen] at hil ⊢
      have hinj : ∀ i j, i < l.length → j < l.length → (l.getD i 0 = l.getD j 0 ↔ i = j) := fun i j hi hj => ⟨getD_inj hnd hi hj, fun e => by rw [e]⟩
      simp only [getD_ins l k d _ hk, setP_get, setN_get, set_get hdd]
      by_cases h1 : i ≤ k
      · have hc := h.cyc u l hv i (by omega)
        have hi' : i < l.length := by omega
        rw [if_pos h1, hc, if_neg (hdl i hi')]
        simp only [hinj _ _ hk hi', hinj _ _ hsk hi']
        have e1 : (if sc (l.length + 1) i ≤ k then l.getD (sc (l.length + 1) i) 0 else if sc (l.length + 1) i = k + 1 then d else l.getD (sc (l.length + 1) i - 1) 0) = if k = i then d else l.getD (sc l.length i) 0 := by
          unfold sc
          by_cases hki : k = i
          · rw [if_neg (show ¬ i + 1 = l.length + 1 by omega), if_neg (by omega), if_pos (by omega), if_pos hki]
          · rw [if_neg (show ¬ i + 1 = l.length + 1 by omega), if_pos (by omega), if_neg hki, if_neg (by omega)]
        have e2 : (if pc (l.length + 1) i ≤ k then l.getD (pc (l.length + 1) i) 0 else if pc (l.length + 1) i = k + 1 then d else l.getD (pc (l.length + 1) i - 1) 0) = if sc l.length k = i then d else l.getD (pc l.length i) 0 := by
          unfold pc sc
          by_cases hi0 : i = 0
          · subst hi0
            simp only [if_true]
            by_cases hkl : k + 1 = l.length
            · rw [if_pos hkl, if_neg (by omega), if_pos (by omega), if_pos rfl]
            · rw [if_neg hkl, if_neg (by omega), if_neg (by omega), if_neg (by omega), Nat.add_sub_cancel]
          · rw [if_neg hi0, if_pos (by omega), if_neg hi0]
            rw [if_neg (by split <;> omega)]
        rw [e1, e2]
        split <;> split <;> simp_all
      · rw [if_neg h1]
        by_cases h2 : i = k + 1
        · subst h2
          rw [if_pos rfl, if_neg (fun e => hdl _ hsk e), if_neg (fun e => hdl _ hk e), if_pos rfl]
          have e1 : (if sc (l.length + 1) (k + 1) ≤ k then l.getD (sc (l.length + 1) (k + 1)) 0 else if sc (l.length + 1) (k + 1) = k + 1 then d else l.getD (sc (l.length + 1) (k + 1) - 1) 0) = l.getD (sc l.length k) 0 := by
            by_cases hkl : k + 1 = l.length
            · rw [sc_last (show k + 1 + 1 = l.length + 1 by omega), sc_last hkl, if_pos (by omega)]
            · rw [sc_in (show ¬ k + 1 + 1 = l.length + 1 by omega), sc_in hkl, if_neg (by omega), if_neg (by omega)]; rfl
          have e2 : (if pc (l.length + 1) (k + 1) ≤ k then l.getD (pc (l.length + 1) (k + 1)) 0 else if pc (l.length + 1) (k + 1) = k + 1 then d else l.getD (pc (l.length + 1) (k + 1) - 1) 0) = l.getD k 0 := by
            rw [pc_in (show ¬ k + 1 = 0 by omega), if_pos (by omega)]; rfl
          rw [e1, e2]
        · rw [if_neg h2]
          have hi' : i - 1 < l.length := by omega
          have hc := h.cyc u l hv (i - 1) hi'
          rw [hc, if_neg (hdl _ hi')]
          simp only [hinj _ _ hk hi', hinj _ _ hsk hi']
          have e1 : (if sc (l.length + 1) i ≤ k then l.getD (sc (l.length + 1) i) 0 else if sc (l.length + 1) i = k + 1 then d else l.getD (sc (l.length + 1) i - 1) 0) = l.getD (sc l.length (i - 1)) 0 := by
            by_cases hkl : i = l.length
            · rw [sc_last (show i + 1 = l.length + 1 by omega), sc_last (show i - 1 + 1 = l.length by omega), if_pos (by omega)]
            · rw [sc_in (show ¬ i + 1 = l.length + 1 by omega), sc_in (show ¬ i - 1 + 1 = l.length by omega), if_neg (by omega), if_neg (by omega)]; congr 1; omega
          have e2 : (if pc (l.length + 1) i ≤ k then l.getD (pc (l.length + 1) i) 0 else if pc (l.length + 1) i = k + 1 then d else l.getD (pc (l.length + 1) i - 1) 0) = if sc l.length k = i - 1 then d else l.getD (pc l.length (i - 1)) 0 := by
            unfold pc sc
            rw [if_neg (show ¬ i = 0 by omega), if_neg (show ¬ i - 1 ≤ k by omega)]
            by_cases h3 : i = k + 2
            · rw [if_pos (by omega), if_pos (by split <;> omega)]
            · rw [if_neg (by omega), if_neg (by split <;> omega), if_neg (by omega)]
          rw [e1, e2, if_neg (show ¬ k = i - 1 by omega)]
          split <;> simp_all
    · rename_i hne
      have hne2 : m.getD i 0 ≠ d := fun e => hn (stands_at hu (e ▸ getD_mem hil))
      rw [setP_get, if_neg (hin u m hu hne i _ hil hsk), setN_get, if_neg (hin u m hu hne i _ hil hk), set_get hdd, if_neg hne2]
      exact h.cyc u m hu i hil
  · rw [putL_stands hvl] at hs
    have hxd : x ≠ d := fun e => hs (.inl e)
    have hxl : ∀ i, i < l.length → l.getD i 0 ≠ x := fun i hi e => hs (.inr (stands_at hv (e ▸ getD_mem hi)))
    rw [setP_get, if_neg (hxl _ hsk), setN_get, if_neg (hxl _ hk), set_get hdd, if_neg hxd]
    exact h.off x hx fun e => hs (.inr e)
  · rw [hg] at hu
    split at hu
    · have := congrArg List.length (Option.some.inj hu)
      rw [hlen] at this
      simp at this
    · exact h.least0 u hu
  · rw [hg] at hu
    split at hu
    · rename_i e
      subst e
      obtain ⟨x, hx, hx2⟩ := h.least1 u l hv (by rintro rfl; simp at hk)
      cases hu
      exact ⟨x, by rw [← hins]; exact mem_insB.2 (.inr hx), hx2⟩
    · exact h.least1 u m hu hl
  · rw [hg] at hu
    rw [set_get (by rw [h.ml]; exact hvl)]
    split at hu
    · rename_i e
      cases hu
      rw [if_pos e, hlen]
    · rename_i e
      rw [if_neg e]
      exact h.many u m hu

/-- Taken away. -/
theorem Rel.take (h : Rel E L D ls mn) {v k : Nat} {l : List Nat} (hv : L[v]? = some l) (hk : k < l.length) (ls' : List Int)
    (h0 : l.length = 1 → ls' = ls.set v (-1)) (h1 : l.length ≠ 1 → (ls[v]? = some ((l.getD k 0 : Nat) : Int) → ls' = ls.set v ((l.getD (sc l.length k) 0 : Nat) : Int)) ∧ (ls[v]? ≠ some ((l.getD k 0 : Nat) : Int) → ls' = ls)) :
    Rel E (remL L (l.getD k 0)) (setO (setP (setN D (l.getD (pc l.length k) 0) ((l.getD (sc l.length k) 0 : Nat) : Int)) (l.getD (sc l.length k) 0) ((l.getD (pc l.length k) 0 : Nat) : Int)) (l.getD k 0) (-1)) ls' (mn.set v (l.length - 1 : Nat)) := by
  have hvl : v < L.length := (List.getElem?_eq_some_iff.1 hv).1
  have hnd := h.wf.nd hv
  have hsk := sc_lt hk
  have hpk := pc_lt hk
  have hfil : l.filter (· != l.getD k 0) = l.take k ++ l.drop (k + 1) := by rw [getD_at hk]; exact filter_at hnd hk
  have hlen : (l.take k ++ l.drop (k + 1)).length = l.length - 1 := by simp; omega
  have hinj : ∀ i j, i < l.length → j < l.length → (l.getD i 0 = l.getD j 0 ↔ i = j) := fun i j hi hj => ⟨getD_inj hnd hi hj, fun e => by rw [e]⟩
  have hother : ∀ (u : Nat) (m : List Nat), L[u]? = some m → u ≠ v → ∀ i, i < l.length → l.getD i 0 ∉ m := fun u m hu hne i hi hm => hne (h.wf.one hu hv hm (getD_mem hi))
  have hg : ∀ (u : Nat), (remL L (l.getD k 0))[u]? = if u = v then some (l.take k ++ l.drop (k + 1)) else L[u]? := by
    intro u
    rw [remL_get]
    by_cases e : u = v
    · subst e; rw [hv, if_pos rfl, Option.map_some, hfil]
    · rw [if_neg e]
      cases hu : L[u]? with
      | none => rfl
      | some m =>
        rw [Option.map_some, List.filter_eq_self.2]
        intro x hx
        simp only [bne_iff_ne]
        rintro rfl
        exact hother u m hu e k hk hx
  have hlsl : ls'.length = ls.length := by
    by_cases e : l.length = 1
    · rw [h0 e, List.length_set]
    · by_cases e2 : ls[v]? = some ((l.getD k 0 : Nat) : Int)
      · rw [(h1 e).1 e2, List.length_set]
      · rw [(h1 e).2 e2]
  have hlsu : ∀ u, u ≠ v → ls'[u]? = ls[u]? := by
    intro u hu
    by_cases e : l.length = 1
    · rw [h0 e, set_get (by rw [h.ll]; exact hvl), if_neg hu]
    · by_cases e2 : ls[v]? = some ((l.getD k 0 : Nat) : Int)
      · rw [(h1 e).1 e2, set_get (by rw [h.ll]; exact hvl), if_neg hu]
      · rw [(h1 e).2 e2]
  refine ⟨remL_wf h.wf, by rw [setO_length, setP_length, setN_length, h.dl], by rw [hlsl, remL_length, h.ll], by rw [List.length_set, remL_length, h.ml], fun u m hu i hil => ?_, fun x hx hs => ?_, fun u hu => ?_, fun u m hu hl => ?_, fun u m hu => ?_⟩
  · rw [hg] at hu
    split at hu
    · rename_i e
      subst e
      cases hu
      rw [hlen] at hil ⊢
      simp only [getD_del l k _ hk, setO_get, setP_get, setN_get]
      by_cases hik : i < k
      · have hi' : i < l.length := by omega
        rw [if_pos hik, h.cyc u l hv i hi']
        simp only [hinj _ _ hk hi', hinj _ _ hsk hi', hinj _ _ hpk hi']
        rw [if_neg (show ¬ k = i by omega)]
        have e1 : (if sc (l.length - 1) i < k then l.getD (sc (l.length - 1) i) 0 else l.getD (sc (l.length - 1) i + 1) 0) = if pc l.length k = i then l.getD (sc l.length k) 0 else l.getD (sc l.length i) 0 := by
          unfold sc pc
          rw [if_neg (show ¬ k = 0 by omega)]
          by_cases h3 : k = i + 1
          · rw [if_pos (show k - 1 = i by omega)]
            by_cases h4 : i + 1 = l.length - 1
            · rw [if_pos h4, if_pos (by omega), if_pos (by omega)]
            · rw [if_neg h4, if_neg (by omega), if_neg (by omega), h3]
          · rw [if_neg (show ¬ k - 1 = i by omega), if_neg (show ¬ i + 1 = l.length - 1 by omega), if_pos (show i + 1 < k by omega), if_neg (show ¬ i + 1 = l.length by omega)]
        have e2 : (if pc (l.length - 1) i < k then l.getD (pc (l.length - 1) i) 0 else l.getD (pc (l.length - 1) i + 1) 0) = if sc l.length k = i then l.getD (pc l.length k) 0 else l.getD (pc l.length i) 0 := by
          unfold sc pc
          rw [if_neg (show ¬ k = 0 by omega)]
          by_cases h3 : i = 0
          · subst h3
            simp only [if_true]
            by_cases h4 : k + 1 = l.length
            · rw [if_pos h4, if_pos rfl, if_pos (by omega)]; congr 1; omega
            · rw [if_neg h4, if_neg (by omega), if_neg (by omega)]; congr 1; omega
          · rw [if_neg h3, if_pos (by omega), if_neg h3, if_neg (by split <;> omega)]
        rw [e1, e2]
        split <;> split <;> simp_all
      · have hi' : i + 1 < l.length := by omega
        rw [if_neg hik, h.cyc u l hv (i + 1) hi']
        simp only [hinj _ _ hk hi', hinj _ _ hsk hi', hinj _ _ hpk hi']
        rw [if_neg (show ¬ k = i + 1 by omega)]
        have e1 : (if sc (l.length - 1) i < k then l.getD (sc (l.length - 1) i) 0 else l.getD (sc (l.length - 1) i + 1) 0) = if pc l.length k = i + 1 then l.getD (sc l.length k) 0 else l.getD (sc l.length (i + 1)) 0 := by
          unfold sc pc
          by_cases h3 : i + 1 = l.length - 1
          · rw [if_pos h3]
            by_cases h4 : k = 0
            · subst h4
              rw [if_pos rfl, if_neg (by omega), if_pos (by omega)]
              by_cases h5 : 0 + 1 = l.length
              · omega
              · rw [if_neg h5]
            · rw [if_neg h4, if_pos (by omega), if_neg (by omega), if_pos (by omega)]
          · rw [if_neg h3, if_neg (by omega), if_neg (show ¬ i + 1 + 1 = l.length by omega)]
            rw [if_neg (by split <;> omega)]
        have e2 : (if pc (l.length - 1) i < k then l.getD (pc (l.length - 1) i) 0 else l.getD (pc (l.length - 1) i + 1) 0) = if sc l.length k = i + 1 then l.getD (pc l.length k) 0 else l.getD (pc l.length (i + 1)) 0 := by
          unfold sc pc
          rw [if_neg (show ¬ i + 1 = 0 by omega)]
          by_cases h3 : i = k
          · subst h3
            rw [if_neg (show ¬ i + 1 = l.length by omega), if_pos rfl]
            by_cases h4 : i = 0
            · subst h4
              rw [if_pos rfl, if_neg (by omega), if_pos rfl]; congr 1; omega
            · rw [if_neg h4, if_pos (by omega), if_neg h4]
          · rw [if_neg (show ¬ i = 0 by omega), if_neg (show ¬ i - 1 < k by omega), if_neg (by split <;> omega)]; congr 1; omega
        rw [e1, e2]
        split <;> split <;> simp_all
    · rename_i hne
      have hn : ∀ j, j < l.length → l.getD j 0 ≠ m.getD i 0 := fun j hj e => hother u m hu hne j hj (e ▸ getD_mem hil)
      rw [setO_get, if_neg (hn _ hk), setP_get, if_neg (hn _ hsk), setN_get, if_neg (hn _ hpk)]
      exact h.cyc u m hu i hil
  · rw [remL_stands] at hs
    by_cases hxk : l.getD k 0 = x
    · rw [setO_get, if_pos hxk, setP_get, setN_get, ← hxk, h.cyc v l hv k hk]
      split <;> split <;> exact ⟨_, _, rfl⟩
    · have hns : ¬ Stands L x := fun e => hs ⟨fun e => hxk e.symm, e⟩
      have hn : ∀ j, j < l.length → l.getD j 0 ≠ x := fun j hj e => hns (e ▸ stands_at hv (getD_mem hj))
      rw [setO_get, if_neg hxk, setP_get, if_neg (hn _ hsk), setN_get, if_neg (hn _ hpk)]
      exact h.off x hx hns
  · rw [hg] at hu
    split at hu
    · rename_i e
      subst e
      have e1 : l.length = 1 := by have := congrArg List.length (Option.some.inj hu); rw [hlen] at this; simp at this; omega
      rw [h0 e1, set_get (by rw [h.ll]; exact hvl), if_pos rfl]
    · rename_i e
      rw [hlsu u e]
      exact h.least0 u hu
  · rw [hg] at hu
    split at hu
    · rename_i e
      subst e
      cases hu
      have e1 : l.length ≠ 1 := fun e => hl (List.eq_nil_of_length_eq_zero (by rw [hlen]; omega))
      have hmem : ∀ j, j < l.length → j ≠ k → l.getD j 0 ∈ l.take k ++ l.drop (k + 1) := fun j hj hne => by
        rw [← hfil, List.mem_filter]
        refine ⟨getD_mem hj, ?_⟩
        simp only [bne_iff_ne, ne_eq, hinj _ _ hj hk]
        exact hne
      by_cases e2 : ls[u]? = some ((l.getD k 0 : Nat) : Int)
      · refine ⟨_, hmem _ hsk (by unfold sc; split <;> omega), ?_⟩
        rw [(h1 e1).1 e2, set_get (by rw [h.ll]; exact hvl), if_pos rfl]
      · obtain ⟨x, hx, hx2⟩ := h.least1 u l hv (by rintro rfl; simp at hk)
        obtain ⟨j, hj, rfl⟩ := mem_getD hx
        refine ⟨_, hmem j hj (fun e => e2 (e ▸ hx2)), ?_⟩
        rw [(h1 e1).2 e2]
        exact hx2
    · rename_i e
      rw [hlsu u e]
      exact h.least1 u m hu hl
  · rw [hg] at hu
    rw [set_get (by rw [h.ml]; exact hvl)]
    split at hu
    · rename_i e
      cases hu
      rw [if_pos e, hlen]
    · rename_i e
      rw [if_neg e]
      exact h.many u m hu
end
theorem mod2 {a n : Nat} (h : a < 2 * n) : a % n = if a < n then a else a - n := by
  split
  · rename_i h1; exact Nat.mod_eq_of_lt h1
  · rename_i h1
    rw [show a = (a - n) + n by omega, Nat.add_mod_right, Nat.mod_eq_of_lt (by omega)]; omega
theorem step_mod {n i k : Nat} (hi : i < n) (hk : k ≤ n) : sc n ((i + k) % n) = (i + (k + 1)) % n := by
  have h := Nat.mod_lt (i + k) (show 0 < n by omega)
  rw [sc_mod h, Nat.mod_add_mod, Nat.add_assoc]
theorem mod_ne {n i k : Nat} (hi : i < n) (h0 : 0 < k) (hk : k < n) : (i + k) % n ≠ i := by
  rw [mod2 (by omega)]; split <;> omega
theorem mod_all {n i j : Nat} (hi : i < n) (hj : j < n) : ∃ k, k < n ∧ (i + k) % n = j := by
  by_cases h : i ≤ j
  · exact ⟨j - i, by omega, by rw [mod2 (by omega), if_pos (by omega)]; omega⟩
  · exact ⟨j + n - i, by omega, by rw [mod2 (by omega), if_neg (by omega)]; omega⟩

/-- A cycle from its m-th on. -/
def rotL (l : List Nat) (m : Nat) : List Nat := l.drop m ++ l.take m
theorem rotL_length {l : List Nat} {m : Nat} (h : m ≤ l.length) : (rotL l m).length = l.length := by simp [rotL]; omega
theorem rotL_getD {l : List Nat} {m j : Nat} (hm : m < l.length) (hj : j < l.length) : (rotL l m).getD j 0 = l.getD ((m + j) % l.length) 0 := by
  simp only [rotL, List.getD_eq_getElem?_getD]
  rw [mod2 (by omega)]
  by_cases h : m + j < l.length
  · rw [if_pos h, List.getElem?_append_left (by simp; omega), List.getElem?_drop]
  · rw [if_neg h, List.getElem?_append_right (by simp; omega), List.length_drop, List.getElem?_take, if_pos (by omega)]
    congr 2; omega
theorem rotL_mem {l : List Nat} {m x : Nat} : x ∈ rotL l m ↔ x ∈ l := by
  have h : x ∈ rotL l m ↔ x ∈ l.take m ++ l.drop m := by unfold rotL; rw [List.mem_append, List.mem_append, or_comm]
  rw [h, List.take_append_drop]
theorem rotL_perm (l : List Nat) (m : Nat) : (rotL l m).Perm l := by
  have : (rotL l m).Perm (l.take m ++ l.drop m) := List.perm_append_comm
  rwa [List.take_append_drop] at this

/-- Where the least one is. -/
def argm (l : List Nat) : Nat := l.findIdx fun x => l.all fun y => decide (x ≤ y)
theorem least_ex : ∀ {l : List Nat}, l ≠ [] → ∃ x ∈ l, ∀ y ∈ l, x ≤ y
  | [], h => absurd rfl h
  | [a], _ => ⟨a, by simp, by simp⟩
  | a :: b :: l, _ => by
    obtain ⟨x, hx, h⟩ := least_ex (l := b :: l) (by simp)
    by_cases e : a ≤ x
    · exact ⟨a, by simp, fun y hy => by
        rcases List.mem_cons.1 hy with rfl | hy
        · exact Nat.le_refl _
        · exact Nat.le_trans e (h y hy)⟩
    · exact ⟨x, List.mem_cons_of_mem _ hx, fun y hy => by
        rcases List.mem_cons.1 hy with rfl | hy
        · omega
        · exact h y hy⟩
theorem argm_lt {l : List Nat} (h : l ≠ []) : argm l < l.length := by
  obtain ⟨x, hx, hl⟩ := least_ex h
  exact List.findIdx_lt_length_of_exists ⟨x, hx, by simpa using hl⟩
theorem argm_le {l : List Nat} (h : l ≠ []) : ∀ y ∈ l, l.getD (argm l) 0 ≤ y := by
  have h1 := argm_lt h
  have h2 := List.findIdx_getElem (w := h1)
  rw [getD_at h1]
  intro y hy
  have h3 := List.all_eq_true.1 h2 y hy
  exact of_decide_eq_true h3
theorem argm_eq {l : List Nat} (hn : l.Nodup) {m : Nat} (hm : m < l.length) (h : ∀ y ∈ l, l.getD m 0 ≤ y) : argm l = m := by
  have h0 : l ≠ [] := by rintro rfl; simp at hm
  have h1 := argm_lt h0
  exact getD_inj hn h1 hm (Nat.le_antisymm (argm_le h0 _ (getD_mem hm)) (h _ (getD_mem h1)))
/-- A cycle, the least one first. -/
def rnd (l : List Nat) : List Nat := rotL l (argm l)
theorem argm_le_len (l : List Nat) : argm l ≤ l.length := List.findIdx_le_length
theorem rnd_length (l : List Nat) : (rnd l).length = l.length := rotL_length (argm_le_len l)
theorem rnd_mem {l : List Nat} {x : Nat} : x ∈ rnd l ↔ x ∈ l := rotL_mem
theorem rnd_perm (l : List Nat) : (rnd l).Perm l := rotL_perm _ _
theorem rnd_nil : rnd [] = [] := rfl
theorem rnd_getD {l : List Nat} {j : Nat} (hj : j < l.length) : (rnd l).getD j 0 = l.getD ((argm l + j) % l.length) 0 := rotL_getD (argm_lt (by rintro rfl; simp at hj)) hj
theorem rnd_head {l : List Nat} (h : l ≠ []) : (rnd l).getD 0 0 = l.getD (argm l) 0 := by
  have := argm_lt h
  rw [rnd_getD (by omega), Nat.add_zero, Nat.mod_eq_of_lt this]
theorem rnd_least {l : List Nat} {j : Nat} (hj : j < l.length) : (rnd l).getD 0 0 ≤ (rnd l).getD j 0 := by
  have h : l ≠ [] := by rintro rfl; simp at hj
  rw [rnd_head h]
  exact argm_le h _ (rnd_mem.1 (getD_mem (by rw [rnd_length]; exact hj)))

/-- The other dart of an edge. -/
def tw (d : Nat) : Nat := if d % 2 = 1 then d - 1 else d + 1
theorem tw_tw (d : Nat) : tw (tw d) = d := by unfold tw; split <;> split <;> omega
theorem tw_ne (d : Nat) : tw d ≠ d := by unfold tw; split <;> omega
theorem tw_lt {d E : Nat} (h : d < 2 * E) : tw d < 2 * E := by unfold tw; split <;> omega
theorem tw_even (e : Nat) : tw (2 * e) = 2 * e + 1 := by unfold tw; rw [if_neg (by omega)]
theorem tw_odd (e : Nat) : tw (2 * e + 1) = 2 * e := by unfold tw; rw [if_pos (by omega)]; omega
theorem tw_div (d : Nat) : tw d / 2 = d / 2 := by unfold tw; split <;> omega
theorem div_eq {d e : Nat} : d / 2 = e ↔ d = 2 * e ∨ d = 2 * e + 1 := by omega
/-- All that stand, stand with their other darts. -/
structure Good (E : Nat) (L : List (List Nat)) : Prop extends WF E L where
  twin : ∀ d, Stands L d → Stands L (tw d)
theorem Good.twin_iff {E : Nat} {L : List (List Nat)} (h : Good E L) (d : Nat) : Stands L (tw d) ↔ Stands L d := ⟨fun k => by have := h.twin _ k; rwa [tw_tw] at this, h.twin d⟩
theorem Good.pair {E : Nat} {L : List (List Nat)} (h : Good E L) (e : Nat) : Stands L (2 * e + 1) ↔ Stands L (2 * e) := by have := h.twin_iff (2 * e); rwa [tw_even] at this

/-- Is there such a corner? -/
def chkErr (L : List (List Nat)) (v b : Int) : Nat :=
  if v < 0 ∨ (L.length : Int) ≤ v then 12 else if b = -1 ∧ L.getD v.toNat [] = [] then 0 else if b < 0 ∨ b.toNat ∉ L.getD v.toNat [] then 13 else 0
theorem chk_ok {L : List (List Nat)} {v b : Int} (h : chkErr L v b = 0) : ∃ n : Nat, v = n ∧ ∃ l, L[n]? = some l ∧ (b = -1 ∧ l = [] ∨ ∃ m : Nat, b = m ∧ m ∈ l) := by
  unfold chkErr at h
  split at h
  · simp at h
  · rename_i h1
    have hv : v.toNat < L.length := by omega
    refine ⟨v.toNat, by omega, _, List.getElem?_eq_getElem hv, ?_⟩
    have hg : L.getD v.toNat [] = L[v.toNat] := by rw [List.getD_eq_getElem?_getD, List.getElem?_eq_getElem hv]; rfl
    rw [hg] at h
    split at h
    · rename_i h2; exact .inl h2
    · split at h
      · simp at h
      · rename_i h3
        refine .inr ⟨b.toNat, by omega, ?_⟩
        by_cases hm : b.toNat ∈ L[v.toNat]
        · exact hm
        · exact absurd (.inr hm) h3
/-- An edge laid; an edge taken away. -/
def layErr (E : Nat) (L : List (List Nat)) (e : Int) (a b : Int × Int) : Nat :=
  if e < 0 ∨ (E : Int) ≤ e then 12 else if Stands L (2 * e.toNat) then 20 else if chkErr L a.1 a.2 ≠ 0 then chkErr L a.1 a.2 else chkErr L b.1 b.2
def layL (L : List (List Nat)) (e : Nat) (a b : Int × Int) : List (List Nat) := putL (putL L (2 * e) a.1.toNat a.2) (2 * e + 1) b.1.toNat b.2
def lay (E : Nat) (L : List (List Nat)) (e : Int) (a b : Int × Int) : List (List Nat) := if layErr E L e a b = 0 then layL L e.toNat a b else L
def liftErr (E : Nat) (L : List (List Nat)) (e : Int) : Nat := if e < 0 ∨ (E : Int) ≤ e then 12 else if Stands L (2 * e.toNat) then 0 else 13
def liftL (L : List (List Nat)) (e : Nat) : List (List Nat) := remL (remL L (2 * e)) (2 * e + 1)
def lift (E : Nat) (L : List (List Nat)) (e : Int) : List (List Nat) := if liftErr E L e = 0 then liftL L e.toNat else L
theorem lay_length (E : Nat) (L : List (List Nat)) (e : Int) (a b : Int × Int) : (lay E L e a b).length = L.length := by
  unfold lay layL; split
  · rw [putL_length, putL_length]
  · rfl
theorem lift_length (E : Nat) (L : List (List Nat)) (e : Int) : (lift E L e).length = L.length := by
  unfold lift liftL; split
  · rw [remL_length, remL_length]
  · rfl
theorem chk_lt {L : List (List Nat)} {v b : Int} (h : chkErr L v b = 0) : v.toNat < L.length := by
  obtain ⟨n, rfl, l, hl, _⟩ := chk_ok h
  exact (List.getElem?_eq_some_iff.1 hl).1
theorem lay_stands {L : List (List Nat)} {e : Nat} {a b : Int × Int} (ha : chkErr L a.1 a.2 = 0) (hb : chkErr L b.1 b.2 = 0) {x : Nat} : Stands (layL L e a b) x ↔ x / 2 = e ∨ Stands L x := by
  unfold layL
  rw [putL_stands (by rw [putL_length]; exact chk_lt hb), putL_stands (chk_lt ha), div_eq]
  constructor
  · rintro (h | h | h)
    · exact .inl (.inr h)
    · exact .inl (.inl h)
    · exact .inr h
  · rintro ((h | h) | h)
    · exact .inr (.inl h)
    · exact .inl h
    · exact .inr (.inr h)
theorem lift_stands {L : List (List Nat)} {e x : Nat} : Stands (liftL L e) x ↔ x / 2 ≠ e ∧ Stands L x := by
  unfold liftL
  rw [remL_stands, remL_stands, ne_eq, ne_eq, ne_eq, div_eq]
  constructor
  · rintro ⟨h1, h2, h3⟩
    exact ⟨fun h => h.elim h2 h1, h3⟩
  · rintro ⟨h1, h3⟩
    exact ⟨fun h => h1 (.inr h), fun h => h1 (.inl h), h3⟩
theorem Good.lay {E : Nat} {L : List (List Nat)} (h : Good E L) (e : Int) (a b : Int × Int) : Good E (lay E L e a b) := by
  unfold Proofs.YtdplphhlclhmfaaDoor.lay
  split
  · rename_i h0
    unfold layErr at h0
    split at h0
    · simp at h0
    · rename_i h1
      split at h0
      · simp at h0
      · rename_i h2
        split at h0
        · exact absurd h0 ‹_›
        · rename_i h3
          have ha : chkErr L a.1 a.2 = 0 := by simpa using h3
          refine ⟨putL_wf (putL_wf h.toWF (by omega) h2 (chk_lt ha)) (by omega) (fun hs => ?_) (by rw [putL_length]; exact chk_lt h0), fun d hd => ?_⟩
          · rw [putL_stands (chk_lt ha)] at hs
            rcases hs with hs | hs
            · omega
            · exact h2 ((h.pair _).1 hs)
          · rw [lay_stands ha h0] at hd ⊢
            rw [tw_div]
            exact hd.imp_right (h.twin d)
  · exact h
theorem Good.lift {E : Nat} {L : List (List Nat)} (h : Good E L) (e : Int) : Good E (lift E L e) := by
  unfold Proofs.YtdplphhlclhmfaaDoor.lift
  split
  · refine ⟨remL_wf (remL_wf h.toWF), fun d hd => ?_⟩
    rw [lift_stands] at hd ⊢
    rw [tw_div]
    exact ⟨hd.1, h.twin d hd.2⟩
  · exact h
theorem Good.new (E v : Nat) : Good E (List.replicate v []) := by
  have hns : ∀ d, ¬ Stands (List.replicate v []) d := fun d hd => by
    obtain ⟨u, l, hu, hm⟩ := stands_iff.1 hd
    rw [List.getElem?_replicate] at hu
    split at hu
    · cases hu; simp at hm
    · cases hu
  refine ⟨⟨fun l hl d hd => ?_, ?_⟩, fun d hd => absurd hd (hns d)⟩
  · rw [(List.mem_replicate.1 hl).2] at hd; simp at hd
  · rw [show (List.replicate v ([] : List Nat)).flatten = [] by simp]; exact List.nodup_nil
def vtx (L : List (List Nat)) (d : Nat) : Nat := L.findIdx fun l => decide (d ∈ l)
def pos (L : List (List Nat)) (d : Nat) : Nat := (L.getD (vtx L d) []).idxOf d
def nxt (L : List (List Nat)) (d : Nat) : Nat := (L.getD (vtx L d) []).getD (sc (L.getD (vtx L d) []).length (pos L d)) 0
def prv (L : List (List Nat)) (d : Nat) : Nat := (L.getD (vtx L d) []).getD (pc (L.getD (vtx L d) []).length (pos L d)) 0
theorem getD_some {L : List (List Nat)} {v : Nat} {l : List Nat} (h : L[v]? = some l) : L.getD v [] = l := by rw [List.getD_eq_getElem?_getD, h]; rfl
theorem some_getD {L : List (List Nat)} {v : Nat} (h : v < L.length) : L[v]? = some (L.getD v []) := by rw [List.getD_eq_getElem?_getD, List.getElem?_eq_getElem h]; rfl
theorem idx_at {l : List Nat} (h : l.Nodup) {i : Nat} (hi : i < l.length) : l.idxOf (l.getD i 0) = i := by
  have hm : l.getD i 0 ∈ l := getD_mem hi
  have hlt := List.idxOf_lt_length_of_mem hm
  have := List.getElem_idxOf hlt
  exact getD_inj h hlt hi (by rw [getD_at hlt]; exact this)
section
variable {E : Nat} {L : List (List Nat)}
theorem WF.vtx (h : WF E L) {v : Nat} {l : List Nat} {d : Nat} (hv : L[v]? = some l) (hd : d ∈ l) : vtx L d = v := by
  have hvl := (List.getElem?_eq_some_iff.1 hv).1
  have hlt : Proofs.YtdplphhlclhmfaaDoor.vtx L d < L.length := List.findIdx_lt_length_of_exists ⟨l, List.mem_iff_getElem?.2 ⟨v, hv⟩, by simpa using hd⟩
  have h2 := List.findIdx_getElem (w := hlt)
  have h3 : d ∈ L[Proofs.YtdplphhlclhmfaaDoor.vtx L d] := of_decide_eq_true h2
  exact h.one (List.getElem?_eq_getElem hlt) hv h3 hd
theorem WF.at_ (h : WF E L) {v : Nat} {l : List Nat} {i : Nat} (hv : L[v]? = some l) (hi : i < l.length) :
    Proofs.YtdplphhlclhmfaaDoor.vtx L (l.getD i 0) = v ∧ pos L (l.getD i 0) = i ∧ nxt L (l.getD i 0) = l.getD (sc l.length i) 0 ∧ prv L (l.getD i 0) = l.getD (pc l.length i) 0 := by
  have e1 := h.vtx hv (getD_mem hi)
  have e2 : pos L (l.getD i 0) = i := by unfold pos; rw [e1, getD_some hv]; exact idx_at (h.nd hv) hi
  refine ⟨e1, e2, ?_, ?_⟩
  · unfold nxt; rw [e2, e1, getD_some hv]
  · unfold prv; rw [e2, e1, getD_some hv]
theorem stands_ex {d : Nat} (h : Stands L d) : ∃ (v : Nat) (l : List Nat) (i : Nat), L[v]? = some l ∧ i < l.length ∧ l.getD i 0 = d := by
  obtain ⟨v, l, hv, hm⟩ := stands_iff.1 h
  obtain ⟨i, hi, e⟩ := mem_getD hm
  exact ⟨v, l, i, hv, hi, e⟩
theorem WF.nxt_stands (h : WF E L) {d : Nat} (hd : Stands L d) : Stands L (nxt L d) := by
  obtain ⟨v, l, i, hv, hi, rfl⟩ := stands_ex hd
  rw [(h.at_ hv hi).2.2.1]
  exact stands_at hv (getD_mem (sc_lt hi))
theorem WF.prv_stands (h : WF E L) {d : Nat} (hd : Stands L d) : Stands L (prv L d) := by
  obtain ⟨v, l, i, hv, hi, rfl⟩ := stands_ex hd
  rw [(h.at_ hv hi).2.2.2]
  exact stands_at hv (getD_mem (pc_lt hi))
theorem WF.prv_nxt (h : WF E L) {d : Nat} (hd : Stands L d) : prv L (nxt L d) = d := by
  obtain ⟨v, l, i, hv, hi, rfl⟩ := stands_ex hd
  rw [(h.at_ hv hi).2.2.1, (h.at_ hv (sc_lt hi)).2.2.2, pc_sc hi]
theorem WF.nxt_prv (h : WF E L) {d : Nat} (hd : Stands L d) : nxt L (prv L d) = d := by
  obtain ⟨v, l, i, hv, hi, rfl⟩ := stands_ex hd
  rw [(h.at_ hv hi).2.2.2, (h.at_ hv (pc_lt hi)).2.2.1, sc_pc hi]
theorem WF.vtx_nxt (h : WF E L) {d : Nat} (hd : Stands L d) : Proofs.YtdplphhlclhmfaaDoor.vtx L (nxt L d) = Proofs.YtdplphhlclhmfaaDoor.vtx L d := by
  obtain ⟨v, l, i, hv, hi, rfl⟩ := stands_ex hd
  rw [(h.at_ hv hi).2.2.1, (h.at_ hv (sc_lt hi)).1, (h.at_ hv hi).1]
theorem WF.vtx_lt (h : WF E L) {d : Nat} (hd : Stands L d) : Proofs.YtdplphhlclhmfaaDoor.vtx L d < L.length := by
  obtain ⟨v, l, i, hv, hi, rfl⟩ := stands_ex hd
  rw [(h.at_ hv hi).1]
  exact (List.getElem?_eq_some_iff.1 hv).1
end
/-- What asking for a dart answers. -/
def dErr (E : Nat) (L : List (List Nat)) (d : Int) : Nat := if d < 0 ∨ (2 * E : Int) ≤ d then 12 else if Stands L d.toNat then 0 else 13
theorem dErr_stands {E : Nat} {L : List (List Nat)} {d : Nat} (h : WF E L) (hd : Stands L d) : dErr E L d = 0 := by
  have := h.bdS hd
  unfold dErr
  rw [if_neg (by omega), Int.toNat_natCast, if_pos hd]
theorem dErr_none {E : Nat} {L : List (List Nat)} {d : Nat} (h : d < 2 * E) (hd : ¬ Stands L d) : dErr E L d = 13 := by
  unfold dErr
  rw [if_neg (by omega), Int.toNat_natCast, if_neg hd]
/-- At a (nil or not) lie so many elements of s cells each: the cells are xs. -/
def Rd (w : World) (a : Option Addr) (xs : List Value) : Prop :=
  xs = [] ∨ ∃ b off, a = some ⟨b, off, none⟩ ∧ ∀ i, i < xs.length → w.cell? ⟨b, off + i, none⟩ = xs[i]?
theorem Rd.at_ {w : World} {a : Option Addr} {xs : List Value} (h : Rd w a xs) (i : Nat) (hi : i < xs.length) :
    ∃ b off, a = some ⟨b, off, none⟩ ∧ ∀ j, j < xs.length → w.cell? ⟨b, off + j, none⟩ = xs[j]? := by
  rcases h with rfl | h
  · simp at hi
  · exact h
theorem Rd.below {w w' : World} {a : Option Addr} {xs : List Value} (h : Rd w a xs) (hk : ∀ b off, a = some ⟨b, off, none⟩ → b < w.heap.size → w'.heap[b]? = w.heap[b]?) : Rd w' a xs := by
  rcases h with rfl | ⟨b, off, rfl, h⟩
  · exact .inl rfl
  · refine .inr ⟨b, off, rfl, fun i hi => ?_⟩
    rw [← h i hi]
    have hc := h i hi
    rw [List.getElem?_eq_getElem hi] at hc
    exact World.cell?_of_block (hk b off rfl (World.block_lt_of_cell? w _ hc))
theorem Rd.kept {w w' : World} {a : Option Addr} {xs : List Value} {fp : Nat → Prop} (h : Rd w a xs) (hk : Keeps fp w w') (hn : ∀ b off, a = some ⟨b, off, none⟩ → ¬ fp b) : Rd w' a xs :=
  h.below fun b off e hb => hk.block b hb (hn b off e)
theorem Rd.keep {w w' : World} {a : Option Addr} {xs : List Value} (h : Rd w a xs) (hk : Keeps (fun _ => False) w w') : Rd w' a xs := h.kept hk fun _ _ _ => id
theorem Rd.of_own {w : World} {base : Nat} {e : TypeId} {v : Value} {n : Nat} {xs : List Value} (h : w.ownsRow base e 1 v n xs) : ∃ a c, v = .slice a n c ∧ Rd w a xs ∧ n ≤ c ∧ (∀ b off, a = some ⟨b, off, none⟩ → v.ownBlock = some b) := by
  rcases h.2 with ⟨rfl, rfl⟩ | ⟨g, cap, cur, rfl, hb, hgg, hnc, hcm, hcs, htake⟩
  · exact ⟨none, 0, rfl, .inl (List.eq_nil_of_length_eq_zero (by simpa using h.1)), Nat.le_refl _, by simp⟩
  · refine ⟨_, cap, rfl, .inr ⟨g, 0, rfl, fun i hi => ?_⟩, hnc, fun b off e => by simp at e; simp [Value.ownBlock, e.1]⟩
    rw [← htake, List.getElem?_take, if_pos (by have := h.1; omega), Nat.zero_add, cell_of_row w g i cur e (0, 0) hgg]
    simp
def dVals (D : List Dart) : List Value := D.flatMap fun q => [Value.int .i32 q.1, .int .i32 q.2.1, .int .i32 q.2.2]
def i32s (l : List Int) : List Value := l.map fun z => Value.int .i32 z
theorem i32s_get {l : List Int} {i : Nat} {x : Int} (h : l[i]? = some x) : (i32s l).toArray[i]? = some (.int .i32 x) := by simp [i32s, h]
theorem i32s_set (l : List Int) (i : Nat) (x : Int) : (i32s l).toArray.setIfInBounds i (.int .i32 x) = (i32s (l.set i x)).toArray := by simp [i32s, List.map_set]
theorem i32s_length (l : List Int) : (i32s l).length = l.length := by simp [i32s]
theorem dVals_length (D : List Dart) : (dVals D).length = D.length * 3 := by
  induction D with
  | nil => rfl
  | cons q D ih =>
    have : (dVals (q :: D)).length = 3 + (dVals D).length := by simp [dVals]; omega
    rw [this, ih, List.length_cons, Nat.succ_mul]; omega
theorem dVals_get {D : List Dart} {i : Nat} {q : Dart} (h : D[i]? = some q) : (dVals D).toArray[i * 3]? = some (.int .i32 q.1) ∧ (dVals D).toArray[i * 3 + 1]? = some (.int .i32 q.2.1) ∧ (dVals D).toArray[i * 3 + 2]? = some (.int .i32 q.2.2) := by
  induction D generalizing i with
  | nil => simp at h
  | cons a D ih =>
    cases i with
    | zero => simp at h; subst h; simp [dVals]
    | succ i =>
      have := ih (by simpa using h)
      have e : ∀ j, (dVals (a :: D)).toArray[j + 3]? = (dVals D).toArray[j]? := fun j => by simp [dVals]
      rw [show (i + 1) * 3 = i * 3 + 3 by omega, show i * 3 + 3 + 1 = i * 3 + 1 + 3 by omega, show i * 3 + 3 + 2 = i * 3 + 2 + 3 by omega, e, e, e]
      exact this
theorem dVals_setAt (D : List Dart) (i j : Nat) (hj : j < 3) (x : Int) : (dVals D).set (i * 3 + j) (.int .i32 x) = dVals (if j = 0 then setO D i x else if j = 1 then setN D i x else setP D i x) := by
  induction D generalizing i with
  | nil => simp [dVals, setO, setN, setP]
  | cons a D ih =>
    have hj3 : j = 0 ∨ j = 1 ∨ j = 2 := by omega
    cases i with
    | zero => rcases hj3 with rfl | rfl | rfl <;> simp [dVals, setO, setN, setP]
    | succ i =>
      have e : (dVals (a :: D)).set ((i + 1) * 3 + j) (.int .i32 x) = [Value.int .i32 a.1, .int .i32 a.2.1, .int .i32 a.2.2] ++ (dVals D).set (i * 3 + j) (.int .i32 x) := by
        rw [show (i + 1) * 3 + j = i * 3 + j + 3 by omega]
        simp [dVals]
      rw [e, ih]
      rcases hj3 with rfl | rfl | rfl <;> simp [dVals, setO, setN, setP]
theorem dVals_setO (D : List Dart) (i : Nat) (x : Int) : (dVals D).toArray.setIfInBounds (i * 3) (.int .i32 x) = (dVals (setO D i x)).toArray := by
  have := dVals_setAt D i 0 (by decide) x
  simp only [Nat.add_zero, if_true] at this
  rw [← this]; simp
theorem dVals_setN (D : List Dart) (i : Nat) (x : Int) : (dVals D).toArray.setIfInBounds (i * 3 + 1) (.int .i32 x) = (dVals (setN D i x)).toArray := by
  have := dVals_setAt D i 1 (by decide) x
  simp at this
  simp [this]
theorem dVals_setP (D : List Dart) (i : Nat) (x : Int) : (dVals D).toArray.setIfInBounds (i * 3 + 2) (.int .i32 x) = (dVals (setP D i x)).toArray := by
  have := dVals_setAt D i 2 (by decide) x
  simp at this
  simp [this]
theorem set3 (D : List Dart) (i : Nat) (a b c : Int) : setP (setN (setO D i a) i b) i c = D.set i (a, b, c) := by
  apply List.ext_getElem?
  intro j
  rw [setP_get, setN_get, setO_get, List.getElem?_set]
  by_cases e : i = j
  · subst e
    simp
    by_cases h : i < D.length
    · simp [h]
    · rw [List.getElem?_eq_none (by omega)]; simp [h]
  · simp [e]

/-- Turns: their head at p, darts at g1, of each vertex one dart at g2 and how many at g3. -/
structure TX (w : World) (p g1 g2 g3 E V : Nat) (D : List Dart) (ls mn : List Int) : Prop where
  head : Blk w p #[.slice (some ⟨g1, 0, none⟩) (2 * E) (2 * E), .slice (some ⟨g2, 0, none⟩) V V, .slice (some ⟨g3, 0, none⟩) V V] 100
  b1 : Blk w g1 (dVals D).toArray 96
  b2 : Blk w g2 (i32s ls).toArray 21
  b3 : Blk w g3 (i32s mn).toArray 21
  d1 : p ≠ g1 ∧ p ≠ g2 ∧ p ≠ g3 ∧ g1 ≠ g2 ∧ g1 ≠ g3 ∧ g2 ≠ g3
def TX.own (p g1 g2 g3 : Nat) (k : Nat) : Prop := k = p ∨ k = g1 ∨ k = g2 ∨ k = g3
section
variable {w w' : World} {p g1 g2 g3 E V : Nat} {D : List Dart} {ls mn : List Int}
theorem TX.kept {fp : Nat → Prop} (h : TX w p g1 g2 g3 E V D ls mn) (hk : Keeps fp w w') (hd : ∀ k, TX.own p g1 g2 g3 k → ¬ fp k) : TX w' p g1 g2 g3 E V D ls mn :=
  ⟨h.head.kept hk (hd _ (.inl rfl)), h.b1.kept hk (hd _ (.inr (.inl rfl))), h.b2.kept hk (hd _ (.inr (.inr (.inl rfl)))), h.b3.kept hk (hd _ (.inr (.inr (.inr rfl)))), h.d1⟩
theorem TX.keep (h : TX w p g1 g2 g3 E V D ls mn) (hk : Keeps (fun _ => False) w w') : TX w' p g1 g2 g3 E V D ls mn := h.kept hk fun _ _ => id
theorem TX.lt (h : TX w p g1 g2 g3 E V D ls mn) (k : Nat) (hk : TX.own p g1 g2 g3 k) : k < w.heap.size := by
  rcases hk with rfl | rfl | rfl | rfl
  · exact h.head.lt
  · exact h.b1.lt
  · exact h.b2.lt
  · exact h.b3.lt
theorem TX.c0 (h : TX w p g1 g2 g3 E V D ls mn) : w.cell? ⟨p, 0, none⟩ = some (.slice (some ⟨g1, 0, none⟩) (2 * E) (2 * E)) := by rw [h.head.cell]; rfl
theorem TX.c1 (h : TX w p g1 g2 g3 E V D ls mn) : w.cell? ⟨p, 1, none⟩ = some (.slice (some ⟨g2, 0, none⟩) V V) := by rw [h.head.cell]; rfl
theorem TX.c2 (h : TX w p g1 g2 g3 E V D ls mn) : w.cell? ⟨p, 2, none⟩ = some (.slice (some ⟨g3, 0, none⟩) V V) := by rw [h.head.cell]; rfl
theorem TX.dart (h : TX w p g1 g2 g3 E V D ls mn) {d : Nat} {q : Dart} (hd : D[d]? = some q) :
    w.cell? ⟨g1, d * 3, none⟩ = some (.int .i32 q.1) ∧ w.cell? ⟨g1, d * 3 + 1, none⟩ = some (.int .i32 q.2.1) ∧ w.cell? ⟨g1, d * 3 + 2, none⟩ = some (.int .i32 q.2.2) := by
  rw [h.b1.cell, h.b1.cell, h.b1.cell]; exact dVals_get hd
theorem TX.lst (h : TX w p g1 g2 g3 E V D ls mn) {v : Nat} {x : Int} (hv : ls[v]? = some x) : w.cell? ⟨g2, v, none⟩ = some (.int .i32 x) := by rw [h.b2.cell]; exact i32s_get hv
theorem TX.mny (h : TX w p g1 g2 g3 E V D ls mn) {v : Nat} {x : Int} (hv : mn[v]? = some x) : w.cell? ⟨g3, v, none⟩ = some (.int .i32 x) := by rw [h.b3.cell]; exact i32s_get hv
theorem TX.f1 (h : TX w p g1 g2 g3 E V D ls mn) (i : Nat) : w.frozen? ⟨g1, i, none⟩ = false := h.b1.free i
theorem TX.f2 (h : TX w p g1 g2 g3 E V D ls mn) (i : Nat) : w.frozen? ⟨g2, i, none⟩ = false := h.b2.free i
theorem TX.f3 (h : TX w p g1 g2 g3 E V D ls mn) (i : Nat) : w.frozen? ⟨g3, i, none⟩ = false := h.b3.free i
theorem TX.at1 (h : TX w p g1 g2 g3 E V D ls mn) (i : Nat) (v : Value) {D' : List Dart} (e : (dVals D).toArray.setIfInBounds i v = (dVals D').toArray) : TX (w.setCell ⟨g1, i, none⟩ v) p g1 g2 g3 E V D' ls mn := by
  obtain ⟨e1, e2, e3, e4, e5, e6⟩ := h.d1
  exact ⟨h.head.set_other _ _ e1, by have := h.b1.set i v; rwa [e] at this, h.b2.set_other _ _ e4.symm, h.b3.set_other _ _ e5.symm, h.d1⟩
theorem TX.setO (h : TX w p g1 g2 g3 E V D ls mn) (d : Nat) (x : Int) : TX (w.setCell ⟨g1, d * 3, none⟩ (.int .i32 x)) p g1 g2 g3 E V (Proofs.YtdplphhlclhmfaaDoor.setO D d x) ls mn := h.at1 _ _ (dVals_setO D d x)
theorem TX.setN (h : TX w p g1 g2 g3 E V D ls mn) (d : Nat) (x : Int) : TX (w.setCell ⟨g1, d * 3 + 1, none⟩ (.int .i32 x)) p g1 g2 g3 E V (Proofs.YtdplphhlclhmfaaDoor.setN D d x) ls mn := h.at1 _ _ (dVals_setN D d x)
theorem TX.setP (h : TX w p g1 g2 g3 E V D ls mn) (d : Nat) (x : Int) : TX (w.setCell ⟨g1, d * 3 + 2, none⟩ (.int .i32 x)) p g1 g2 g3 E V (Proofs.YtdplphhlclhmfaaDoor.setP D d x) ls mn := h.at1 _ _ (dVals_setP D d x)
theorem TX.set3 (h : TX w p g1 g2 g3 E V D ls mn) (d : Nat) (a b c : Int) :
    TX (((w.setCell ⟨g1, d * 3, none⟩ (.int .i32 a)).setCell ⟨g1, d * 3 + 1, none⟩ (.int .i32 b)).setCell ⟨g1, d * 3 + 2, none⟩ (.int .i32 c)) p g1 g2 g3 E V (D.set d (a, b, c)) ls mn := by
  have := ((h.setO d a).setN d b).setP d c
  rwa [Proofs.YtdplphhlclhmfaaDoor.set3] at this
theorem TX.setL (h : TX w p g1 g2 g3 E V D ls mn) (v : Nat) (x : Int) : TX (w.setCell ⟨g2, v, none⟩ (.int .i32 x)) p g1 g2 g3 E V D (ls.set v x) mn := by
  obtain ⟨e1, e2, e3, e4, e5, e6⟩ := h.d1
  exact ⟨h.head.set_other _ _ e2, h.b1.set_other _ _ e4, by have := h.b2.set v (.int .i32 x); rwa [i32s_set] at this, h.b3.set_other _ _ e6.symm, h.d1⟩
theorem TX.setM (h : TX w p g1 g2 g3 E V D ls mn) (v : Nat) (x : Int) : TX (w.setCell ⟨g3, v, none⟩ (.int .i32 x)) p g1 g2 g3 E V D ls (mn.set v x) := by
  obtain ⟨e1, e2, e3, e4, e5, e6⟩ := h.d1
  exact ⟨h.head.set_other _ _ e3, h.b1.set_other _ _ e5, h.b2.set_other _ _ e6, by have := h.b3.set v (.int .i32 x); rwa [i32s_set] at this, h.d1⟩
end

/-- Turns of E edges at most: what stands round each vertex. -/
structure Tu (w : World) (own : Nat → Prop) (p E : Nat) (L : List (List Nat)) : Prop where
  ex : ∃ g1 g2 g3 D ls mn, TX w p g1 g2 g3 E L.length D ls mn ∧ own = TX.own p g1 g2 g3 ∧ Rel E L D ls mn
  e1 : 1 ≤ E
  e2 : E ≤ 1048576
  v1 : 1 ≤ L.length
  v2 : L.length ≤ 1048576
section
variable {w w' : World} {own : Nat → Prop} {p E : Nat} {L : List (List Nat)}
theorem Tu.kept {fp : Nat → Prop} (h : Tu w own p E L) (hk : Keeps fp w w') (hd : ∀ k, own k → ¬ fp k) : Tu w' own p E L := by
  obtain ⟨⟨g1, g2, g3, D, ls, mn, hx, rfl, hr⟩, a, b, c, d⟩ := h
  exact ⟨⟨g1, g2, g3, D, ls, mn, hx.kept hk hd, rfl, hr⟩, a, b, c, d⟩
theorem Tu.keep (h : Tu w own p E L) (hk : Keeps (fun _ => False) w w') : Tu w' own p E L := h.kept hk fun _ _ => id
theorem Tu.lt (h : Tu w own p E L) (k : Nat) (hk : own k) : k < w.heap.size := by
  obtain ⟨⟨g1, g2, g3, D, ls, mn, hx, rfl, hr⟩, _⟩ := h
  exact hx.lt k hk
theorem Tu.wf (h : Tu w own p E L) : WF E L := by
  obtain ⟨⟨g1, g2, g3, D, ls, mn, hx, rfl, hr⟩, _⟩ := h
  exact hr.wf
end
/-- What changed lies in the own blocks. -/
theorem Keeps.setIn {own : Nat → Prop} {a w : World} (h : Keeps own a w) (b i : Nat) (u : Value) (hb : own b) : Keeps own a (w.setCell ⟨b, i, none⟩ u) := h.setCell _ _ fun _ => hb
end Go.Proofs.YtdplphhlclhmfaaDoor
