/- Chapter 10's laws: an edge laid in both. Chapter 10's laws: both turns in memory, act by act. Chapter 10's laws: TurnChecks. Chapter 10's laws: all that is told of a dart and of a vertex. Chapter 10's laws: TurnSums. Chapter 10's laws: what stands round each vertex, gathered. Chapter 10, plain: lists that are told: whether darts can stand so. The turns: whether darts can't stand as it is told. The turns: Load. The document's Load. The document's Darts. -/
import Derived.Deep.RegionHeld3
import Derived.Deep.RegionWith
import Derived.Test.YtdplphhlclhmfaaDoorOpenA
namespace Go.Proofs.YtdplphhlclhmfaaDoor
open Go Go.RowKit
set_option linter.unusedVariables false
set_option linter.unusedSimpArgs false
set_option maxRecDepth 100000

theorem Blk.cells {w : World} {b : Nat} {x y : Value} {t : TypeId} (h : Blk w b #[x, y] t) : w.cell? ⟨b, 0, none⟩ = some x ∧ w.cell? ⟨b, 1, none⟩ = some y ∧ w.frozen? ⟨b, 0, none⟩ = false ∧ w.frozen? ⟨b, 1, none⟩ = false ∧ b < w.heap.size := by
  have h0 := h.cell (i := 0)
  have h1 := h.cell (i := 1)
  simp only [List.getElem?_toArray, List.getElem?_cons_zero, List.getElem?_cons_succ] at h0 h1
  exact ⟨h0, h1, h.free 0, h.free 1, h.lt⟩
theorem six_keep {w0 W : World} (hk : Keeps (fun _ => False) w0 W) {a b c d e f : Addr} {t u v x y z : Value} (h1 : w0.cell? a = some t) (h2 : w0.cell? b = some u) (h3 : w0.cell? c = some v) (h4 : w0.cell? d = some x) (h5 : w0.cell? e = some y) (h6 : w0.cell? f = some z) :
    W.cell? a = some t ∧ W.cell? b = some u ∧ W.cell? c = some v ∧ W.cell? d = some x ∧ W.cell? e = some y ∧ W.cell? f = some z := ⟨hk.cellF h1, hk.cellF h2, hk.cellF h3, hk.cellF h4, hk.cellF h5, hk.cellF h6⟩
theorem set2_keep {w0 W : World} (hk : Keeps (fun _ => False) w0 W) {b : Nat} (hb : w0.heap.size ≤ b) {x y : Value} : Keeps (fun _ => False) w0 ((W.setCell ⟨b, 0, none⟩ x).setCell ⟨b, 1, none⟩ y) := (hk.setNew hb _ _).setNew hb _ _
theorem size_alloc (X : World) (o : Obj) : (X.alloc o).heap.size = X.heap.size + 1 := by simp
theorem size_drew (X : World) : X.drew.heap.size = X.heap.size := rfl
theorem Blk.set2 {w : World} {b : Nat} {x y u v : Value} {t : TypeId} (h : Blk w b #[x, y] t) : Blk ((w.setCell ⟨b, 0, none⟩ u).setCell ⟨b, 1, none⟩ v) b #[u, v] t := by
  have h1 := (h.set 0 u).set 1 v
  simpa using h1
theorem Blk.oth2 {w : World} {b c : Nat} {cs : Array Value} {u v : Value} {t : TypeId} (h : Blk w b cs t) (hn : b ≠ c) : Blk ((w.setCell ⟨c, 0, none⟩ u).setCell ⟨c, 1, none⟩ v) b cs t :=
  h.kept (((Keeps.refl (fun k => k = c) w).setIn c 0 u rfl).setIn c 1 v rfl) hn
theorem box2_keptD {X w' : World} {cs : Array Value} {t : TypeId} (hk : Keeps (fun _ => False) (X.alloc (.cells cs t)).drew w') : Blk w' X.heap.size cs t := ((Blk.new X cs t).kept (Keeps.refl (fun _ => False) _).drew id).kept hk id
theorem box2_keptD2 {X w' : World} {cs ds : Array Value} {t u : TypeId} (hk : Keeps (fun _ => False) ((X.alloc (.cells cs t)).alloc (.cells ds u)).drew w') : Blk w' X.heap.size cs t := (((Blk.new X cs t).alloc _).kept (Keeps.refl (fun _ => False) _).drew id).kept hk id
theorem box2_kept {X w' : World} {cs : Array Value} {t : TypeId} (hk : Keeps (fun _ => False) (X.alloc (.cells cs t)) w') : Blk w' X.heap.size cs t := (Blk.new X cs t).kept hk id
theorem box2_kept2 {X w' : World} {cs ds : Array Value} {t u : TypeId} (hk : Keeps (fun _ => False) ((X.alloc (.cells cs t)).alloc (.cells ds u)) w') : Blk w' X.heap.size cs t := ((Blk.new X cs t).alloc _).kept hk id
def actsV (l : List Act10) : List Value := l.flatMap actCells
theorem actsV_length (l : List Act10) : (actsV l).length = l.length * 6 := by
  induction l with
  | nil => rfl
  | cons p l ih => simp only [actsV, List.flatMap_cons] at ih ⊢; simp [ih, actCells]; omega
theorem actsV_get (l : List Act10) (i j : Nat) (h : i < l.length) (hj : j < 6) : (actsV l)[i * 6 + j]? = (actCells l[i])[j]? := by
  induction l generalizing i with
  | nil => simp at h
  | cons p l ih =>
    cases i with
    | zero => simp only [actsV, List.flatMap_cons, Nat.zero_mul, Nat.zero_add, List.getElem_cons_zero]; rw [List.getElem?_append_left (by simpa [actCells] using hj)]
    | succ i =>
      have := ih i (by simpa using h)
      simp only [actsV, List.flatMap_cons] at this ⊢
      rw [List.getElem?_append_right (by simp [actCells]; omega)]
      rw [show (i + 1) * 6 + j - (actCells p).length = i * 6 + j by simp [actCells]; omega, List.getElem_cons_succ]
      exact this
theorem actsAt {w : World} {a : Option Addr} {l : List Act10} (hr : Rd w a (actsV l)) (i : Nat) (hi : i < l.length) : ∃ b off, a = some ⟨b, off, none⟩ ∧ b < w.heap.size ∧ w.cell? ⟨b, off + i * 6, none⟩ = some (.int .i64 l[i].kind) ∧ w.cell? ⟨b, off + i * 6 + 1, none⟩ = some (.int .i64 l[i].e) ∧
    w.cell? ⟨b, off + i * 6 + 2, none⟩ = some (.int .i64 l[i].a.1) ∧ w.cell? ⟨b, off + i * 6 + 3, none⟩ = some (.int .i64 l[i].a.2) ∧ w.cell? ⟨b, off + i * 6 + 4, none⟩ = some (.int .i64 l[i].b.1) ∧ w.cell? ⟨b, off + i * 6 + 5, none⟩ = some (.int .i64 l[i].b.2) := by
  have hl := actsV_length l
  obtain ⟨b, off, rfl, hc⟩ := hr.at_ (i * 6) (by omega)
  have hg := fun j (hj : j < 6) => (hc (i * 6 + j) (by omega)).trans (actsV_get l i j hi hj)
  refine ⟨b, off, rfl, World.block_lt_of_cell? w _ (hg 0 (by decide)), hg 0 (by decide), ?_, ?_, ?_, ?_, ?_⟩
  · rw [Nat.add_assoc]; exact hg 1 (by decide)
  · rw [Nat.add_assoc]; exact hg 2 (by decide)
  · rw [Nat.add_assoc]; exact hg 3 (by decide)
  · rw [Nat.add_assoc]; exact hg 4 (by decide)
  · rw [Nat.add_assoc]; exact hg 5 (by decide)

/-- A law's state: both turns tell the lists. -/
structure LawAt (w0 : World) (own : Nat → Prop) (p Et E B V bx : Nat) (L : List (List Nat)) (v : Value) (wr : World) : Prop where
  good : Good E L
  len : L.length = V
  tu : Tu wr own p Et L
  ls : LsRow wr B v L
  box : Blk wr bx #[.int .i64 (E : Int), v] 27
  kp : Keeps (fun _ => False) w0 wr
  low : ∀ k, own k → w0.heap.size ≤ k ∧ k < B
  bxB : B ≤ bx
  bB : w0.heap.size ≤ B
section
variable {w0 wr w1 w2 : World} {own : Nat → Prop} {p Et E B V bx : Nat} {L : List (List Nat)} {v : Value}
theorem LawAt.keep (h : LawAt w0 own p Et E B V bx L v wr) (hk : Keeps (fun _ => False) wr w1) : LawAt w0 own p Et E B V bx L v w1 :=
  ⟨h.good, h.len, h.tu.keep hk, h.ls.keep hk, h.box.kept hk id, h.kp.trans' hk, h.low, h.bxB, h.bB⟩
theorem LawAt.nbx (h : LawAt w0 own p Et E B V bx L v wr) : ¬ own bx := fun q => by have := h.low _ q; have := h.bxB; omega
theorem LawAt.nold (h : LawAt w0 own p Et E B V bx L v wr) {b : Nat} (hb : b < w0.heap.size) : ¬ own b := fun q => by have := h.low _ q; omega
theorem ErrT.lt {w : World} (h : ErrT w) : 0 < w.heap.size := World.block_lt_of_cell? w _ h
theorem LawAt.thin (h : LawAt w0 own p Et E B V bx L v wr) (hk : Keeps own wr w1) : Keeps (fun _ => False) w0 w1 := h.kp.thin hk fun i q => (h.low i q).1
theorem LawAt.step {L' : List (List Nat)} {a : Option Addr} {n c : Nat} (h : LawAt w0 own p Et E B V bx L v wr) (hk : Keeps own wr w1) (tu : Tu w1 own p Et L') (ls : LsRow w1 B (.slice a n c) L') (hw : Keeps (fun _ => False) w1 w2) (hg : Good E L') (hl : L'.length = V) :
    LawAt w0 own p Et E B V bx L' (.slice a n c) ((w2.setCell ⟨bx, 0, none⟩ (.int .i64 (E : Int))).setCell ⟨bx, 1, none⟩ (.slice a n c)) := by
  have hb : Blk w2 bx #[.int .i64 (E : Int), v] 27 := (h.box.kept hk h.nbx).kept hw id
  have hkb : Keeps (fun k => k = bx) w2 ((w2.setCell ⟨bx, 0, none⟩ (.int .i64 (E : Int))).setCell ⟨bx, 1, none⟩ (.slice a n c)) := ((Keeps.refl (fun k => k = bx) w2).setIn bx 0 _ rfl).setIn bx 1 _ rfl
  exact ⟨hg, hl, (tu.keep hw).kept hkb fun k q e => h.nbx (e ▸ q), (ls.keep hw).setOther hb (by decide) (by decide) hkb, Blk.set2 hb, ((h.thin hk).trans' hw).thin hkb fun i q => by have := h.bxB; have := h.bB; omega, h.low, h.bxB, h.bB⟩
theorem LawAt.cells (h : LawAt w0 own p Et E B V bx L v wr) : wr.cell? ⟨bx, 0, none⟩ = some (.int .i64 (E : Int)) ∧ wr.cell? ⟨bx, 1, none⟩ = some v ∧ wr.frozen? ⟨bx, 0, none⟩ = false ∧ wr.frozen? ⟨bx, 1, none⟩ = false ∧ bx < wr.heap.size := h.box.cells
end
theorem LawAt.start {w0 w1 w2 : World} {own : Nat → Prop} {p Et E V n c : Nat} {a : Option Addr} (tu : Tu w1 own p Et (List.replicate V [])) (hf : ∀ k, own k → w0.heap.size ≤ k) (hk1 : Keeps (fun _ => False) w0 w1) (ls : LsRow w2 w1.heap.size (.slice a n c) (List.replicate V [])) (hk2 : Keeps (fun _ => False) w1 w2) :
    LawAt w0 own p Et E w1.heap.size V w2.heap.size (List.replicate V []) (.slice a n c) (w2.alloc (.cells #[.int .i64 (E : Int), .slice a n c] 27)) :=
  ⟨Good.new E V, by simp, (tu.keep hk2).keep ((Keeps.refl _ _).alloc _), ls.keep ((Keeps.refl _ _).alloc _), Blk.new _ _ _, (hk1.trans' hk2).alloc _, fun k q => ⟨hf k q, tu.lt k q⟩, hk2.size, hk1.size⟩

section
variable {w0 wr w1 w5 : World} {own : Nat → Prop} {p Et E B V bx n c y : Nat} {L L5 : List (List Nat)} {v x0 x1 : Value} {a : Option Addr}
/-- What a box holds that an act's answer was laid in. -/
def BoxAt (own : Nat → Prop) (p Et E B y : Nat) (L5 : List (List Nat)) (v5 : Value) (wr W : World) : Prop :=
  Blk W y #[.int .i64 (E : Int), v5] 27 ∧ Tu W own p Et L5 ∧ LsRow W B v5 L5 ∧ Keeps own wr W
theorem eight_keep {w0 W : World} (hk : Keeps (fun _ => False) w0 W) {a b c d e f g h : Addr} {t u v x y z r s : Value} (h1 : w0.cell? a = some t) (h2 : w0.cell? b = some u) (h3 : w0.cell? c = some v) (h4 : w0.cell? d = some x) (h5 : w0.cell? e = some y) (h6 : w0.cell? f = some z) (h7 : w0.cell? g = some r) (h8 : w0.cell? h = some s) :
    W.cell? a = some t ∧ W.cell? b = some u ∧ W.cell? c = some v ∧ W.cell? d = some x ∧ W.cell? e = some y ∧ W.cell? f = some z ∧ W.cell? g = some r ∧ W.cell? h = some s := ⟨hk.cellF h1, hk.cellF h2, hk.cellF h3, hk.cellF h4, hk.cellF h5, hk.cellF h6, hk.cellF h7, hk.cellF h8⟩
theorem eight_own {w0 W : World} {fp : Nat → Prop} (hk : Keeps fp w0 W) {b1 b2 o1 o2 o3 o4 o5 o6 o7 o8 : Nat} (n1 : ¬ fp b1) (n2 : ¬ fp b2) {t u v x y z r s : Value} (h1 : w0.cell? ⟨b1, o1, none⟩ = some t) (h2 : w0.cell? ⟨b1, o2, none⟩ = some u) (h3 : w0.cell? ⟨b2, o3, none⟩ = some v) (h4 : w0.cell? ⟨b2, o4, none⟩ = some x) (h5 : w0.cell? ⟨b2, o5, none⟩ = some y) (h6 : w0.cell? ⟨b2, o6, none⟩ = some z) (h7 : w0.cell? ⟨b2, o7, none⟩ = some r) (h8 : w0.cell? ⟨b2, o8, none⟩ = some s) :
    W.cell? ⟨b1, o1, none⟩ = some t ∧ W.cell? ⟨b1, o2, none⟩ = some u ∧ W.cell? ⟨b2, o3, none⟩ = some v ∧ W.cell? ⟨b2, o4, none⟩ = some x ∧ W.cell? ⟨b2, o5, none⟩ = some y ∧ W.cell? ⟨b2, o6, none⟩ = some z ∧ W.cell? ⟨b2, o7, none⟩ = some r ∧ W.cell? ⟨b2, o8, none⟩ = some s := ⟨hk.cellO h1 n1, hk.cellO h2 n1, hk.cellO h3 n2, hk.cellO h4 n2, hk.cellO h5 n2, hk.cellO h6 n2, hk.cellO h7 n2, hk.cellO h8 n2⟩
theorem Keeps.set2 {fp : Nat → Prop} {a w : World} (h : Keeps fp a w) {b : Nat} (hb : a.heap.size ≤ b) {x y : Value} : Keeps fp a ((w.setCell ⟨b, 0, none⟩ x).setCell ⟨b, 1, none⟩ y) := (h.setCell _ _ fun q => absurd q (Nat.not_lt.2 hb)).setCell _ _ fun q => absurd q (Nat.not_lt.2 hb)
theorem box2_keptDO {X w' : World} {fp : Nat → Prop} {cs : Array Value} {t : TypeId} (hk : Keeps fp (X.alloc (.cells cs t)).drew w') (hn : ¬ fp X.heap.size) : Blk w' X.heap.size cs t := ((Blk.new X cs t).kept (Keeps.refl (fun _ => False) _).drew id).kept hk hn
theorem boxA (ht : Tu w5 own p Et L5) (hl : LsRow w5 B v L5) (hk : Keeps own wr w5) : BoxAt own p Et E B w5.heap.size L5 v wr (w5.alloc (.cells #[.int .i64 (E : Int), v] 27)) :=
  ⟨Blk.new _ _ _, ht.keep ((Keeps.refl _ _).alloc _), hl.keep ((Keeps.refl _ _).alloc _), hk.alloc _⟩
theorem boxB (ht : Tu w5 own p Et L5) (hl : LsRow w5 B v L5) (hk : Keeps own wr w5) (hz : Blk w5 y #[x0, x1] 27) (hy : wr.heap.size ≤ y) (hn : ¬ own y) :
    BoxAt own p Et E B y L5 v wr ((w5.setCell ⟨y, 0, none⟩ (.int .i64 (E : Int))).setCell ⟨y, 1, none⟩ v) := by
  have hkb : Keeps (fun k => k = y) w5 ((w5.setCell ⟨y, 0, none⟩ (.int .i64 (E : Int))).setCell ⟨y, 1, none⟩ v) := ((Keeps.refl (fun k => k = y) w5).setIn y 0 _ rfl).setIn y 1 _ rfl
  exact ⟨Blk.set2 hz, ht.kept hkb fun k q e => hn (e ▸ q), hl.setOther hz (by decide) (by decide) hkb, (hk.setCell _ _ fun q => absurd q (Nat.not_lt.2 hy)).setCell _ _ fun q => absurd q (Nat.not_lt.2 hy)⟩
end

section
variable {w : World} {own : Nat → Prop} {p E B : Nat} {L : List (List Nat)}
theorem tround (h : Tu w own p E L) {n : Nat} (hn : n < L.length) :
    Calls Tryd.prog 95 #[tptr p, .int .i64 (n : Int)] w (LPost (rnd (L.getD n [])) 0 w) := by
  by_cases h0 : L.getD n [] = []
  · have hv : vErr L (n : Int) = 0 := by unfold vErr; rw [if_neg (by omega)]
    have := tround_none h (n : Int) (Or.inr (by rw [Int.toNat_natCast]; exact h0))
    rw [hv] at this
    rw [h0, rnd_nil]; exact this
  · exact tround_some h (some_getD hn) h0
end
theorem Tu.len {w : World} {own : Nat → Prop} {p E : Nat} {L : List (List Nat)} (h : Tu w own p E L) {n : Nat} {l : List Nat} (hl : L[n]? = some l) : l.length ≤ 2 * E := by
  obtain ⟨_, _, _, _, _, _, _, _, hr⟩ := h.ex
  exact hr.len hl
theorem six_own {w0 W : World} {fp : Nat → Prop} (hk : Keeps fp w0 W) {b o1 o2 o3 o4 o5 o6 : Nat} (n : ¬ fp b) {t u v x y z : Value} (h1 : w0.cell? ⟨b, o1, none⟩ = some t) (h2 : w0.cell? ⟨b, o2, none⟩ = some u) (h3 : w0.cell? ⟨b, o3, none⟩ = some v) (h4 : w0.cell? ⟨b, o4, none⟩ = some x) (h5 : w0.cell? ⟨b, o5, none⟩ = some y) (h6 : w0.cell? ⟨b, o6, none⟩ = some z) :
    W.cell? ⟨b, o1, none⟩ = some t ∧ W.cell? ⟨b, o2, none⟩ = some u ∧ W.cell? ⟨b, o3, none⟩ = some v ∧ W.cell? ⟨b, o4, none⟩ = some x ∧ W.cell? ⟨b, o5, none⟩ = some y ∧ W.cell? ⟨b, o6, none⟩ = some z := ⟨hk.cellO h1 n, hk.cellO h2 n, hk.cellO h3 n, hk.cellO h4 n, hk.cellO h5 n, hk.cellO h6 n⟩
theorem six_own2 {w0 W : World} {fp : Nat → Prop} (hk : Keeps fp w0 W) {b c o1 o2 o3 o4 o5 o6 : Nat} (n : ¬ fp b) (m : b ≠ c) {p q t u v x y z : Value} (h1 : w0.cell? ⟨b, o1, none⟩ = some t) (h2 : w0.cell? ⟨b, o2, none⟩ = some u) (h3 : w0.cell? ⟨b, o3, none⟩ = some v) (h4 : w0.cell? ⟨b, o4, none⟩ = some x) (h5 : w0.cell? ⟨b, o5, none⟩ = some y) (h6 : w0.cell? ⟨b, o6, none⟩ = some z) :
    ((W.setCell ⟨c, 0, none⟩ p).setCell ⟨c, 1, none⟩ q).cell? ⟨b, o1, none⟩ = some t ∧ ((W.setCell ⟨c, 0, none⟩ p).setCell ⟨c, 1, none⟩ q).cell? ⟨b, o2, none⟩ = some u ∧ ((W.setCell ⟨c, 0, none⟩ p).setCell ⟨c, 1, none⟩ q).cell? ⟨b, o3, none⟩ = some v ∧ ((W.setCell ⟨c, 0, none⟩ p).setCell ⟨c, 1, none⟩ q).cell? ⟨b, o4, none⟩ = some x ∧ ((W.setCell ⟨c, 0, none⟩ p).setCell ⟨c, 1, none⟩ q).cell? ⟨b, o5, none⟩ = some y ∧ ((W.setCell ⟨c, 0, none⟩ p).setCell ⟨c, 1, none⟩ q).cell? ⟨b, o6, none⟩ = some z :=
  ⟨cell_set2 (hk.cellO h1 n) m, cell_set2 (hk.cellO h2 n) m, cell_set2 (hk.cellO h3 n) m, cell_set2 (hk.cellO h4 n) m, cell_set2 (hk.cellO h5 n) m, cell_set2 (hk.cellO h6 n) m⟩
/-- One list told, in a slice that is not v's. -/
def RowAt (w : World) (B : Nat) (v u : Value) (l : List Nat) : Prop :=
  ∃ a c, u = .slice a l.length c ∧ Rd w a (nats l) ∧ ∀ b off, a = some ⟨b, off, none⟩ → v.ownBlock ≠ some b ∧ B ≤ b ∧ b < w.heap.size
/-- Lists told. -/
def RsAt (w : World) (B : Nat) (v : Value) (Ls : List (List Nat)) : Prop :=
  ∃ us : List Value, w.ownsRow B 23 1 v Ls.length us ∧ ∀ (i : Nat) (l : List Nat), Ls[i]? = some l → ∃ u, us[i]? = some u ∧ RowAt w B v u l
section
variable {w w1 w' : World} {B : Nat} {v v' u : Value} {l : List Nat} {Ls : List (List Nat)}
theorem RsAt.nil (w : World) (B : Nat) : RsAt w B (.slice none 0 0) [] := ⟨[], World.ownsRow_nil _ _ _ _, fun i l h => by simp at h⟩
theorem RowAt.kept {fp : Nat → Prop} (h : RowAt w B v u l) (hk : Keeps fp w w') (hn : ∀ b, fp b → b < B ∨ v.ownBlock = some b) : RowAt w' B v u l := by
  obtain ⟨a, c, rfl, hr, hb⟩ := h
  refine ⟨a, c, rfl, hr.kept hk fun b off e q => ?_, fun b off e => ?_⟩
  · obtain ⟨h1, h2, _⟩ := hb b off e
    rcases hn b q with h | h
    · omega
    · exact h1 h
  · obtain ⟨h1, h2, h3⟩ := hb b off e
    exact ⟨h1, h2, Nat.lt_of_lt_of_le h3 hk.size⟩
theorem RsAt.kept {fp : Nat → Prop} (h : RsAt w B v Ls) (hk : Keeps fp w w') (hn : ∀ b, fp b → b < B) : RsAt w' B v Ls := by
  obtain ⟨us, h1, h2⟩ := h
  refine ⟨us, ownsRow_kept h1 hk fun k e q => ?_, fun i l hl => ?_⟩
  · have := (h1.lt k e).1
    have := hn k q
    omega
  · obtain ⟨u, hu, hr⟩ := h2 i l hl
    exact ⟨u, hu, hr.kept hk fun b q => Or.inl (hn b q)⟩
theorem RsAt.keep (h : RsAt w B v Ls) (hk : Keeps (fun _ => False) w w') : RsAt w' B v Ls := h.kept hk fun _ q => q.elim
/-- A list that was just told. -/
theorem RowAt.fresh {xs : List Value} {n : Nat} (hv : w.ownsRow B 23 1 v n xs) (hB : B ≤ w.heap.size) (hro : w1.ownsRow w.heap.size 3 1 u l.length (nats l)) : RowAt w1 B v u l := by
  obtain ⟨a, c, rfl, hr, _, hb⟩ := Rd.of_own hro
  refine ⟨a, c, rfl, hr, fun b off e => ?_⟩
  have h1 := hro.lt b (hb b off e)
  refine ⟨fun q => ?_, by omega, h1.2⟩
  have := (hv.lt b q).2
  omega
theorem RsAt.push {us : List Value} (hown : w.ownsRow B 23 1 v Ls.length us) (hrows : ∀ (i : Nat) (l : List Nat), Ls[i]? = some l → ∃ u, us[i]? = some u ∧ RowAt w B v u l) (hu : RowAt w B v u l)
    (ho : w'.ownsRow B 23 1 v' (Ls.length + 1) (us ++ [u])) (hk : Keeps (fun k => v.ownBlock = some k) w w') (hb : ∀ k, v'.ownBlock = some k → v.ownBlock = some k ∨ w.heap.size < k) : RsAt w' B v' (Ls ++ [l]) := by
  have hlen : us.length = Ls.length := by have := hown.1; omega
  have each : ∀ u l, RowAt w B v u l → RowAt w' B v' u l := by
    intro u l h
    have h' := h.kept hk fun b q => Or.inr q
    obtain ⟨a, c, e, hr, hx⟩ := h'
    obtain ⟨a2, c2, e2, _, hx2⟩ := h
    refine ⟨a, c, e, hr, fun b off q => ⟨fun q2 => ?_, (hx b off q).2⟩⟩
    have hae : a2 = a := by rw [e2] at e; cases e; rfl
    obtain ⟨y1, y2, y3⟩ := hx2 b off (hae.trans q)
    rcases hb b q2 with g | g
    · exact y1 g
    · omega
  refine ⟨us ++ [u], by rw [List.length_append]; exact ho, fun i l' hl => ?_⟩
  by_cases hi : i < Ls.length
  · rw [List.getElem?_append_left hi] at hl
    obtain ⟨x, hx, hr⟩ := hrows i l' hl
    exact ⟨x, by rw [List.getElem?_append_left (by omega)]; exact hx, each _ _ hr⟩
  · have hi2 := (List.getElem?_eq_some_iff.1 hl).1
    rw [List.length_append] at hi2
    simp at hi2
    obtain rfl : i = Ls.length := by omega
    rw [List.getElem?_append_right (Nat.le_refl _), Nat.sub_self] at hl
    cases hl
    exact ⟨u, by rw [List.getElem?_append_right (by omega)]; simp [hlen], each _ _ hu⟩
/-- Where the cells lie. -/
theorem RsAt.at_ (h : RsAt w B v Ls) {i : Nat} {l : List Nat} (hl : Ls[i]? = some l) : ∃ g cap a c, v = .slice (some ⟨g, 0, none⟩) Ls.length cap ∧ w.cell? ⟨g, i, none⟩ = some (.slice a l.length c) ∧ Rd w a (nats l) := by
  obtain ⟨us, h1, h2⟩ := h
  obtain ⟨u, hu, a, c, rfl, hr, _⟩ := h2 i l hl
  have hi := (List.getElem?_eq_some_iff.1 hl).1
  rcases h1.2 with ⟨_, hn⟩ | ⟨g, cap, cur, rfl, hb, hgg, hnc, hcm, hcs, htake⟩
  · omega
  · refine ⟨g, cap, a, c, rfl, ?_, hr⟩
    have := cell_of_row w g i cur 23 (0, 0) hgg
    rw [← hu, ← htake, List.getElem?_take, if_pos (by omega), this]
    simp
end
theorem map_take_step {L : List (List Nat)} {m : Nat} {l : List Nat} (h : L[m]? = some l) : (L.take (m + 1)).map rnd = (L.take m).map rnd ++ [rnd l] := by
  rw [List.take_add_one, h]; simp
def OkL (E V : Nat) (R : List (List Int)) : Prop :=
  (∀ d ∈ R.flatten, 0 ≤ d ∧ d < 2 * E) ∧ R.flatten.Nodup ∧ (∀ d : Nat, d < 2 * E → ((d : Int) ∈ R.flatten ↔ ((tw d : Nat) : Int) ∈ R.flatten)) ∧ R.length ≤ V
/-- What has been seen. -/
def pre (R : List (List Int)) (i k : Nat) : List Int := (R.take i).flatten ++ (R.getD i []).take k
theorem getD_someI {R : List (List Int)} {v : Nat} {l : List Int} (h : R[v]? = some l) : R.getD v [] = l := by rw [List.getD_eq_getElem?_getD, h]; rfl
theorem pre_zero (R : List (List Int)) : pre R 0 0 = [] := by simp [pre]
theorem pre_row {R : List (List Int)} {i : Nat} {l : List Int} (h : R[i]? = some l) : pre R i l.length = pre R (i + 1) 0 := by
  unfold pre
  rw [getD_someI h, List.take_length, List.take_zero, List.append_nil, List.take_add_one, h]
  simp
theorem pre_step {R : List (List Int)} {i k : Nat} {l : List Int} (h : R[i]? = some l) (hk : k < l.length) : pre R i (k + 1) = pre R i k ++ [l[k]] := by
  unfold pre
  rw [getD_someI h, List.take_add_one, List.getElem?_eq_getElem hk, ← List.append_assoc]; rfl
theorem pre_all (R : List (List Int)) : pre R R.length 0 = R.flatten := by simp [pre]
theorem pre_rest {R : List (List Int)} {i k : Nat} {l : List Int} (h : R[i]? = some l) (hk : k < l.length) : ∃ rest, R.flatten = pre R i k ++ l[k] :: rest := by
  have h1 : R.flatten = pre R i k ++ (l.drop k ++ (R.drop (i + 1)).flatten) := by
    have hi := (List.getElem?_eq_some_iff.1 h).1
    conv => lhs; rw [← List.take_append_drop (i + 1) R, List.flatten_append, List.take_add_one, h]
    unfold pre
    rw [getD_someI h]
    simp only [Option.toList_some, List.flatten_append, List.flatten_singleton]
    simp only [List.append_assoc]
    rw [← List.append_assoc (l.take k), List.take_append_drop]
  rw [List.drop_eq_getElem_cons hk] at h1
  exact ⟨_, h1⟩
def GoodP (E : Nat) (P : List Int) : Prop := (∀ d ∈ P, 0 ≤ d ∧ d < 2 * E) ∧ P.Nodup
theorem GoodP.push {E : Nat} {P : List Int} (h : GoodP E P) {d : Int} (h0 : 0 ≤ d) (h1 : d < 2 * E) (hn : d ∉ P) : GoodP E (P ++ [d]) := by
  refine ⟨fun x hx => ?_, ?_⟩
  · rcases List.mem_append.1 hx with hx | hx
    · exact h.1 x hx
    · rw [List.mem_singleton.1 hx]; exact ⟨h0, h1⟩
  · rw [List.nodup_append]
    refine ⟨h.2, by simp, fun x hx y hy e => ?_⟩
    rw [List.mem_singleton.1 hy] at e
    exact hn (e ▸ hx)
theorem bad_no {E V i k : Nat} {R : List (List Int)} {l : List Int} (h : R[i]? = some l) (hk : k < l.length) (hb : l[k] < 0 ∨ 2 * (E : Int) ≤ l[k] ∨ l[k] ∈ pre R i k) : ¬ OkL E V R := by
  rintro ⟨h1, h2, _⟩
  obtain ⟨rest, he⟩ := pre_rest h hk
  rw [he] at h1 h2
  have := h1 l[k] (by simp)
  rcases hb with hb | hb | hb
  · omega
  · omega
  · rw [List.nodup_append] at h2
    exact h2.2.2 _ hb _ (by simp) rfl
def seenV (E : Nat) (P : List Int) : List Value := (List.range (2 * E)).map fun (d : Nat) => Value.bool (decide ((d : Int) ∈ P))
theorem seenV_length (E : Nat) (P : List Int) : (seenV E P).length = 2 * E := by simp [seenV]
theorem seenV_get {E : Nat} {P : List Int} {d : Nat} (h : d < 2 * E) : (seenV E P)[d]? = some (.bool (decide ((d : Int) ∈ P))) := by simp [seenV, h]
theorem seenV_set (E : Nat) (P : List Int) (d : Nat) : (seenV E P).toArray.setIfInBounds d (.bool true) = (seenV E (P ++ [(d : Int)])).toArray := by
  rw [List.setIfInBounds_toArray]
  congr 1
  apply List.ext_getElem?
  intro j
  rw [List.getElem?_set, seenV_length]
  by_cases hj : j < 2 * E
  · rw [seenV_get hj, seenV_get hj]
    by_cases e : d = j
    · subst e; rw [if_pos rfl, if_pos hj]; simp
    · rw [if_neg e]
      congr 2
      have : (j : Int) ≠ (d : Int) := by omega
      simp [this]
  · rw [List.getElem?_eq_none (by rw [seenV_length]; omega), List.getElem?_eq_none (by rw [seenV_length]; omega)]
    by_cases e : d = j
    · rw [if_pos e, if_neg (by omega)]
    · rw [if_neg e]
theorem zeros_B (n : Nat) : madeCells #[.bool false] (2 * n) = (seenV n []).toArray := by
  rw [madeCells_one]
  congr 1
  apply List.ext_getElem
  · simp [seenV]
  · intro i h1 h2
    simp [seenV]

def natsOf (R : List (List Int)) : List (List Nat) := R.map fun l => l.map Int.toNat
def rowsAt (N : List (List Nat)) (V i k : Nat) : List (List Nat) := (List.range V).map fun u => if u < i then N.getD u [] else if u = i then (N.getD u []).take k else []
theorem rowsAt_length (N : List (List Nat)) (V i k : Nat) : (rowsAt N V i k).length = V := by simp [rowsAt]
theorem rowsAt_get {N : List (List Nat)} {V i k u : Nat} (h : u < V) : (rowsAt N V i k)[u]? = some (if u < i then N.getD u [] else if u = i then (N.getD u []).take k else []) := by simp [rowsAt, h]
theorem rowsAt_zero (N : List (List Nat)) (V : Nat) : rowsAt N V 0 0 = List.replicate V [] := by
  apply List.ext_getElem?
  intro u
  by_cases h : u < V
  · rw [rowsAt_get h]; simp [h]
  · rw [List.getElem?_eq_none (by rw [rowsAt_length]; omega), List.getElem?_eq_none (by simp; omega)]
theorem rowsAt_row {N : List (List Nat)} {V i : Nat} : rowsAt N V i (N.getD i []).length = rowsAt N V (i + 1) 0 := by
  apply List.ext_getElem?
  intro u
  by_cases h : u < V
  · rw [rowsAt_get h, rowsAt_get h]
    by_cases h1 : u < i
    · rw [if_pos h1, if_pos (by omega)]
    · by_cases h2 : u = i
      · subst h2; rw [if_neg h1, if_pos rfl, if_pos (by omega), List.take_length]
      · rw [if_neg h1, if_neg h2, if_neg (by omega)]
        split
        · simp
        · rfl
  · rw [List.getElem?_eq_none (by rw [rowsAt_length]; omega), List.getElem?_eq_none (by rw [rowsAt_length]; omega)]
theorem rowsAt_step {N : List (List Nat)} {V i k : Nat} {l : List Nat} (hi : i < V) (hl : N.getD i [] = l) (hk : k < l.length) (hn : l.Nodup) (b : Int) (hb : b = -1 ∧ k = 0 ∨ ∃ j, k = j + 1 ∧ b = (l.getD j 0 : Nat)) :
    putL (rowsAt N V i k) (l.getD k 0) i b = rowsAt N V i (k + 1) := by
  have hcur : (rowsAt N V i k)[i]? = some (l.take k) := by rw [rowsAt_get hi, if_neg (Nat.lt_irrefl _), if_pos rfl, hl]
  have hins : insB b (l.getD k 0) (l.take k) = l.take (k + 1) := by
    rw [take_next hk]
    rcases hb with ⟨_, rfl⟩ | ⟨j, rfl, rfl⟩
    · rfl
    · have hj : j < (l.take (j + 1)).length := by simp; omega
      have h1 := insB_at (d := l.getD (j + 1) 0) (l := l.take (j + 1)) (i := j) (hn.sublist (List.take_sublist _ _)) hj
      have h2 : (l.take (j + 1))[j] = l.getD j 0 := by
        rw [List.getElem_take, List.getD_eq_getElem?_getD, List.getElem?_eq_getElem (by omega)]; rfl
      rw [h2] at h1
      rw [h1, List.take_take, Nat.min_self, List.drop_eq_nil_of_le (by simp; omega)]
  apply List.ext_getElem?
  intro u
  rw [putL_get hcur, hins]
  by_cases h : u < V
  · rw [rowsAt_get h, rowsAt_get h]
    by_cases h2 : u = i
    · subst h2; rw [if_pos rfl, if_neg (Nat.lt_irrefl _), if_pos rfl, hl]
    · rw [if_neg h2, if_neg h2, if_neg h2]
  · rw [if_neg (by omega), List.getElem?_eq_none (by rw [rowsAt_length]; omega), List.getElem?_eq_none (by rw [rowsAt_length]; omega)]
theorem rowsAt_all {N : List (List Nat)} {V : Nat} (h : N.length ≤ V) : rowsAt N V N.length 0 = N ++ List.replicate (V - N.length) [] := by
  apply List.ext_getElem?
  intro u
  by_cases hu : u < V
  · rw [rowsAt_get hu]
    by_cases h1 : u < N.length
    · rw [if_pos h1, List.getElem?_append_left h1, some_getD h1]
    · rw [if_neg h1, List.getElem?_append_right (by omega), List.getElem?_replicate, if_pos (show u - N.length < V - N.length by omega)]
      split
      · rw [List.take_zero]
      · rfl
  · rw [List.getElem?_eq_none (by rw [rowsAt_length]; omega), List.getElem?_eq_none (by simp; omega)]
theorem rowsAt_stands {N : List (List Nat)} {V i k : Nat} {l : List Nat} (hl : N[i]? = some l) (hk : k < l.length) (hn : N.flatten.Nodup) : ¬ Stands (rowsAt N V i k) (l.getD k 0) := by
  intro hs
  obtain ⟨u, m, hu, hm⟩ := stands_iff.1 hs
  have huV : u < V := by have := (List.getElem?_eq_some_iff.1 hu).1; rwa [rowsAt_length] at this
  rw [rowsAt_get huV] at hu
  cases hu
  have hd : l.getD k 0 ∈ l := getD_mem hk
  by_cases h1 : u < i
  · rw [if_pos h1] at hm
    have hi := (List.getElem?_eq_some_iff.1 hl).1
    have := (nodup_flat hn).2 u i _ l _ (some_getD (by omega)) hl hm hd
    omega
  · rw [if_neg h1] at hm
    by_cases h2 : u = i
    · subst h2
      rw [if_pos rfl, getD_some hl] at hm
      obtain ⟨j, hj, e⟩ := List.mem_iff_getElem.1 hm
      rw [List.length_take] at hj
      rw [List.getElem_take] at e
      have := getD_inj ((nodup_flat hn).1 u l hl) (i := j) (j := k) (by omega) hk (by rw [getD_at (by omega)]; exact e)
      omega
    · rw [if_neg h2] at hm; simp at hm
def intsV (l : List Int) : List Value := l.map fun z => Value.int .i64 z
theorem intsV_length (l : List Int) : (intsV l).length = l.length := by simp [intsV]
/-- Lists of numbers that lie in memory. -/
def IRows (w : World) (v : Value) (R : List (List Int)) : Prop :=
  ∃ us : List Value, us.length = R.length ∧ (∃ a c, v = .slice a R.length c ∧ Rd w a us) ∧ ∀ (i : Nat) (l : List Int), R[i]? = some l → ∃ A C, us[i]? = some (.slice A l.length C) ∧ Rd w A (intsV l)
theorem IRows.keep {w w' : World} {v : Value} {R : List (List Int)} (h : IRows w v R) (hk : Keeps (fun _ => False) w w') : IRows w' v R := by
  obtain ⟨us, h1, ⟨a, c, e, h2⟩, h3⟩ := h
  refine ⟨us, h1, ⟨a, c, e, h2.keep hk⟩, fun i l hl => ?_⟩
  obtain ⟨A, C, g1, g2⟩ := h3 i l hl
  exact ⟨A, C, g1, g2.keep hk⟩
theorem IRows.form {w : World} {v : Value} {R : List (List Int)} (h : IRows w v R) : ∃ a c, v = .slice a R.length c := by
  obtain ⟨us, h1, ⟨a, c, e, h2⟩, h3⟩ := h
  exact ⟨a, c, e⟩
theorem IRows.at_ {w : World} {a : Option Addr} {c : Nat} {R : List (List Int)} (h : IRows w (.slice a R.length c) R) {i : Nat} {l : List Int} (hl : R[i]? = some l) :
    ∃ b off A C, a = some ⟨b, off, none⟩ ∧ w.cell? ⟨b, off + i, none⟩ = some (.slice A l.length C) ∧ Rd w A (intsV l) := by
  obtain ⟨us, h1, ⟨a', c', e, h2⟩, h3⟩ := h
  simp only [Value.slice.injEq, true_and] at e
  obtain ⟨rfl, rfl⟩ := e
  have hi := (List.getElem?_eq_some_iff.1 hl).1
  obtain ⟨A, C, g1, g2⟩ := h3 i l hl
  obtain ⟨b, off, e, hc⟩ := h2.at_ i (by omega)
  exact ⟨b, off, A, C, e, by rw [hc i (by omega), g1], g2⟩
theorem Rd.int {w : World} {a : Option Addr} {l : List Int} (h : Rd w a (intsV l)) {i : Nat} (hi : i < l.length) : ∃ b off, a = some ⟨b, off, none⟩ ∧ w.cell? ⟨b, off + i, none⟩ = some (.int .i64 l[i]) := by
  obtain ⟨b, off, e, hc⟩ := h.at_ i (by rw [intsV_length]; exact hi)
  exact ⟨b, off, e, by rw [hc i (by rw [intsV_length]; exact hi)]; simp [intsV, hi]⟩
theorem infoBo : (Tryd.prog.info? 4).map (fun i => (i.zero, i.size, i.bytes)) = some (some (.bool false), 1, 1) := by kernel_rfl
def SeenAt (w : World) (sb E : Nat) (P : List Int) (wr : World) : Prop := GoodP E P ∧ Blk wr sb (seenV E P).toArray 4 ∧ w.heap.size ≤ sb ∧ Keeps (fun _ => False) w wr
theorem SeenAt.cell {w wr : World} {sb E : Nat} {P : List Int} (h : SeenAt w sb E P wr) {d : Nat} (hd : d < 2 * E) : wr.cell? ⟨sb, d, none⟩ = some (.bool (decide ((d : Int) ∈ P))) := by
  rw [h.2.1.cell, List.getElem?_toArray, seenV_get hd]
theorem SeenAt.push {w wr : World} {sb E d : Nat} {P : List Int} (h : SeenAt w sb E P wr) (hd : d < 2 * E) (hn : (d : Int) ∉ P) : SeenAt w sb E (P ++ [(d : Int)]) (wr.setCell ⟨sb, d, none⟩ (.bool true)) := by
  refine ⟨h.1.push (by omega) (by omega) hn, ?_, h.2.2.1, h.2.2.2.setNew h.2.2.1 _ _⟩
  have := h.2.1.set d (.bool true)
  rwa [seenV_set] at this
theorem nat_xor_one (d : Nat) : d ^^^ 1 = tw d := by
  have h1 : (d ^^^ 1) / 2 = d / 2 := by rw [Nat.xor_div_two]; simp
  have h2 : (d ^^^ 1) % 2 ^ 1 = d % 2 ^ 1 ^^^ 1 % 2 ^ 1 := Nat.xor_mod_two_pow
  simp only [Nat.pow_one] at h2
  have h3 : d % 2 = 0 ∨ d % 2 = 1 := by omega
  rcases h3 with h3 | h3
  · rw [h3, show (0 ^^^ 1 % 2 : Nat) = 1 by decide] at h2
    unfold tw; rw [if_neg (by omega)]; omega
  · rw [h3, show (1 ^^^ 1 % 2 : Nat) = 0 by decide] at h2
    unfold tw; rw [if_pos h3]; omega
theorem xor_one (d : Nat) (h : d < 4194304) : bits BinOp.xor IntKind.i64 (d : Int) 1 = ((tw d : Nat) : Int) := by
  unfold bits
  simp only []
  have e1 : BitVec.ofInt IntKind.i64.bits (d : Int) = BitVec.ofNat 64 d := by rw [BitVec.ofInt_natCast]; rfl
  have e2 : BitVec.ofInt IntKind.i64.bits 1 = BitVec.ofNat 64 1 := by rfl
  rw [e1, e2]
  have e3 : (BitVec.ofNat 64 d ^^^ BitVec.ofNat 64 1).toNat = tw d := by
    rw [BitVec.toNat_xor, BitVec.toNat_ofNat, BitVec.toNat_ofNat, Nat.mod_eq_of_lt (by omega), Nat.mod_eq_of_lt (by decide), nat_xor_one]
  have h3 : tw d < 4194306 := by unfold tw; split <;> omega
  show IntKind.i64.wrap ((BitVec.ofNat 64 d ^^^ BitVec.ofNat 64 1).toNat : Int) = _
  rw [e3, IntKind.wrap_i64]
  omega
def OddPost (E V : Nat) (R : List (List Int)) (w : World) (e : Ending) (w' : World) : Prop := ∃ b : Bool, e = .returned (.bool b) ∧ (b = true ↔ ¬ OkL E V R) ∧ Keeps (fun _ => False) w w'
theorem intsV_nats {l : List Int} (h : ∀ d ∈ l, 0 ≤ d) : intsV l = nats (l.map Int.toNat) := by
  unfold intsV nats
  rw [List.map_map]
  refine List.map_congr_left fun d hd => ?_
  have := h d hd
  simp only [Function.comp_apply]
  congr 1
  omega
theorem natsOf_getD {R : List (List Int)} {n : Nat} {l : List Int} (h : R[n]? = some l) : (natsOf R).getD n [] = l.map Int.toNat := by
  rw [List.getD_eq_getElem?_getD, natsOf, List.getElem?_map, h]; rfl
theorem natsOf_get {R : List (List Int)} {n : Nat} {l : List Int} (h : R[n]? = some l) : (natsOf R)[n]? = some (l.map Int.toNat) := by rw [natsOf, List.getElem?_map, h]; rfl
theorem natsOf_length (R : List (List Int)) : (natsOf R).length = R.length := by simp [natsOf]
theorem natsOf_flat (R : List (List Int)) : (natsOf R).flatten = R.flatten.map Int.toNat := by rw [natsOf, List.map_flatten]
theorem natsOf_nodup {E V : Nat} {R : List (List Int)} (h : OkL E V R) : (natsOf R).flatten.Nodup := by
  rw [natsOf_flat]
  unfold List.Nodup
  rw [List.pairwise_map]
  refine List.Pairwise.imp_of_mem (fun {a b} ha hb hne e => ?_) h.2.1
  have h1 := (h.1 a ha).1
  have h2 := (h.1 b hb).1
  exact hne (by omega)
def lastI (l : List Nat) (k : Nat) : Int := if k = 0 then -1 else ((l.getD (k - 1) 0 : Nat) : Int)
def LoadPost (V E : Nat) (R : List (List Int)) (w : World) (e : Ending) (w' : World) : Prop :=
  Keeps (fun _ => False) w w' ∧ ((OkL E V R ∧ ∃ p own, e = .returned (.tuple #[tptr p, .nilIface]) ∧ Tu w' own p E (rowsAt (natsOf R) V R.length 0) ∧ ∀ k, own k → w.heap.size ≤ k) ∨ (¬ OkL E V R ∧ e = .returned (.tuple #[.pointer none, errno 3])))
theorem rowsAt_flat {R : List (List Int)} {V n k : Nat} (hn : n < V) : (rowsAt (natsOf R) V n k).flatten = (pre R n k).map Int.toNat := by
  have h1 : rowsAt (natsOf R) V n k = (rowsAt (natsOf R) V n k).take n ++ [((natsOf R).getD n []).take k] ++ (rowsAt (natsOf R) V n k).drop (n + 1) := by
    conv => lhs; rw [← List.take_append_drop (n + 1) (rowsAt (natsOf R) V n k), List.take_add_one, rowsAt_get hn, if_neg (Nat.lt_irrefl _), if_pos rfl]
    rfl
  have h2 : ((rowsAt (natsOf R) V n k).drop (n + 1)).flatten = [] := by
    rw [List.flatten_eq_nil_iff]
    intro l hl
    obtain ⟨j, hj⟩ := List.mem_iff_getElem?.1 hl
    rw [List.getElem?_drop] at hj
    have hjV : n + 1 + j < V := by have := (List.getElem?_eq_some_iff.1 hj).1; rwa [rowsAt_length] at this
    rw [rowsAt_get hjV, if_neg (by omega), if_neg (by omega)] at hj
    exact (Option.some.inj hj).symm
  have h3 : ∀ i, i ≤ n → ((rowsAt (natsOf R) V n k).take i).flatten = ((R.take i).flatten).map Int.toNat := by
    intro i
    induction i with
    | zero => intro _; simp
    | succ i ih =>
      intro hi
      rw [List.take_add_one, rowsAt_get (by omega), if_pos (by omega), List.take_add_one, List.flatten_append, List.flatten_append, List.map_append, ih (by omega)]
      congr 1
      cases hR : R[i]? with
      | none => simp [natsOf, hR]
      | some l => rw [natsOf_getD hR]; simp
  rw [h1, List.flatten_append, List.flatten_append, h2, List.append_nil, h3 n (Nat.le_refl _)]
  unfold pre
  rw [List.map_append, List.flatten_singleton]
  congr 1
  cases hR : R[n]? with
  | none => rw [List.getD_eq_getElem?_getD, List.getD_eq_getElem?_getD]; simp [natsOf, hR]
  | some l => rw [natsOf_getD hR, getD_someI hR, List.map_take]
theorem rowsAt_wf {E V n k : Nat} {R : List (List Int)} (hn : n < V) (h : GoodP E (pre R n k)) : WF E (rowsAt (natsOf R) V n k) := by
  refine ⟨fun l hl d hd => ?_, ?_⟩
  · have hm : d ∈ (rowsAt (natsOf R) V n k).flatten := List.mem_flatten.2 ⟨l, hl, hd⟩
    rw [rowsAt_flat hn] at hm
    obtain ⟨z, hz, rfl⟩ := List.mem_map.1 hm
    have := h.1 z hz
    omega
  · rw [rowsAt_flat hn]
    unfold List.Nodup
    rw [List.pairwise_map]
    refine List.Pairwise.imp_of_mem (fun {a b} ha hb hne e => ?_) h.2
    have h1 := (h.1 a ha).1
    have h2 := (h.1 b hb).1
    exact hne (by omega)
theorem rowsAt_stand {E V n k : Nat} {R : List (List Int)} (hn : n < V) (h : GoodP E (pre R n k)) (d : Nat) : Stands (rowsAt (natsOf R) V n k) d ↔ (d : Int) ∈ pre R n k := by
  unfold Stands
  rw [rowsAt_flat hn, List.mem_map]
  constructor
  · rintro ⟨z, hz, e⟩
    have := h.1 z hz
    have e2 : z = (d : Int) := by omega
    exact e2 ▸ hz
  · intro q; exact ⟨_, q, by omega⟩
theorem rowsAt_fnd {E V n k : Nat} {R : List (List Int)} (hn : n < V) (h : GoodP E (pre R n k)) {d : Int} (h0 : 0 ≤ d) : decide (0 ≤ fndV (rowsAt (natsOf R) V n k) d) = decide (d ∈ pre R n k) := by
  obtain ⟨m, rfl⟩ := Int.eq_ofNat_of_zero_le h0
  have hs := rowsAt_stand hn h m
  by_cases hq : Stands (rowsAt (natsOf R) V n k) m
  · rw [(fndV_at (rowsAt_wf hn h) hq).1, decide_eq_true (hs.1 hq), decide_eq_true (by omega)]
  · rw [fndV_neg hq, decide_eq_false (fun q => hq (hs.2 q))]; rfl
theorem rowsAt_set {N : List (List Nat)} {V n k : Nat} {l : List Nat} (hn : n < V) (hl : N.getD n [] = l) (hk : k < l.length) : (rowsAt N V n k).set n (l.take k ++ [l.getD k 0]) = rowsAt N V n (k + 1) := by
  apply List.ext_getElem?
  intro u
  rw [set_get (by rw [rowsAt_length]; exact hn)]
  by_cases h : u < V
  · rw [rowsAt_get h, rowsAt_get h]
    by_cases h2 : u = n
    · subst h2; rw [if_pos rfl, if_neg (Nat.lt_irrefl _), if_pos rfl, hl, take_next hk]
    · rw [if_neg h2, if_neg h2, if_neg h2]
  · rw [if_neg (by omega), List.getElem?_eq_none (by rw [rowsAt_length]; omega), List.getElem?_eq_none (by rw [rowsAt_length]; omega)]
/-- A row as what is appended. -/
theorem LRow.src {w : World} {B : Nat} {u : Value} {l : List Nat} (h : LRow w B u l) : Src w u l.length 1 (nats l) := by
  by_cases h0 : l = []
  · exact .inl ⟨h.2 h0, by rw [h0]; rfl, by rw [h0]; rfl⟩
  · rcases h.1.2 with ⟨_, e⟩ | ⟨g, c, cur, rfl, _⟩
    · exact absurd (List.eq_nil_of_length_eq_zero e) h0
    · exact .inr ⟨⟨g, 0, none⟩, c, rfl, h.1.1, h.1.cells rfl, fun u hu => by
        unfold nats at hu
        obtain ⟨x, _, rfl⟩ := List.mem_map.1 hu
        rfl⟩
/-- The darts that are laid, below n. -/
def dartsN (L : List (List Nat)) (n : Nat) : List Nat := (List.range n).filter fun d => decide (Stands L d)
theorem dartsN_step (L : List (List Nat)) (n : Nat) : dartsN L (n + 1) = if Stands L n then dartsN L n ++ [n] else dartsN L n := by
  unfold dartsN
  rw [List.range_succ, List.filter_append]
  by_cases h : Stands L n
  · rw [if_pos h]; simp [h]
  · rw [if_neg h]; simp [h]
theorem dartsN_le (L : List (List Nat)) (n : Nat) : (dartsN L n).length ≤ n := by
  unfold dartsN
  exact Nat.le_trans (List.length_filter_le _ _) (by simp)
theorem mem_darts {E : Nat} {L : List (List Nat)} (h : WF E L) {d : Nat} : d ∈ dartsN L (2 * E) ↔ Stands L d := by
  unfold dartsN
  rw [List.mem_filter, List.mem_range]
  constructor
  · rintro ⟨_, q⟩; exact of_decide_eq_true q
  · intro q; exact ⟨h.bdS q, decide_eq_true q⟩
theorem owns_low {w : World} {b c : Nat} {t : TypeId} {s : Nat} {v : Value} {n : Nat} {xs : List Value} (h : w.ownsRow c t s v n xs) (hb : b ≤ c) : w.ownsRow b t s v n xs := by
  refine ⟨h.1, ?_⟩
  rcases h.2 with h2 | ⟨g, cap, cur, e, hg, r⟩
  · exact Or.inl h2
  · exact Or.inr ⟨g, cap, cur, e, Nat.le_trans hb hg, r⟩
/-- A list told: a slice that is the call's own. -/
def DsPost (l : List Nat) (w : World) (e : Ending) (w' : World) : Prop := ∃ u, e = .returned u ∧ w'.ownsRow w.heap.size 3 1 u l.length (nats l) ∧ Keeps (fun _ => False) w w'
section
variable {w : World} {B E : Nat} {v : Value} {L : List (List Nat)}
set_option maxHeartbeats 4000000 in
theorem rdarts (h : LsRow w B v L) (hw : WF E L) (h0 : 0 < L.length) (hV : L.length ≤ 1048576) (hE : E ≤ 1048576) :
    Calls Tryd.prog 51 #[rval E v] w (DsPost (dartsN L (2 * E)) w) := by
  obtain ⟨i0, hi, hz0, hz1, hz2⟩ := info_parts infoI
  obtain ⟨va, vc, rfl⟩ := h.form
  generalize hW : w.alloc (.cells #[.int .i64 (E : Int), .slice va L.length vc] 27) = w0
  have hK0 : Keeps (fun _ => False) w w0 := by rw [← hW]; exact (Keeps.refl _ _).alloc _
  have HB : Hid (Blk w0 w.heap.size #[.int .i64 (E : Int), .slice va L.length vc] 27) := by rw [← hW]; exact Lib.hid (Blk.new _ _ _)
  have HFD := Lib.hid (fun W (hk : Keeps (fun _ => False) w0 W) d => rfind ((h.keep hK0).keep hk) hw h0 hV hE d)
  have HK0 := Lib.hid hK0
  have hwE : wrap64 (2 * (E : Int)) = 2 * (E : Int) := by unfold wrap64; omega
  unfold RetPost rval at HFD
  unfold DsPost rval
  clear hK0 h
  go_enter Tryd.func51, Tryd.ntmps51
  go_upto_region 1 with fail
  clear hW
  go_upto_region 3 with fail
  go_loopw [3, 4] (fun t i wr => ∃ (d : Nat), d ≤ 2 * E ∧ i = .int .i64 (d : Int) ∧ Hid (wr.ownsRow w0.heap.size 3 1 t (dartsN L d).length (nats (dartsN L d)) ∧ Keeps (fun _ => False) w0 wr)) (fun _ i _ => 2 * E - (intOf i).toNat)
  case atStart => exact ⟨0, Nat.zero_le _, rfl, Lib.hid ⟨World.ownsRow_nil _ _ _ _, Keeps.refl _ _⟩⟩
  case round =>
    obtain ⟨d, hd, rfl, HR⟩ := hrel
    obtain ⟨x0, x1, _, _, _⟩ := (HB.out.kept HR.out.2 id).cells
    by_cases hdE : d < 2 * E
    · have hdI : (d : Int) < 2 * (E : Int) := by omega
      have hle := dartsN_le L d
      have hst := dartsN_step L d
      have hfv := fun hs => (fndV_at hw (d := d) hs).1
      have hfn := fun hs => fndV_neg (L := L) (d := d) hs
      go_wp2_with fail
      with_reducible refine (HFD.out _ HR.out.2 _).mono ?_
      rintro e w5 ⟨rfl, hk5⟩
      have HK5 := Lib.hid (HR.out.2.trans' hk5)
      have HO5 := Lib.hid (ownsRow_kept HR.out.1 hk5 fun _ _ => id)
      have hown := HO5.out
      have hB5 : w0.heap.size ≤ w5.heap.size := HK5.out.size
      clear hk5
      by_cases hs : Stands L d
      · have hd1 : decide (0 ≤ fndV L (d : Int)) = true := by rw [hfv hs]; simp
        rw [if_pos hs] at hst
        have HST := Lib.hid hst
        clear hfv hfn hs hst
        generalize fndV L (d : Int) = fv at *
        generalize fndI L (d : Int) = fi at *
        go_wp2_with (first | (at_builtin; refine wpList_app1 rfl _ _ 23 rfl w0.heap.size 3 i0 (.int .i64 0) 1 8 Tryd.underlying23 hi hz0 hz1 hz2 rfl (by decide) _ _ _ rfl hown _ 1 1 [.int .i64 (d : Int)] 3 rfl rfl rfl ?c1 ?c2 ?c3 ?c4 ?_))
        case c1 => simp [Value.oneCell']
        case c2 => unfold maxLen; omega
        case c3 => omega
        case c4 => exact hB5
        intro v7 w7 ho hk7 _ _ _
        have HN : Hid (w7.ownsRow w0.heap.size 3 1 v7 (dartsN L (d + 1)).length (nats (dartsN L (d + 1))) ∧ Keeps (fun _ => False) w0 w7) := by
          refine Lib.hid ⟨?_, HK5.out.thin hk7 fun i e => (HO5.out.lt i e).1⟩
          rw [HST.out, nats_append, List.length_append]; exact ho
        clear ho hk7 hown
        go_wp2_with fail
        exact ⟨⟨d + 1, by omega, by simp, HN⟩, by simp [intOf]; omega⟩
      · have hd1 : decide (0 ≤ fndV L (d : Int)) = false := by rw [hfn hs]; rfl
        rw [if_neg hs] at hst
        have HN : Hid (w5.ownsRow w0.heap.size 3 1 u3 (dartsN L (d + 1)).length (nats (dartsN L (d + 1))) ∧ Keeps (fun _ => False) w0 w5) := Lib.hid ⟨by rw [hst]; exact hown, HK5.out⟩
        clear hfv hfn hs hst hown
        generalize fndV L (d : Int) = fv at *
        generalize fndI L (d : Int) = fi at *
        go_wp2_with fail
        exact ⟨⟨d + 1, by omega, by simp, HN⟩, by simp [intOf]; omega⟩
    · obtain rfl : d = 2 * E := by omega
      have hlE : decide (2 * (E : Int) < 2 * (E : Int)) = false := by simp
      have HKF := Lib.hid (HK0.out.trans' HR.out.2)
      go_wp2_with fail
      go_ret
      exact ⟨_, rfl, owns_low HR.out.1 HK0.out.size, HKF.out⟩
end
end Go.Proofs.YtdplphhlclhmfaaDoor
