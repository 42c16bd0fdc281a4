/- Chapter 10's laws: both turns in memory, act by act. -/
import Derived.Test.YtjmkejkhpdhhbaaDoorLwE
import Derived.Test.YtjmkejkhpdhhbaaDoorOpenA
namespace Go.Proofs.YtjmkejkhpdhhbaaDoor
open Go Go.RowKit
set_option linter.unusedVariables false
set_option linter.unusedSimpArgs false
set_option maxRecDepth 100000

def actsV (l : List Act10) : List Value := l.flatMap actCells
theorem actsV_length (l : List Act10) : (actsV l).length = l.length * 6 := by
  induction l with
  | nil => rfl
  | cons p l ih => simp only [actsV, List.flatMap_cons] at ih ⊢; simp [ih, actCells]; omega
theorem actsV_get (l : List Act10) (i j : Nat) (h : i < l.length) (hj : j < 6) : (actsV l)[i * 6 + j]? = (actCells l[i])[j]? := by
  induction l generalizing i with
  | nil => simp at h
  | cons p l ih =>
    cases i with
    | zero => simp only [actsV, List.flatMap_cons, Nat.zero_mul, Nat.zero_add, List.getElem_cons_zero]; rw [List.getElem?_append_left (by simpa [actCells] using hj)]
    | succ i =>
      have := ih i (by simpa using h)
      simp only [actsV, List.flatMap_cons] at this ⊢
      rw [List.getElem?_append_right (by simp [actCells]; omega)]
      rw [show (i + 1) * 6 + j - (actCells p).length = i * 6 + j by simp [actCells]; omega, List.getElem_cons_succ]
      exact this
theorem actsAt {w : World} {a : Option Addr} {l : List Act10} (hr : Rd w a (actsV l)) (i : Nat) (hi : i < l.length) : ∃ b off, a = some ⟨b, off, none⟩ ∧ b < w.heap.size ∧ w.cell? ⟨b, off + i * 6, none⟩ = some (.int .i64 l[i].kind) ∧ w.cell? ⟨b, off + i * 6 + 1, none⟩ = some (.int .i64 l[i].e) ∧
    w.cell? ⟨b, off + i * 6 + 2, none⟩ = some (.int .i64 l[i].a.1) ∧ w.cell? ⟨b, off + i * 6 + 3, none⟩ = some (.int .i64 l[i].a.2) ∧ w.cell? ⟨b, off + i * 6 + 4, none⟩ = some (.int .i64 l[i].b.1) ∧ w.cell? ⟨b, off + i * 6 + 5, none⟩ = some (.int .i64 l[i].b.2) := by
  have hl := actsV_length l
  obtain ⟨b, off, rfl, hc⟩ := hr.at_ (i * 6) (by omega)
  have hg := fun j (hj : j < 6) => (hc (i * 6 + j) (by omega)).trans (actsV_get l i j hi hj)
  refine ⟨b, off, rfl, World.block_lt_of_cell? w _ (hg 0 (by decide)), hg 0 (by decide), ?_, ?_, ?_, ?_, ?_⟩
  · rw [Nat.add_assoc]; exact hg 1 (by decide)
  · rw [Nat.add_assoc]; exact hg 2 (by decide)
  · rw [Nat.add_assoc]; exact hg 3 (by decide)
  · rw [Nat.add_assoc]; exact hg 4 (by decide)
  · rw [Nat.add_assoc]; exact hg 5 (by decide)

/-- A law's state: both turns tell the lists. -/
structure LawAt (w0 : World) (own : Nat → Prop) (p Et E B V bx : Nat) (L : List (List Nat)) (v : Value) (wr : World) : Prop where
  good : Good E L
  len : L.length = V
  tu : Tu wr own p Et L
  ls : LsRow wr B v L
  box : Blk wr bx #[.int .i64 (E : Int), v] 32
  kp : Keeps (fun _ => False) w0 wr
  low : ∀ k, own k → w0.heap.size ≤ k ∧ k < B
  bxB : B ≤ bx
  bB : w0.heap.size ≤ B
section
variable {w0 wr w1 w2 : World} {own : Nat → Prop} {p Et E B V bx : Nat} {L : List (List Nat)} {v : Value}
theorem LawAt.keep (h : LawAt w0 own p Et E B V bx L v wr) (hk : Keeps (fun _ => False) wr w1) : LawAt w0 own p Et E B V bx L v w1 :=
  ⟨h.good, h.len, h.tu.keep hk, h.ls.keep hk, h.box.kept hk id, h.kp.trans' hk, h.low, h.bxB, h.bB⟩
theorem LawAt.nbx (h : LawAt w0 own p Et E B V bx L v wr) : ¬ own bx := fun q => by have := h.low _ q; have := h.bxB; omega
theorem LawAt.nold (h : LawAt w0 own p Et E B V bx L v wr) {b : Nat} (hb : b < w0.heap.size) : ¬ own b := fun q => by have := h.low _ q; omega
theorem ErrT.lt {w : World} (h : ErrT w) : 0 < w.heap.size := World.block_lt_of_cell? w _ h
theorem LawAt.thin (h : LawAt w0 own p Et E B V bx L v wr) (hk : Keeps own wr w1) : Keeps (fun _ => False) w0 w1 := h.kp.thin hk fun i q => (h.low i q).1
theorem LawAt.step {L' : List (List Nat)} {a : Option Addr} {n c : Nat} (h : LawAt w0 own p Et E B V bx L v wr) (hk : Keeps own wr w1) (tu : Tu w1 own p Et L') (ls : LsRow w1 B (.slice a n c) L') (hw : Keeps (fun _ => False) w1 w2) (hg : Good E L') (hl : L'.length = V) :
    LawAt w0 own p Et E B V bx L' (.slice a n c) ((w2.setCell ⟨bx, 0, none⟩ (.int .i64 (E : Int))).setCell ⟨bx, 1, none⟩ (.slice a n c)) := by
  have hb : Blk w2 bx #[.int .i64 (E : Int), v] 32 := (h.box.kept hk h.nbx).kept hw id
  have hkb : Keeps (fun k => k = bx) w2 ((w2.setCell ⟨bx, 0, none⟩ (.int .i64 (E : Int))).setCell ⟨bx, 1, none⟩ (.slice a n c)) := ((Keeps.refl (fun k => k = bx) w2).setIn bx 0 _ rfl).setIn bx 1 _ rfl
  exact ⟨hg, hl, (tu.keep hw).kept hkb fun k q e => h.nbx (e ▸ q), (ls.keep hw).setOther hb (by decide) (by decide) hkb, Blk.set2 hb, ((h.thin hk).trans' hw).thin hkb fun i q => by have := h.bxB; have := h.bB; omega, h.low, h.bxB, h.bB⟩
theorem LawAt.cells (h : LawAt w0 own p Et E B V bx L v wr) : wr.cell? ⟨bx, 0, none⟩ = some (.int .i64 (E : Int)) ∧ wr.cell? ⟨bx, 1, none⟩ = some v ∧ wr.frozen? ⟨bx, 0, none⟩ = false ∧ wr.frozen? ⟨bx, 1, none⟩ = false ∧ bx < wr.heap.size := h.box.cells
theorem LawAt.act (h : LawAt w0 own p Et E B V bx L v wr) (hE : ErrT w0) (hk : Keeps (fun _ => False) wr w1) (x : Act10) (hr : Room E Et x.e) :
    Calls Tryd.prog 18 #[tptr p, rval E v, actVal x] w1 (DoPost own p Et E B (actL E L x) w1) :=
  do10 (h.tu.keep hk) (h.ls.keep hk) h.good ((hE.keep h.kp).keep hk) (fun k q => (h.low k q).2) (h.nold hE.lt) x hr
end
end Go.Proofs.YtjmkejkhpdhhbaaDoor
