/- An arena in memory: its head, its places, what is taken of them. -/
import Derived.Test.YtiphdlhnoceeiaaDoorL2d
import Derived.Laws.OwnMore
namespace Go.Proofs.YtiphdlhnoceeiaaDoor
open Go Go.RowKit
set_option linter.unusedVariables false
set_option linter.unusedSimpArgs false

theorem Blk.quiet {w w' : World} {b : Nat} {cs : Array Value} {t : TypeId} (h : Blk w b cs t) (hk : Keeps (fun _ => False) w w') : Blk w' b cs t := h.kept hk id

/-- Places as values, two cells each. -/
def plVals (L : List (Int × Int)) : List Value := L.flatMap fun p => [Value.int .u32 p.1, .int .i64 p.2]
theorem plVals_length (L : List (Int × Int)) : (plVals L).length = L.length * 2 := by
  induction L with
  | nil => rfl
  | cons p L ih => simp only [plVals, List.flatMap_cons] at ih ⊢; simp [ih]; omega
theorem plVals_get (L : List (Int × Int)) (i : Nat) (h : i < L.length) : (plVals L)[i * 2]? = some (.int .u32 L[i].1) ∧ (plVals L)[i * 2 + 1]? = some (.int .i64 L[i].2) := by
  induction L generalizing i with
  | nil => simp at h
  | cons p L ih =>
    cases i with
    | zero => simp [plVals]
    | succ i =>
      have := ih i (by simpa using h)
      simp only [plVals, List.flatMap_cons] at this ⊢
      rw [List.getElem?_append_right (by simp; omega), List.getElem?_append_right (by simp; omega)]
      simp only [List.length_cons, List.length_nil, List.getElem_cons_succ]
      rw [show (i + 1) * 2 - (0 + 1 + 1) = i * 2 from by omega, show (i + 1) * 2 + 1 - (0 + 1 + 1) = i * 2 + 1 from by omega]
      exact this
theorem plVals_append (L M : List (Int × Int)) : plVals (L ++ M) = plVals L ++ plVals M := by simp [plVals]
theorem plVals_set (L : List (Int × Int)) (i : Nat) (a s : Int) (h : i < L.length) : ((plVals L).set (i * 2) (.int .u32 a)).set (i * 2 + 1) (.int .i64 s) = plVals (L.set i (a, s)) := by
  induction L generalizing i with
  | nil => simp at h
  | cons p L ih =>
    cases i with
    | zero => simp [plVals]
    | succ i =>
      have := ih i (by simpa using h)
      simp only [plVals, List.flatMap_cons, List.set_cons_succ] at this ⊢
      rw [show (i + 1) * 2 = i * 2 + 1 + 1 from by omega]
      simp only [List.cons_append, List.nil_append, List.set_cons_succ]
      rw [this]
theorem plVals_set1 (L : List (Int × Int)) (i : Nat) (s : Int) (h : i < L.length) : (plVals L).set (i * 2 + 1) (.int .i64 s) = plVals (L.set i (L[i].1, s)) := by
  rw [← plVals_set L i L[i].1 s h]
  congr 1
  obtain ⟨h1, _⟩ := plVals_get L i h
  rw [List.getElem?_eq_some_iff] at h1
  obtain ⟨h0, h1⟩ := h1
  rw [← h1, List.set_getElem_self]

/-- Which places are taken: those told and not free. -/
def tak (L : List (Int × Int)) (i : Nat) : Bool := match L[i]? with
  | some p => p.2 != 0
  | none => false
/-- How many are live. -/
def liv (L : List (Int × Int)) : Nat := L.countP fun p => p.2 == 1
def OkP (p : Int × Int) : Prop := 0 ≤ p.1 ∧ p.1 ≤ 4294967295 ∧ (p.2 = 0 ∧ p.1 ≠ 4294967295 ∨ p.2 = 1 ∧ p.1 ≠ 0 ∨ p.2 = 2 ∧ p.1 = 4294967295)

theorem tak_out (L : List (Int × Int)) (i : Nat) (h : L.length ≤ i) : tak L i = false := by simp [tak, List.getElem?_eq_none h]
theorem tak_in (L : List (Int × Int)) (i : Nat) (h : i < L.length) : tak L i = (L[i].2 != 0) := by simp [tak, List.getElem?_eq_getElem h]
theorem tak_free (L : List (Int × Int)) (a : Int) : tak (L ++ [(a, 0)]) = tak L := by
  funext i
  by_cases h : i < L.length
  · rw [tak_in _ _ (by simp; omega), tak_in _ _ h, List.getElem_append_left h]
  · by_cases h2 : i = L.length
    · subst h2; rw [tak_out L _ (Nat.le_refl _), tak_in _ _ (by simp)]; simp
    · rw [tak_out L _ (by omega), tak_out _ _ (by simp; omega)]
theorem tak_set (L : List (Int × Int)) (i : Nat) (p : Int × Int) (h : i < L.length) : tak (L.set i p) = upd (tak L) i (p.2 != 0) := by
  funext j
  by_cases e : j = i
  · subst e; rw [tak_in _ _ (by simpa using h)]; simp [upd]
  · simp [tak, upd, e, List.getElem?_set, Ne.symm e]
theorem liv_set (L : List (Int × Int)) (i : Nat) (p : Int × Int) (h : i < L.length) : liv (L.set i p) + (if L[i].2 = 1 then 1 else 0) = liv L + if p.2 = 1 then 1 else 0 := by
  induction L generalizing i with
  | nil => simp at h
  | cons q L ih =>
    cases i with
    | zero =>
      simp only [liv, List.set_cons_zero, List.countP_cons, List.getElem_cons_zero, beq_iff_eq]
      omega
    | succ i =>
      have := ih i (by simpa using h)
      simp only [liv, List.set_cons_succ, List.countP_cons, List.getElem_cons_succ] at this ⊢
      omega
theorem liv_append (L : List (Int × Int)) (a : Int) : liv (L ++ [(a, 0)]) = liv L := by simp [liv, List.countP_append]
theorem liv_le (L : List (Int × Int)) : liv L ≤ L.length := List.countP_le_length

/-- An arena's blocks: head p, its places v, the places' bits at b. -/
structure AX (w : World) (p b n : Nat) (ownS : Nat → Prop) (v : Value) (L : List (Int × Int)) (S : Nat → Bool) (lv : Int) : Prop where
  head : Blk w p #[.int .i64 n, v, .pointer (some ⟨b, 0, none⟩), .int .i64 lv] 109
  row : w.ownsRow 0 72 2 v L.length (plVals L)
  sl : Sl w b ownS n S
  d1 : ¬ ownS p
  d2 : ∀ g, v.ownBlock = some g → g ≠ p ∧ ¬ ownS g
def AX.own (p : Nat) (ownS : Nat → Prop) (v : Value) (k : Nat) : Prop := k = p ∨ ownS k ∨ v.ownBlock = some k

section
variable {w w' : World} {p b n : Nat} {ownS : Nat → Prop} {v : Value} {L : List (Int × Int)} {S T : Nat → Bool} {lv : Int}

theorem AX.kept {fp : Nat → Prop} (h : AX w p b n ownS v L S lv) (hk : Keeps fp w w') (hd : ∀ k, AX.own p ownS v k → ¬ fp k) : AX w' p b n ownS v L S lv :=
  ⟨h.head.kept hk (hd _ (.inl rfl)), ownsRow_kept h.row hk (fun k e => hd _ (.inr (.inr e))), h.sl.kept hk (fun k e => hd _ (.inr (.inl e))), h.d1, h.d2⟩
theorem AX.keep (h : AX w p b n ownS v L S lv) (hk : Keeps (fun _ => False) w w') : AX w' p b n ownS v L S lv := h.kept hk fun _ _ => id
theorem AX.lt (h : AX w p b n ownS v L S lv) (k : Nat) (hk : AX.own p ownS v k) : k < w.heap.size := by
  rcases hk with rfl | hk | hk
  · exact h.head.lt
  · exact h.sl.lt k hk
  · exact (h.row.lt k hk).2
/-- The bits changed. -/
theorem AX.bits (h : AX w p b n ownS v L S lv) (hk : Keeps ownS w w') (hs : Sl w' b ownS n T) : AX w' p b n ownS v L T lv :=
  ⟨h.head.kept hk h.d1, ownsRow_kept h.row hk (fun k e => (h.d2 k e).2), hs, h.d1, h.d2⟩
/-- How many live: told anew. -/
theorem AX.live (h : AX w p b n ownS v L S lv) (x : Int) : AX (w.setCell ⟨p, 3, none⟩ (.int .i64 x)) p b n ownS v L S x := by
  have hk : Keeps (fun k => k = p) w (w.setCell ⟨p, 3, none⟩ (.int .i64 x)) := (Keeps.refl _ _).setCell _ _ fun _ => rfl
  exact ⟨h.head.set 3 _, ownsRow_kept h.row hk (fun k e => (h.d2 k e).1), h.sl.kept hk (fun k e q => h.d1 (q ▸ e)), h.d1, h.d2⟩
/-- Other places. -/
theorem AX.places {v' : Value} {M : List (Int × Int)} (h : AX w p b n ownS v L S lv) (hr : w.ownsRow 0 72 2 v' M.length (plVals M)) (hd : ∀ g, v'.ownBlock = some g → g ≠ p ∧ ¬ ownS g) :
    AX (w.setCell ⟨p, 1, none⟩ v') p b n ownS v' M S lv := by
  have hk : Keeps (fun k => k = p) w (w.setCell ⟨p, 1, none⟩ v') := (Keeps.refl _ _).setCell _ _ fun _ => rfl
  exact ⟨h.head.set 1 _, ownsRow_kept hr hk (fun k e => (hd k e).1), h.sl.kept hk (fun k e q => h.d1 (q ▸ e)), h.d1, hd⟩
theorem AX.c0 (h : AX w p b n ownS v L S lv) : w.cell? ⟨p, 0, none⟩ = some (.int .i64 n) := by rw [h.head.cell]; rfl
theorem AX.c1 (h : AX w p b n ownS v L S lv) : w.cell? ⟨p, 1, none⟩ = some v := by rw [h.head.cell]; rfl
theorem AX.c2 (h : AX w p b n ownS v L S lv) : w.cell? ⟨p, 2, none⟩ = some (.pointer (some ⟨b, 0, none⟩)) := by rw [h.head.cell]; rfl
theorem AX.c3 (h : AX w p b n ownS v L S lv) : w.cell? ⟨p, 3, none⟩ = some (.int .i64 lv) := by rw [h.head.cell]; rfl
theorem AX.f (h : AX w p b n ownS v L S lv) (i : Nat) : w.frozen? ⟨p, i, none⟩ = false := h.head.free i
theorem AX.some_ (h : AX w p b n ownS v L S lv) (hl : 0 < L.length) : ∃ g c, v = .slice (some ⟨g, 0, none⟩) L.length c ∧ L.length ≤ c := by
  rcases h.row.2 with ⟨_, h0⟩ | ⟨g, c, cur, rfl, _, _, hc, _⟩
  · omega
  · exact ⟨g, c, rfl, hc⟩
end
section
variable {w w' : World} {p b n g c : Nat} {ownS : Nat → Prop} {L : List (Int × Int)} {S T : Nat → Bool} {lv : Int}
theorem AX.age (h : AX w p b n ownS (.slice (some ⟨g, 0, none⟩) L.length c) L S lv) (i : Nat) (hi : i < L.length) : w.cell? ⟨g, i * 2, none⟩ = some (.int .u32 L[i].1) := by
  rw [h.row.cellAt _ (by omega)]; exact (plVals_get L i hi).1
theorem AX.is (h : AX w p b n ownS (.slice (some ⟨g, 0, none⟩) L.length c) L S lv) (i : Nat) (hi : i < L.length) : w.cell? ⟨g, i * 2 + 1, none⟩ = some (.int .i64 L[i].2) := by
  rw [h.row.cellAt _ (by omega)]; exact (plVals_get L i hi).2
theorem AX.fr (h : AX w p b n ownS (.slice (some ⟨g, 0, none⟩) L.length c) L S lv) (i : Nat) : w.frozen? ⟨g, i, none⟩ = false := h.row.frozenAt i
theorem AX.gp (h : AX w p b n ownS (.slice (some ⟨g, 0, none⟩) L.length c) L S lv) : g ≠ p := (h.d2 g rfl).1
/-- What one place is: told anew. -/
theorem AX.state (h : AX w p b n ownS (.slice (some ⟨g, 0, none⟩) L.length c) L S lv) (i : Nat) (hi : i < L.length) (s : Int) :
    AX (w.setCell ⟨g, i * 2 + 1, none⟩ (.int .i64 s)) p b n ownS (.slice (some ⟨g, 0, none⟩) L.length c) (L.set i (L[i].1, s)) S lv := by
  have hk : Keeps (fun k => k = g) w (w.setCell ⟨g, i * 2 + 1, none⟩ (.int .i64 s)) := (Keeps.refl _ _).setCell _ _ fun _ => rfl
  have hd := h.d2 g rfl
  refine ⟨h.head.kept hk (fun e => hd.1 e.symm), ?_, h.sl.kept hk (fun k e q => hd.2 (q ▸ e)), h.d1, h.d2⟩
  rw [List.length_set, ← plVals_set1 L i s hi]
  exact (h.row.stored _ _).1
/-- One place's age, and what it is: told anew. -/
theorem AX.place (h : AX w p b n ownS (.slice (some ⟨g, 0, none⟩) L.length c) L S lv) (i : Nat) (hi : i < L.length) (a s : Int) :
    AX ((w.setCell ⟨g, i * 2, none⟩ (.int .u32 a)).setCell ⟨g, i * 2 + 1, none⟩ (.int .i64 s)) p b n ownS (.slice (some ⟨g, 0, none⟩) L.length c) (L.set i (a, s)) S lv := by
  have hk : Keeps (fun k => k = g) w ((w.setCell ⟨g, i * 2, none⟩ (.int .u32 a)).setCell ⟨g, i * 2 + 1, none⟩ (.int .i64 s)) := ((Keeps.refl (fun k => k = g) w).setCell ⟨g, i * 2, none⟩ (.int .u32 a) fun _ => rfl).setCell ⟨g, i * 2 + 1, none⟩ (.int .i64 s) fun _ => rfl
  have hd := h.d2 g rfl
  refine ⟨h.head.kept hk (fun e => hd.1 e.symm), ?_, h.sl.kept hk (fun k e q => hd.2 (q ▸ e)), h.d1, h.d2⟩
  rw [List.length_set, ← plVals_set L i a s hi]
  exact ((h.row.stored _ _).1.stored _ _).1
end

/-- What changed lies in the own blocks; the own blocks behind it are those, or new ones. -/
def Step (w : World) (own : Nat → Prop) (w' : World) (own' : Nat → Prop) : Prop := Keeps own w w' ∧ ∀ k, own' k → own k ∨ w.heap.size ≤ k
theorem Step.trans {w w1 w2 : World} {o o1 o2 : Nat → Prop} (h : Step w o w1 o1) (k : Step w1 o1 w2 o2) : Step w o w2 o2 :=
  ⟨h.1.trans k.1 fun i hi e => (h.2 i e).resolve_right (by omega), fun i e => by
    rcases k.2 i e with e | e
    · exact h.2 i e
    · exact .inr (Nat.le_trans h.1.size e)⟩
theorem Step.quiet {w w1 : World} {o : Nat → Prop} (h : Keeps (fun _ => False) w w1) : Step w o w1 o := ⟨h.mono fun _ _ e => e.elim, fun _ e => .inl e⟩

/-- An arena of n places, of which these have been told. -/
structure Ar (w : World) (own : Nat → Prop) (p n : Nat) (L : List (Int × Int)) : Prop where
  ex : ∃ b ownS v, AX w p b n ownS v L (tak L) (liv L) ∧ own = AX.own p ownS v
  le : L.length ≤ n
  ok : ∀ q ∈ L, OkP q
  last : ∀ q, L.getLast? = some q → q.1 ≠ 0
theorem Ar.kept {w w' : World} {own fp : Nat → Prop} {p n : Nat} {L : List (Int × Int)} (h : Ar w own p n L) (hk : Keeps fp w w') (hd : ∀ k, own k → ¬ fp k) : Ar w' own p n L := by
  obtain ⟨⟨b, ownS, v, h1, rfl⟩, h2, h3, h4⟩ := h
  exact ⟨⟨b, ownS, v, h1.kept hk hd, rfl⟩, h2, h3, h4⟩
theorem Ar.keep {w w' : World} {own : Nat → Prop} {p n : Nat} {L : List (Int × Int)} (h : Ar w own p n L) (hk : Keeps (fun _ => False) w w') : Ar w' own p n L := h.kept hk fun _ _ => id
theorem Ar.lt {w : World} {own : Nat → Prop} {p n : Nat} {L : List (Int × Int)} (h : Ar w own p n L) (k : Nat) (hk : own k) : k < w.heap.size := by
  obtain ⟨⟨b, ownS, v, h1, rfl⟩, _⟩ := h
  exact h1.lt k hk
theorem Ar.bound {w : World} {own : Nat → Prop} {p n : Nat} {L : List (Int × Int)} (h : Ar w own p n L) : 1 ≤ n ∧ n ≤ 1048576 := by
  obtain ⟨⟨b, ownS, v, h1, rfl⟩, _⟩ := h
  exact h1.sl.bound
end Go.Proofs.YtiphdlhnoceeiaaDoor
