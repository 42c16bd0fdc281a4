/- The turns in memory. -/
import Derived.Test.YtjmkejkhpdhhbaaDoorProg
import Derived.Test.YtjmkejkhpdhhbaaDoorTuPos
import Derived.Test.YtjmkejkhpdhhbaaDoorRd
namespace Go.Proofs.YtjmkejkhpdhhbaaDoor
open Go Go.RowKit
set_option linter.unusedVariables false
set_option linter.unusedSimpArgs false

def dVals (D : List Dart) : List Value := D.flatMap fun q => [Value.int .i32 q.1, .int .i32 q.2.1, .int .i32 q.2.2]
def i32s (l : List Int) : List Value := l.map fun z => Value.int .i32 z
theorem i32s_get {l : List Int} {i : Nat} {x : Int} (h : l[i]? = some x) : (i32s l).toArray[i]? = some (.int .i32 x) := by simp [i32s, h]
theorem i32s_set (l : List Int) (i : Nat) (x : Int) : (i32s l).toArray.setIfInBounds i (.int .i32 x) = (i32s (l.set i x)).toArray := by simp [i32s, List.map_set]
theorem i32s_length (l : List Int) : (i32s l).length = l.length := by simp [i32s]
theorem dVals_length (D : List Dart) : (dVals D).length = D.length * 3 := by
  induction D with
  | nil => rfl
  | cons q D ih =>
    have : (dVals (q :: D)).length = 3 + (dVals D).length := by simp [dVals]; omega
    rw [this, ih, List.length_cons, Nat.succ_mul]; omega
theorem dVals_get {D : List Dart} {i : Nat} {q : Dart} (h : D[i]? = some q) : (dVals D).toArray[i * 3]? = some (.int .i32 q.1) ∧ (dVals D).toArray[i * 3 + 1]? = some (.int .i32 q.2.1) ∧ (dVals D).toArray[i * 3 + 2]? = some (.int .i32 q.2.2) := by
  induction D generalizing i with
  | nil => simp at h
  | cons a D ih =>
    cases i with
    | zero => simp at h; subst h; simp [dVals]
    | succ i =>
      have := ih (by simpa using h)
      have e : ∀ j, (dVals (a :: D)).toArray[j + 3]? = (dVals D).toArray[j]? := fun j => by simp [dVals]
      rw [show (i + 1) * 3 = i * 3 + 3 by omega, show i * 3 + 3 + 1 = i * 3 + 1 + 3 by omega, show i * 3 + 3 + 2 = i * 3 + 2 + 3 by omega, e, e, e]
      exact this
theorem dVals_setAt (D : List Dart) (i j : Nat) (hj : j < 3) (x : Int) : (dVals D).set (i * 3 + j) (.int .i32 x) = dVals (if j = 0 then setO D i x else if j = 1 then setN D i x else setP D i x) := by
  induction D generalizing i with
  | nil => simp [dVals, setO, setN, setP]
  | cons a D ih =>
    have hj3 : j = 0 ∨ j = 1 ∨ j = 2 := by omega
    cases i with
    | zero => rcases hj3 with rfl | rfl | rfl <;> simp [dVals, setO, setN, setP]
    | succ i =>
      have e : (dVals (a :: D)).set ((i + 1) * 3 + j) (.int .i32 x) = [Value.int .i32 a.1, .int .i32 a.2.1, .int .i32 a.2.2] ++ (dVals D).set (i * 3 + j) (.int .i32 x) := by
        rw [show (i + 1) * 3 + j = i * 3 + j + 3 by omega]
        simp [dVals]
      rw [e, ih]
      rcases hj3 with rfl | rfl | rfl <;> simp [dVals, setO, setN, setP]
theorem dVals_setO (D : List Dart) (i : Nat) (x : Int) : (dVals D).toArray.setIfInBounds (i * 3) (.int .i32 x) = (dVals (setO D i x)).toArray := by
  have := dVals_setAt D i 0 (by decide) x
  simp only [Nat.add_zero, if_true] at this
  rw [← this]; simp
theorem dVals_setN (D : List Dart) (i : Nat) (x : Int) : (dVals D).toArray.setIfInBounds (i * 3 + 1) (.int .i32 x) = (dVals (setN D i x)).toArray := by
  have := dVals_setAt D i 1 (by decide) x
  simp at this
  simp [this]
theorem dVals_setP (D : List Dart) (i : Nat) (x : Int) : (dVals D).toArray.setIfInBounds (i * 3 + 2) (.int .i32 x) = (dVals (setP D i x)).toArray := by
  have := dVals_setAt D i 2 (by decide) x
  simp at this
  simp [this]
theorem set3 (D : List Dart) (i : Nat) (a b c : Int) : setP (setN (setO D i a) i b) i c = D.set i (a, b, c) := by
  apply List.ext_getElem?
  intro j
  rw [setP_get, setN_get, setO_get, List.getElem?_set]
  by_cases e : i = j
  · subst e
    simp
    by_cases h : i < D.length
    · simp [h]
    · rw [List.getElem?_eq_none (by omega)]; simp [h]
  · simp [e]

/-- Turns: their head at p, darts at g1, of each vertex one dart at g2 and how many at g3. -/
structure TX (w : World) (p g1 g2 g3 E V : Nat) (D : List Dart) (ls mn : List Int) : Prop where
  head : Blk w p #[.slice (some ⟨g1, 0, none⟩) (2 * E) (2 * E), .slice (some ⟨g2, 0, none⟩) V V, .slice (some ⟨g3, 0, none⟩) V V] 90
  b1 : Blk w g1 (dVals D).toArray 92
  b2 : Blk w g2 (i32s ls).toArray 21
  b3 : Blk w g3 (i32s mn).toArray 21
  d1 : p ≠ g1 ∧ p ≠ g2 ∧ p ≠ g3 ∧ g1 ≠ g2 ∧ g1 ≠ g3 ∧ g2 ≠ g3
def TX.own (p g1 g2 g3 : Nat) (k : Nat) : Prop := k = p ∨ k = g1 ∨ k = g2 ∨ k = g3
section
variable {w w' : World} {p g1 g2 g3 E V : Nat} {D : List Dart} {ls mn : List Int}
theorem TX.kept {fp : Nat → Prop} (h : TX w p g1 g2 g3 E V D ls mn) (hk : Keeps fp w w') (hd : ∀ k, TX.own p g1 g2 g3 k → ¬ fp k) : TX w' p g1 g2 g3 E V D ls mn :=
  ⟨h.head.kept hk (hd _ (.inl rfl)), h.b1.kept hk (hd _ (.inr (.inl rfl))), h.b2.kept hk (hd _ (.inr (.inr (.inl rfl)))), h.b3.kept hk (hd _ (.inr (.inr (.inr rfl)))), h.d1⟩
theorem TX.keep (h : TX w p g1 g2 g3 E V D ls mn) (hk : Keeps (fun _ => False) w w') : TX w' p g1 g2 g3 E V D ls mn := h.kept hk fun _ _ => id
theorem TX.lt (h : TX w p g1 g2 g3 E V D ls mn) (k : Nat) (hk : TX.own p g1 g2 g3 k) : k < w.heap.size := by
  rcases hk with rfl | rfl | rfl | rfl
  · exact h.head.lt
  · exact h.b1.lt
  · exact h.b2.lt
  · exact h.b3.lt
theorem TX.c0 (h : TX w p g1 g2 g3 E V D ls mn) : w.cell? ⟨p, 0, none⟩ = some (.slice (some ⟨g1, 0, none⟩) (2 * E) (2 * E)) := by rw [h.head.cell]; rfl
theorem TX.c1 (h : TX w p g1 g2 g3 E V D ls mn) : w.cell? ⟨p, 1, none⟩ = some (.slice (some ⟨g2, 0, none⟩) V V) := by rw [h.head.cell]; rfl
theorem TX.c2 (h : TX w p g1 g2 g3 E V D ls mn) : w.cell? ⟨p, 2, none⟩ = some (.slice (some ⟨g3, 0, none⟩) V V) := by rw [h.head.cell]; rfl
theorem TX.dart (h : TX w p g1 g2 g3 E V D ls mn) {d : Nat} {q : Dart} (hd : D[d]? = some q) :
    w.cell? ⟨g1, d * 3, none⟩ = some (.int .i32 q.1) ∧ w.cell? ⟨g1, d * 3 + 1, none⟩ = some (.int .i32 q.2.1) ∧ w.cell? ⟨g1, d * 3 + 2, none⟩ = some (.int .i32 q.2.2) := by
  rw [h.b1.cell, h.b1.cell, h.b1.cell]; exact dVals_get hd
theorem TX.lst (h : TX w p g1 g2 g3 E V D ls mn) {v : Nat} {x : Int} (hv : ls[v]? = some x) : w.cell? ⟨g2, v, none⟩ = some (.int .i32 x) := by rw [h.b2.cell]; exact i32s_get hv
theorem TX.mny (h : TX w p g1 g2 g3 E V D ls mn) {v : Nat} {x : Int} (hv : mn[v]? = some x) : w.cell? ⟨g3, v, none⟩ = some (.int .i32 x) := by rw [h.b3.cell]; exact i32s_get hv
theorem TX.f1 (h : TX w p g1 g2 g3 E V D ls mn) (i : Nat) : w.frozen? ⟨g1, i, none⟩ = false := h.b1.free i
theorem TX.f2 (h : TX w p g1 g2 g3 E V D ls mn) (i : Nat) : w.frozen? ⟨g2, i, none⟩ = false := h.b2.free i
theorem TX.f3 (h : TX w p g1 g2 g3 E V D ls mn) (i : Nat) : w.frozen? ⟨g3, i, none⟩ = false := h.b3.free i
theorem TX.at1 (h : TX w p g1 g2 g3 E V D ls mn) (i : Nat) (v : Value) {D' : List Dart} (e : (dVals D).toArray.setIfInBounds i v = (dVals D').toArray) : TX (w.setCell ⟨g1, i, none⟩ v) p g1 g2 g3 E V D' ls mn := by
  obtain ⟨e1, e2, e3, e4, e5, e6⟩ := h.d1
  exact ⟨h.head.set_other _ _ e1, by have := h.b1.set i v; rwa [e] at this, h.b2.set_other _ _ e4.symm, h.b3.set_other _ _ e5.symm, h.d1⟩
theorem TX.setO (h : TX w p g1 g2 g3 E V D ls mn) (d : Nat) (x : Int) : TX (w.setCell ⟨g1, d * 3, none⟩ (.int .i32 x)) p g1 g2 g3 E V (Proofs.YtjmkejkhpdhhbaaDoor.setO D d x) ls mn := h.at1 _ _ (dVals_setO D d x)
theorem TX.setN (h : TX w p g1 g2 g3 E V D ls mn) (d : Nat) (x : Int) : TX (w.setCell ⟨g1, d * 3 + 1, none⟩ (.int .i32 x)) p g1 g2 g3 E V (Proofs.YtjmkejkhpdhhbaaDoor.setN D d x) ls mn := h.at1 _ _ (dVals_setN D d x)
theorem TX.setP (h : TX w p g1 g2 g3 E V D ls mn) (d : Nat) (x : Int) : TX (w.setCell ⟨g1, d * 3 + 2, none⟩ (.int .i32 x)) p g1 g2 g3 E V (Proofs.YtjmkejkhpdhhbaaDoor.setP D d x) ls mn := h.at1 _ _ (dVals_setP D d x)
theorem TX.set3 (h : TX w p g1 g2 g3 E V D ls mn) (d : Nat) (a b c : Int) :
    TX (((w.setCell ⟨g1, d * 3, none⟩ (.int .i32 a)).setCell ⟨g1, d * 3 + 1, none⟩ (.int .i32 b)).setCell ⟨g1, d * 3 + 2, none⟩ (.int .i32 c)) p g1 g2 g3 E V (D.set d (a, b, c)) ls mn := by
  have := ((h.setO d a).setN d b).setP d c
  rwa [Proofs.YtjmkejkhpdhhbaaDoor.set3] at this
theorem TX.setL (h : TX w p g1 g2 g3 E V D ls mn) (v : Nat) (x : Int) : TX (w.setCell ⟨g2, v, none⟩ (.int .i32 x)) p g1 g2 g3 E V D (ls.set v x) mn := by
  obtain ⟨e1, e2, e3, e4, e5, e6⟩ := h.d1
  exact ⟨h.head.set_other _ _ e2, h.b1.set_other _ _ e4, by have := h.b2.set v (.int .i32 x); rwa [i32s_set] at this, h.b3.set_other _ _ e6.symm, h.d1⟩
theorem TX.setM (h : TX w p g1 g2 g3 E V D ls mn) (v : Nat) (x : Int) : TX (w.setCell ⟨g3, v, none⟩ (.int .i32 x)) p g1 g2 g3 E V D ls (mn.set v x) := by
  obtain ⟨e1, e2, e3, e4, e5, e6⟩ := h.d1
  exact ⟨h.head.set_other _ _ e3, h.b1.set_other _ _ e5, h.b2.set_other _ _ e6, by have := h.b3.set v (.int .i32 x); rwa [i32s_set] at this, h.d1⟩
end

/-- Turns of E edges at most: what stands round each vertex. -/
structure Tu (w : World) (own : Nat → Prop) (p E : Nat) (L : List (List Nat)) : Prop where
  ex : ∃ g1 g2 g3 D ls mn, TX w p g1 g2 g3 E L.length D ls mn ∧ own = TX.own p g1 g2 g3 ∧ Rel E L D ls mn
  e1 : 1 ≤ E
  e2 : E ≤ 1048576
  v1 : 1 ≤ L.length
  v2 : L.length ≤ 1048576
section
variable {w w' : World} {own : Nat → Prop} {p E : Nat} {L : List (List Nat)}
theorem Tu.kept {fp : Nat → Prop} (h : Tu w own p E L) (hk : Keeps fp w w') (hd : ∀ k, own k → ¬ fp k) : Tu w' own p E L := by
  obtain ⟨⟨g1, g2, g3, D, ls, mn, hx, rfl, hr⟩, a, b, c, d⟩ := h
  exact ⟨⟨g1, g2, g3, D, ls, mn, hx.kept hk hd, rfl, hr⟩, a, b, c, d⟩
theorem Tu.keep (h : Tu w own p E L) (hk : Keeps (fun _ => False) w w') : Tu w' own p E L := h.kept hk fun _ _ => id
theorem Tu.lt (h : Tu w own p E L) (k : Nat) (hk : own k) : k < w.heap.size := by
  obtain ⟨⟨g1, g2, g3, D, ls, mn, hx, rfl, hr⟩, _⟩ := h
  exact hx.lt k hk
theorem Tu.wf (h : Tu w own p E L) : WF E L := by
  obtain ⟨⟨g1, g2, g3, D, ls, mn, hx, rfl, hr⟩, _⟩ := h
  exact hr.wf
end
/-- What changed lies in the own blocks. -/
theorem Keeps.setIn {own : Nat → Prop} {a w : World} (h : Keeps own a w) (b i : Nat) (u : Value) (hb : own b) : Keeps own a (w.setCell ⟨b, i, none⟩ u) := h.setCell _ _ fun _ => hb
end Go.Proofs.YtjmkejkhpdhhbaaDoor
