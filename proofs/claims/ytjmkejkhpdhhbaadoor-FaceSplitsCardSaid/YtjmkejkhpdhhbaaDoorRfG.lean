/- The document's Lift. -/
import Derived.Test.YtjmkejkhpdhhbaaDoorRfF
namespace Go.Proofs.YtjmkejkhpdhhbaaDoor
open Go Go.RowKit
set_option linter.unusedVariables false
set_option linter.unusedSimpArgs false
set_option maxRecDepth 100000

theorem ar_del {i n E : Nat} (h : i < n) (hn : n ≤ 2 * E) (hE : E ≤ 1048576) : 0 + i ≤ maxLen ∧ (0 + i) * 8 ≤ 140737488355328 ∧ 0 + i + (n - (i + 1)) ≤ maxLen ∧ (0 + i + (n - (i + 1))) * 8 ≤ 140737488355328 := by
  unfold maxLen
  exact ⟨by omega, by omega, by omega, by omega⟩
theorem remL_set {E : Nat} {L : List (List Nat)} (h : WF E L) {v i : Nat} {l : List Nat} (hv : L[v]? = some l) (hi : i < l.length) : L.set v (l.take i ++ l.drop (i + 1)) = remL L (l.getD i 0) := by
  have hvl := (List.getElem?_eq_some_iff.1 hv).1
  apply List.ext_getElem?
  intro u
  rw [set_get hvl, remL_get]
  by_cases e : u = v
  · subst e
    rw [if_pos rfl, hv, Option.map_some, getD_at hi, filter_at (h.nd hv) hi]
  · rw [if_neg e]
    cases hu : L[u]? with
    | none => rfl
    | some m =>
      rw [Option.map_some, List.filter_eq_self.2]
      intro x hx
      simp only [bne_iff_ne]
      rintro rfl
      exact e (h.one hu hv hx (getD_mem hi))
/-- What is left behind k darts taken away. -/
def LK (L : List (List Nat)) (n k : Nat) : List (List Nat) := if k = 0 then L else if k = 1 then remL L (2 * n) else liftL L n
theorem LK_wf {E : Nat} {L : List (List Nat)} (h : WF E L) (n k : Nat) : WF E (LK L n k) := by
  unfold LK liftL; split
  · exact h
  · split
    · exact remL_wf h
    · exact remL_wf (remL_wf h)
theorem LK_length (L : List (List Nat)) (n k : Nat) : (LK L n k).length = L.length := by
  unfold LK liftL; split
  · rfl
  · split <;> simp [remL_length]
theorem LK_step (L : List (List Nat)) (n k : Nat) (hk : k < 2) : remL (LK L n k) (2 * n + k) = LK L n (k + 1) := by
  rcases (show k = 0 ∨ k = 1 by omega) with rfl | rfl
  · rfl
  · rfl
theorem LK_stands {E : Nat} {L : List (List Nat)} (h : Good E L) {n k : Nat} (hs : Stands L (2 * n)) (hk : k < 2) : Stands (LK L n k) (2 * n + k) := by
  rcases (show k = 0 ∨ k = 1 by omega) with rfl | rfl
  · exact hs
  · exact remL_stands.2 ⟨by omega, (h.pair n).2 hs⟩
/-- The round's start: the box, the lists, what is handed back. -/
structure LiftAt (w : World) (B E : Nat) (Lk : List (List Nat)) (a : Option Addr) (c : Nat) (wr : World) : Prop where
  t : Blk wr w.heap.size #[.int .i64 (E : Int), .slice a Lk.length c] 32
  r : Blk wr (w.heap.size + 1) #[.int .i64 0, .slice none 0 0] 32
  l : LsRow wr B (.slice a Lk.length c) Lk
  k : Keeps (fun _ => False) w wr
end Go.Proofs.YtjmkejkhpdhhbaaDoor
