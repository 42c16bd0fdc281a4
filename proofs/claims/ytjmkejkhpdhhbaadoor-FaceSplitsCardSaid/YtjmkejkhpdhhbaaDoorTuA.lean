/- turn: the small readers. -/
import Derived.Test.YtjmkejkhpdhhbaaDoorTuObj
namespace Go.Proofs.YtjmkejkhpdhhbaaDoor
open Go Go.RowKit
set_option linter.unusedVariables false
set_option linter.unusedSimpArgs false
set_option maxRecDepth 100000

def RetPost (v : Value) (w : World) (e : Ending) (w' : World) : Prop := e = .returned v ∧ Keeps (fun _ => False) w w'
/-- A corner's value. -/
def cval (v b : Int) : Value := .agg #[.int .i64 v, .int .i64 b]
def tptr (p : Nat) : Value := .pointer (some ⟨p, 0, none⟩)
theorem half_val (E : Nat) (h : E ≤ 1048576) : wrap64 (((2 * E : Nat) : Int).tdiv 2) = E := by
  rw [show (2 : Int) = ((2 : Nat) : Int) from rfl, ← Int.ofNat_tdiv]
  unfold wrap64; omega
section
variable {w : World} {own : Nat → Prop} {p E : Nat} {L : List (List Nat)}
def vErr (L : List (List Nat)) (v : Int) : Nat := if v < 0 ∨ (L.length : Int) ≤ v then 12 else 0
theorem tvertex (h : Tu w own p E L) (v : Int) : Calls Tryd.prog 58 #[tptr p, .int .i64 v] w fun e w' => e = .returned (errVal (vErr L v)) ∧ w = w' := by
  obtain ⟨⟨g1, g2, g3, D, ls, mn, hx, rfl, hr⟩, _⟩ := h
  have c1 := hx.c1
  clear hx hr
  unfold tptr
  have hcs : v < 0 ∨ (0 ≤ v ∧ (L.length : Int) ≤ v) ∨ (0 ≤ v ∧ v < L.length) := by omega
  have he : vErr L v = if v < 0 ∨ (L.length : Int) ≤ v then 12 else 0 := rfl
  rcases hcs with h1 | ⟨h0, h1⟩ | ⟨h0, h1⟩
  · rw [he, if_pos (.inl h1)]
    clear he
    go_enter Tryd.func58, Tryd.ntmps58
    go_wp2_with fail
    go_ret
    exact ⟨rfl, rfl⟩
  · rw [he, if_pos (.inr h1)]
    clear he
    go_enter Tryd.func58, Tryd.ntmps58
    go_wp2_with fail
    go_ret
    exact ⟨rfl, rfl⟩
  · rw [he, if_neg (by omega)]
    clear he
    go_enter Tryd.func58, Tryd.ntmps58
    go_wp2_with fail
    go_ret
    exact ⟨rfl, rfl⟩
def eErr (E : Nat) (e : Int) : Nat := if e < 0 ∨ (E : Int) ≤ e then 12 else 0
theorem tedge (h : Tu w own p E L) (x : Int) : Calls Tryd.prog 59 #[tptr p, .int .i64 x] w fun e w' => e = .returned (errVal (eErr E x)) ∧ w = w' := by
  have hE := h.e2
  obtain ⟨⟨g1, g2, g3, D, ls, mn, hx, rfl, hr⟩, _⟩ := h
  have c0 := hx.c0
  clear hx hr
  unfold tptr
  have hcs : x < 0 ∨ (0 ≤ x ∧ (E : Int) ≤ x) ∨ (0 ≤ x ∧ x < E) := by omega
  have he : eErr E x = if x < 0 ∨ (E : Int) ≤ x then 12 else 0 := rfl
  have hd := half_val E hE
  rcases hcs with h1 | ⟨h0, h1⟩ | ⟨h0, h1⟩
  · rw [he, if_pos (.inl h1)]
    clear he
    go_enter Tryd.func59, Tryd.ntmps59
    go_wp2_with fail
    go_ret
    exact ⟨rfl, rfl⟩
  · rw [he, if_pos (.inr h1)]
    clear he
    go_enter Tryd.func59, Tryd.ntmps59
    go_wp2_with fail
    go_ret
    exact ⟨rfl, rfl⟩
  · rw [he, if_neg (by omega)]
    clear he
    go_enter Tryd.func59, Tryd.ntmps59
    go_wp2_with fail
    go_ret
    exact ⟨rfl, rfl⟩
end
end Go.Proofs.YtjmkejkhpdhhbaaDoor
