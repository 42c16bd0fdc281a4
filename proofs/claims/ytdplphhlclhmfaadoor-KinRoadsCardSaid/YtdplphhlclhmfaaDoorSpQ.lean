/- Plain: components counted. -/
import Derived.Test.YtdplphhlclhmfaaDoorKi
namespace Go.Proofs.YtdplphhlclhmfaaDoor
open Go Go.RowKit
set_option linter.unusedVariables false
set_option linter.unusedSimpArgs false

abbrev Cnt3 := Int × Int × Int
/-- Counts of keys: to one of them something added. -/
def addM (M : Nat → Option Cnt3) (r : Nat) (x : Cnt3) : Nat → Option Cnt3 := fun k => if k = r then some (((M r).getD (0, 0, 0)).1 + x.1, ((M r).getD (0, 0, 0)).2.1 + x.2.1, ((M r).getD (0, 0, 0)).2.2 + x.2.2) else M k
theorem addM_same (M : Nat → Option Cnt3) (r : Nat) (x : Cnt3) : addM M r x r = some (((M r).getD (0, 0, 0)).1 + x.1, ((M r).getD (0, 0, 0)).2.1 + x.2.1, ((M r).getD (0, 0, 0)).2.2 + x.2.2) := if_pos rfl
theorem addM_other (M : Nat → Option Cnt3) {r k : Nat} (x : Cnt3) (h : k ≠ r) : addM M r x k = M k := if_neg h
/-- A vertex; a face. -/
def vAdd (L : List (List Nat)) (g : List Nat) (M : Nat → Option Cnt3) (v : Nat) : Nat → Option Cnt3 :=
  if (L.getD v []).length = 0 then addM (addM M (g.getD v 0) (1, ((L.getD v []).length : Int), 0)) (g.getD v 0) (0, 0, 1) else addM M (g.getD v 0) (1, ((L.getD v []).length : Int), 0)
def fAdd (L : List (List Nat)) (g : List Nat) (M : Nat → Option Cnt3) (f : List Nat) : Nat → Option Cnt3 := addM M (g.getD (vtx L (f.getD 0 0)) 0) (0, 0, 1)
def eachV (L : List (List Nat)) (g : List Nat) (l : List Nat) : Nat → Option Cnt3 := l.foldl (vAdd L g) (fun _ => none)
def eachM (L : List (List Nat)) (g : List Nat) (l : List Nat) (F : List (List Nat)) : Nat → Option Cnt3 := F.foldl (fAdd L g) (eachV L g l)
/-- Keys are below a bound, counts within bounds. -/
def MOk (n : Nat) (a b c : Int) (M : Nat → Option Cnt3) : Prop := ∀ k x, M k = some x → k < n ∧ 0 ≤ x.1 ∧ x.1 ≤ a ∧ 0 ≤ x.2.1 ∧ x.2.1 ≤ b ∧ 0 ≤ x.2.2 ∧ x.2.2 ≤ c
theorem MOk.add {n : Nat} {a b c : Int} {M : Nat → Option Cnt3} (h : MOk n a b c M) (ha : 0 ≤ a) (hb : 0 ≤ b) (hc : 0 ≤ c) {r : Nat} (hr : r < n) (x : Cnt3) (h1 : 0 ≤ x.1) (h2 : 0 ≤ x.2.1) (h3 : 0 ≤ x.2.2) : MOk n (a + x.1) (b + x.2.1) (c + x.2.2) (addM M r x) := by
  intro k y hy
  by_cases e : k = r
  · subst e
    rw [addM_same] at hy
    cases hy
    cases hm : M k with
    | none => simp only [Option.getD_none]; exact ⟨hr, by omega, by omega, by omega, by omega, by omega, by omega⟩
    | some z =>
      obtain ⟨_, q⟩ := h k z hm
      simp only [Option.getD_some]
      exact ⟨hr, by omega, by omega, by omega, by omega, by omega, by omega⟩
  · rw [addM_other M x e] at hy
    obtain ⟨q0, q⟩ := h k y hy
    exact ⟨q0, by omega, by omega, by omega, by omega, by omega, by omega⟩
theorem MOk.mono {n : Nat} {a b c a' b' c' : Int} {M : Nat → Option Cnt3} (h : MOk n a b c M) (h1 : a ≤ a') (h2 : b ≤ b') (h3 : c ≤ c') : MOk n a' b' c' M := fun k x hx => by
  obtain ⟨q0, q⟩ := h k x hx
  exact ⟨q0, by omega, by omega, by omega, by omega, by omega, by omega⟩
/-- Summed up, of the keys that are chosen. -/
def sumM (M : Nat → Option Cnt3) (p : Nat → Bool) : Nat → Int × Int × Int × Int
  | 0 => (0, 0, 0, 0)
  | n + 1 => match (if p n = true then M n else none) with
    | some x => ((sumM M p n).1 + x.1, (sumM M p n).2.1 + x.2.1 / 2, (sumM M p n).2.2.1 + x.2.2, (sumM M p n).2.2.2 + 1)
    | none => sumM M p n
theorem sumM_congr {M : Nat → Option Cnt3} {p q : Nat → Bool} : ∀ {n : Nat}, (∀ k, k < n → p k = q k) → sumM M p n = sumM M q n
  | 0, _ => rfl
  | n + 1, h => by
    unfold sumM
    rw [h n (by omega), sumM_congr fun k hk => h k (by omega)]
/-- One of them struck. -/
theorem sumM_strike {M : Nat → Option Cnt3} {p q : Nat → Bool} {r : Nat} {x : Cnt3} (hp : p r = true) (hq : q r = false) (hx : M r = some x) : ∀ {n : Nat}, r < n → (∀ k, k < n → k ≠ r → p k = q k) →
    sumM M p n = ((sumM M q n).1 + x.1, (sumM M q n).2.1 + x.2.1 / 2, (sumM M q n).2.2.1 + x.2.2, (sumM M q n).2.2.2 + 1)
  | 0, hr, _ => by omega
  | n + 1, hr, h => by
    by_cases e : r = n
    · subst e
      unfold sumM
      rw [sumM_congr (q := q) fun k hk => h k (by omega) (by omega), if_pos hp, hx, hq]
      rfl
    · have ih := sumM_strike hp hq hx (n := n) (by omega) fun k hk => h k (by omega)
      unfold sumM
      rw [ih, h n (by omega) (fun q => e q.symm)]
      split
      · simp only [Prod.mk.injEq]
        refine ⟨by omega, by omega, by omega, ?_⟩
        trivial
      · rfl
theorem sumM_none {M : Nat → Option Cnt3} {p : Nat → Bool} : ∀ {n : Nat}, (∀ k, k < n → p k = false) → sumM M p n = (0, 0, 0, 0)
  | 0, _ => rfl
  | n + 1, h => by
    unfold sumM
    rw [h n (by omega), sumM_none fun k hk => h k (by omega)]
    rfl
/-- All told. -/
def cntM (M : Nat → Option Cnt3) (n : Nat) : Int × Int × Int × Int := sumM M (fun _ => true) n
/-- All on spheres. -/
def flatM (M : Nat → Option Cnt3) : Prop := ∀ k x, M k = some x → x.1 - x.2.1 / 2 + x.2.2 = 2
section
variable {L : List (List Nat)} {g : List Nat} {n : Nat}
theorem vAdd_ok {M : Nat → Option Cnt3} {a b c : Int} (h : MOk n a b c M) (ha : 0 ≤ a) (hb : 0 ≤ b) (hc : 0 ≤ c) {v : Nat} (hg : g.getD v 0 < n) {B : Nat} (hB : (L.getD v []).length ≤ B) : MOk n (a + 1) (b + B) (c + 1) (vAdd L g M v) := by
  unfold vAdd
  have h1 := h.add ha hb hc hg (1, ((L.getD v []).length : Int), 0) (by simp only; omega) (by simp only; omega) (by simp only; omega)
  split
  · have h2 := h1.add (by simp only; omega) (by simp only; omega) (by simp only; omega) hg (0, 0, 1) (by simp only; omega) (by simp only; omega) (by simp only; omega)
    exact h2.mono (by simp only; omega) (by simp only; omega) (by simp only; omega)
  · exact h1.mono (by simp only; omega) (by simp only; omega) (by simp only; omega)
theorem fAdd_ok {M : Nat → Option Cnt3} {a b c : Int} (h : MOk n a b c M) (ha : 0 ≤ a) (hb : 0 ≤ b) (hc : 0 ≤ c) {f : List Nat} (hg : g.getD (vtx L (f.getD 0 0)) 0 < n) : MOk n a b (c + 1) (fAdd L g M f) := by
  unfold fAdd
  have h1 := h.add ha hb hc hg (0, 0, 1) (by simp only; omega) (by simp only; omega) (by simp only; omega)
  exact h1.mono (by simp only; omega) (by simp only; omega) (by simp only; omega)
theorem foldl_take {α β : Type} (f : β → α → β) (b : β) (l : List α) {i : Nat} {x : α} (h : l[i]? = some x) : (l.take (i + 1)).foldl f b = f ((l.take i).foldl f b) x := by
  rw [List.take_add_one, h, List.foldl_append]; rfl
end
end Go.Proofs.YtdplphhlclhmfaaDoor
