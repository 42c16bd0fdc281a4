/- Chapter 10's laws: what stands round each vertex, gathered. -/
import Derived.Test.YtjmkejkhpdhhbaaDoorLwI
namespace Go.Proofs.YtjmkejkhpdhhbaaDoor
open Go Go.RowKit
set_option linter.unusedVariables false
set_option linter.unusedSimpArgs false
set_option maxRecDepth 100000

/-- One list told, in a slice that is not v's. -/
def RowAt (w : World) (B : Nat) (v u : Value) (l : List Nat) : Prop :=
  ∃ a c, u = .slice a l.length c ∧ Rd w a (nats l) ∧ ∀ b off, a = some ⟨b, off, none⟩ → v.ownBlock ≠ some b ∧ B ≤ b ∧ b < w.heap.size
/-- Lists told. -/
def RsAt (w : World) (B : Nat) (v : Value) (Ls : List (List Nat)) : Prop :=
  ∃ us : List Value, w.ownsRow B 47 1 v Ls.length us ∧ ∀ (i : Nat) (l : List Nat), Ls[i]? = some l → ∃ u, us[i]? = some u ∧ RowAt w B v u l
section
variable {w w1 w' : World} {B : Nat} {v v' u : Value} {l : List Nat} {Ls : List (List Nat)}
theorem RsAt.nil (w : World) (B : Nat) : RsAt w B (.slice none 0 0) [] := ⟨[], World.ownsRow_nil _ _ _ _, fun i l h => by simp at h⟩
theorem RowAt.kept {fp : Nat → Prop} (h : RowAt w B v u l) (hk : Keeps fp w w') (hn : ∀ b, fp b → b < B ∨ v.ownBlock = some b) : RowAt w' B v u l := by
  obtain ⟨a, c, rfl, hr, hb⟩ := h
  refine ⟨a, c, rfl, hr.kept hk fun b off e q => ?_, fun b off e => ?_⟩
  · obtain ⟨h1, h2, _⟩ := hb b off e
    rcases hn b q with h | h
    · omega
    · exact h1 h
  · obtain ⟨h1, h2, h3⟩ := hb b off e
    exact ⟨h1, h2, Nat.lt_of_lt_of_le h3 hk.size⟩
theorem RsAt.kept {fp : Nat → Prop} (h : RsAt w B v Ls) (hk : Keeps fp w w') (hn : ∀ b, fp b → b < B) : RsAt w' B v Ls := by
  obtain ⟨us, h1, h2⟩ := h
  refine ⟨us, ownsRow_kept h1 hk fun k e q => ?_, fun i l hl => ?_⟩
  · have := (h1.lt k e).1
    have := hn k q
    omega
  · obtain ⟨u, hu, hr⟩ := h2 i l hl
    exact ⟨u, hu, hr.kept hk fun b q => Or.inl (hn b q)⟩
theorem RsAt.keep (h : RsAt w B v Ls) (hk : Keeps (fun _ => False) w w') : RsAt w' B v Ls := h.kept hk fun _ q => q.elim
/-- A list that was just told. -/
theorem RowAt.fresh {xs : List Value} {n : Nat} (hv : w.ownsRow B 47 1 v n xs) (hB : B ≤ w.heap.size) (hro : w1.ownsRow w.heap.size 3 1 u l.length (nats l)) : RowAt w1 B v u l := by
  obtain ⟨a, c, rfl, hr, _, hb⟩ := Rd.of_own hro
  refine ⟨a, c, rfl, hr, fun b off e => ?_⟩
  have h1 := hro.lt b (hb b off e)
  refine ⟨fun q => ?_, by omega, h1.2⟩
  have := (hv.lt b q).2
  omega
theorem RsAt.push {us : List Value} (hown : w.ownsRow B 47 1 v Ls.length us) (hrows : ∀ (i : Nat) (l : List Nat), Ls[i]? = some l → ∃ u, us[i]? = some u ∧ RowAt w B v u l) (hu : RowAt w B v u l)
    (ho : w'.ownsRow B 47 1 v' (Ls.length + 1) (us ++ [u])) (hk : Keeps (fun k => v.ownBlock = some k) w w') (hb : ∀ k, v'.ownBlock = some k → v.ownBlock = some k ∨ w.heap.size < k) : RsAt w' B v' (Ls ++ [l]) := by
  have hlen : us.length = Ls.length := by have := hown.1; omega
  have each : ∀ u l, RowAt w B v u l → RowAt w' B v' u l := by
    intro u l h
    have h' := h.kept hk fun b q => Or.inr q
    obtain ⟨a, c, e, hr, hx⟩ := h'
    obtain ⟨a2, c2, e2, _, hx2⟩ := h
    refine ⟨a, c, e, hr, fun b off q => ⟨fun q2 => ?_, (hx b off q).2⟩⟩
    have hae : a2 = a := by rw [e2] at e; cases e; rfl
    obtain ⟨y1, y2, y3⟩ := hx2 b off (hae.trans q)
    rcases hb b q2 with g | g
    · exact y1 g
    · omega
  refine ⟨us ++ [u], by rw [List.length_append]; exact ho, fun i l' hl => ?_⟩
  by_cases hi : i < Ls.length
  · rw [List.getElem?_append_left hi] at hl
    obtain ⟨x, hx, hr⟩ := hrows i l' hl
    exact ⟨x, by rw [List.getElem?_append_left (by omega)]; exact hx, each _ _ hr⟩
  · have hi2 := (List.getElem?_eq_some_iff.1 hl).1
    rw [List.length_append] at hi2
    simp at hi2
    obtain rfl : i = Ls.length := by omega
    rw [List.getElem?_append_right (Nat.le_refl _), Nat.sub_self] at hl
    cases hl
    exact ⟨u, by rw [List.getElem?_append_right (by omega)]; simp [hlen], each _ _ hu⟩
/-- Where the cells lie. -/
theorem RsAt.at_ (h : RsAt w B v Ls) {i : Nat} {l : List Nat} (hl : Ls[i]? = some l) : ∃ g cap a c, v = .slice (some ⟨g, 0, none⟩) Ls.length cap ∧ w.cell? ⟨g, i, none⟩ = some (.slice a l.length c) ∧ Rd w a (nats l) := by
  obtain ⟨us, h1, h2⟩ := h
  obtain ⟨u, hu, a, c, rfl, hr, _⟩ := h2 i l hl
  have hi := (List.getElem?_eq_some_iff.1 hl).1
  rcases h1.2 with ⟨_, hn⟩ | ⟨g, cap, cur, rfl, hb, hgg, hnc, hcm, hcs, htake⟩
  · omega
  · refine ⟨g, cap, a, c, rfl, ?_, hr⟩
    have := cell_of_row w g i cur 47 (0, 0) hgg
    rw [← hu, ← htake, List.getElem?_take, if_pos (by omega), this]
    simp
end
theorem map_take_step {L : List (List Nat)} {m : Nat} {l : List Nat} (h : L[m]? = some l) : (L.take (m + 1)).map rnd = (L.take m).map rnd ++ [rnd l] := by
  rw [List.take_add_one, h]; simp
end Go.Proofs.YtjmkejkhpdhhbaaDoor
