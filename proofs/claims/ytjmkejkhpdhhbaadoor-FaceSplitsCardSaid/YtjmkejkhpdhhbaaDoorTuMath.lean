/- Plain facts on what stands round vertices: lists of darts, each read as a cycle. No program is named. -/
import Derived.Test.YtjmkejkhpdhhbaaDoorBase
namespace Go.Proofs.YtjmkejkhpdhhbaaDoor
open Go Go.RowKit
set_option linter.unusedVariables false
set_option linter.unusedSimpArgs false

/-- The place behind one, ahead of one, round a cycle of n. -/
def sc (n i : Nat) : Nat := if i + 1 = n then 0 else i + 1
def pc (n i : Nat) : Nat := if i = 0 then n - 1 else i - 1
theorem sc_lt {n i : Nat} (h : i < n) : sc n i < n := by unfold sc; split <;> omega
theorem pc_lt {n i : Nat} (h : i < n) : pc n i < n := by unfold pc; split <;> omega
theorem pc_sc {n i : Nat} (h : i < n) : pc n (sc n i) = i := by unfold sc pc; split <;> split <;> omega
theorem sc_pc {n i : Nat} (h : i < n) : sc n (pc n i) = i := by unfold sc pc; split <;> split <;> omega
theorem sc_mod {n i : Nat} (h : i < n) : sc n i = (i + 1) % n := by
  unfold sc; split
  · rename_i e; rw [e, Nat.mod_self]
  · rw [Nat.mod_eq_of_lt (by omega)]
theorem pc_mod {n i : Nat} (h : i < n) : pc n i = (i + n - 1) % n := by
  unfold pc; split
  · rename_i e; subst e; rw [Nat.zero_add, Nat.mod_eq_of_lt (by omega)]
  · rw [show i + n - 1 = (i - 1) + n by omega, Nat.add_mod_right, Nat.mod_eq_of_lt (by omega)]

/-- A dart laid behind another one; behind the last one, where that is none of these. -/
def insB (b : Int) (d : Nat) : List Nat → List Nat
  | [] => [d]
  | x :: l => if (x : Int) = b then x :: d :: l else x :: insB b d l
theorem insB_not {b : Int} {d : Nat} : ∀ {l : List Nat}, (∀ x ∈ l, (x : Int) ≠ b) → insB b d l = l ++ [d]
  | [], _ => rfl
  | x :: l, h => by
    rw [insB, if_neg (h x (by simp)), insB_not fun y hy => h y (by simp [hy])]; rfl
theorem insB_at {d : Nat} : ∀ {l : List Nat} {i : Nat} (_ : l.Nodup) (hi : i < l.length), insB (l[i] : Nat) d l = l.take (i + 1) ++ d :: l.drop (i + 1)
  | x :: l, 0, _, _ => by simp [insB]
  | x :: l, i + 1, hn, hi => by
    have hx : x ≠ l[i]'(by simpa using hi) := fun e => by
      have := (List.nodup_cons.1 hn).1
      rw [e] at this
      exact this (List.getElem_mem _)
    rw [List.getElem_cons_succ, insB, if_neg (by omega), insB_at (List.nodup_cons.1 hn).2 (by simpa using hi)]
    simp
theorem insB_perm (b : Int) (d : Nat) : ∀ l : List Nat, (insB b d l).Perm (d :: l)
  | [] => List.Perm.refl _
  | x :: l => by
    unfold insB
    split
    · exact List.Perm.swap _ _ _
    · exact ((insB_perm b d l).cons x).trans (List.Perm.swap _ _ _)
theorem insB_length (b : Int) (d : Nat) (l : List Nat) : (insB b d l).length = l.length + 1 := (insB_perm b d l).length_eq.trans (by simp)
theorem mem_insB {b : Int} {d x : Nat} {l : List Nat} : x ∈ insB b d l ↔ x = d ∨ x ∈ l := by rw [(insB_perm b d l).mem_iff]; simp
theorem insB_nodup {b : Int} {d : Nat} {l : List Nat} (h : l.Nodup) (hd : d ∉ l) : (insB b d l).Nodup := (insB_perm b d l).nodup_iff.2 (List.nodup_cons.2 ⟨hd, h⟩)
theorem get_ins (l : List Nat) (i d j : Nat) (hi : i < l.length) :
    (l.take (i + 1) ++ d :: l.drop (i + 1))[j]? = if j ≤ i then l[j]? else if j = i + 1 then some d else l[j - 1]? := by
  by_cases h1 : j ≤ i
  · rw [if_pos h1, List.getElem?_append_left (by simp; omega), List.getElem?_take, if_pos (by omega)]
  · rw [if_neg h1, List.getElem?_append_right (by simp; omega), List.length_take, Nat.min_eq_left (by omega)]
    by_cases h2 : j = i + 1
    · rw [if_pos h2, h2, Nat.sub_self]; rfl
    · rw [if_neg h2, show j - (i + 1) = (j - 1 - (i + 1)) + 1 by omega, List.getElem?_cons_succ, List.getElem?_drop]
      congr 1; omega

/-- The turns: of each vertex its darts. -/
structure WF (E : Nat) (L : List (List Nat)) : Prop where
  lt : ∀ l ∈ L, ∀ d ∈ l, d < 2 * E
  nodup : L.flatten.Nodup
/-- A dart stands there. -/
def Stands (L : List (List Nat)) (d : Nat) : Prop := d ∈ L.flatten
instance (L : List (List Nat)) (d : Nat) : Decidable (Stands L d) := inferInstanceAs (Decidable (d ∈ L.flatten))
theorem stands_iff {L : List (List Nat)} {d : Nat} : Stands L d ↔ ∃ (v : Nat) (l : List Nat), L[v]? = some l ∧ d ∈ l := by
  unfold Stands
  rw [List.mem_flatten]
  constructor
  · rintro ⟨l, h1, h2⟩
    obtain ⟨v, h⟩ := List.mem_iff_getElem?.1 h1
    exact ⟨v, l, h, h2⟩
  · rintro ⟨v, l, h1, h2⟩
    exact ⟨l, List.mem_iff_getElem?.2 ⟨v, h1⟩, h2⟩
theorem nodup_flat {L : List (List Nat)} (h : L.flatten.Nodup) : (∀ (v : Nat) (l : List Nat), L[v]? = some l → l.Nodup) ∧ ∀ (u v : Nat) (l m : List Nat) (d : Nat), L[u]? = some l → L[v]? = some m → d ∈ l → d ∈ m → u = v := by
  induction L with
  | nil => simp
  | cons a L ih =>
    rw [List.flatten_cons, List.nodup_append] at h
    obtain ⟨h1, h2, h3⟩ := h
    obtain ⟨i1, i2⟩ := ih h2
    refine ⟨fun v l hv => ?_, fun u v l m d hu hv hl hm => ?_⟩
    · cases v with
      | zero => simp at hv; exact hv ▸ h1
      | succ v => exact i1 v l (by simpa using hv)
    · cases u with
      | zero =>
        cases v with
        | zero => rfl
        | succ v =>
          simp at hu hv
          subst hu
          exact absurd rfl (h3 d hl d (List.mem_flatten.2 ⟨m, List.mem_iff_getElem?.2 ⟨v, hv⟩, hm⟩))
      | succ u =>
        cases v with
        | zero =>
          simp at hu hv
          subst hv
          exact absurd rfl (h3 d hm d (List.mem_flatten.2 ⟨l, List.mem_iff_getElem?.2 ⟨u, hu⟩, hl⟩))
        | succ v => rw [i2 u v l m d (by simpa using hu) (by simpa using hv) hl hm]
theorem nodup_of {L : List (List Nat)} (h1 : ∀ (v : Nat) (l : List Nat), L[v]? = some l → l.Nodup) (h2 : ∀ (u v : Nat) (l m : List Nat) (d : Nat), L[u]? = some l → L[v]? = some m → d ∈ l → d ∈ m → u = v) : L.flatten.Nodup := by
  induction L with
  | nil => simp
  | cons a L ih =>
    rw [List.flatten_cons, List.nodup_append]
    refine ⟨h1 0 a rfl, ih (fun v l hv => h1 (v + 1) l (by simpa using hv)) (fun u v l m d hu hv hl hm => ?_), fun x hx y hy e => ?_⟩
    · have := h2 (u + 1) (v + 1) l m d (by simpa using hu) (by simpa using hv) hl hm
      omega
    · subst e
      obtain ⟨m, hm, hxm⟩ := List.mem_flatten.1 hy
      obtain ⟨v, hv⟩ := List.mem_iff_getElem?.1 hm
      have := h2 0 (v + 1) a m x rfl (by simpa using hv) hx hxm
      omega
section
variable {E : Nat} {L : List (List Nat)}
theorem WF.nd (h : WF E L) {v : Nat} {l : List Nat} (hv : L[v]? = some l) : l.Nodup := (nodup_flat h.nodup).1 v l hv
theorem WF.one (h : WF E L) {u v : Nat} {l m : List Nat} {d : Nat} (hu : L[u]? = some l) (hv : L[v]? = some m) (hl : d ∈ l) (hm : d ∈ m) : u = v := (nodup_flat h.nodup).2 u v l m d hu hv hl hm
theorem WF.bd (h : WF E L) {v : Nat} {l : List Nat} (hv : L[v]? = some l) {d : Nat} (hd : d ∈ l) : d < 2 * E := h.lt l (List.mem_iff_getElem?.2 ⟨v, hv⟩) d hd
theorem WF.bdS (h : WF E L) {d : Nat} (hd : Stands L d) : d < 2 * E := by
  obtain ⟨v, l, hv, hm⟩ := stands_iff.1 hd
  exact h.bd hv hm
end
theorem nd_inj {l : List Nat} (h : l.Nodup) {i j : Nat} {x : Nat} (hi : l[i]? = some x) (hj : l[j]? = some x) : i = j := by
  obtain ⟨h1, e1⟩ := List.getElem?_eq_some_iff.1 hi
  obtain ⟨h2, e2⟩ := List.getElem?_eq_some_iff.1 hj
  exact (List.getElem_inj h).1 (e1.trans e2.symm)

/-- A dart laid at a vertex, behind one; a dart taken away. -/
def putL (L : List (List Nat)) (d v : Nat) (b : Int) : List (List Nat) := L.set v (insB b d (L.getD v []))
def remL (L : List (List Nat)) (d : Nat) : List (List Nat) := L.map fun l => l.filter (· != d)
theorem putL_get {L : List (List Nat)} {d v : Nat} {b : Int} {l : List Nat} (hv : L[v]? = some l) (u : Nat) : (putL L d v b)[u]? = if u = v then some (insB b d l) else L[u]? := by
  have hlt := (List.getElem?_eq_some_iff.1 hv).1
  unfold putL
  rw [List.getElem?_set, List.getD_eq_getElem?_getD, hv]
  by_cases e : u = v
  · subst e; simp [hlt]
  · rw [if_neg (fun h => e h.symm), if_neg e]
theorem putL_wf {E : Nat} {L : List (List Nat)} {d v : Nat} {b : Int} (h : WF E L) (hd : d < 2 * E) (hn : ¬ Stands L d) (hv : v < L.length) : WF E (putL L d v b) := by
  obtain ⟨l, hl⟩ : ∃ l, L[v]? = some l := ⟨_, List.getElem?_eq_getElem hv⟩
  have hdl : ∀ (u : Nat) (m : List Nat), L[u]? = some m → d ∉ m := fun u m hu hm => hn (stands_iff.2 ⟨u, m, hu, hm⟩)
  refine ⟨fun m hm x hx => ?_, nodup_of (fun u m hu => ?_) fun u u' m m' x hu hu' hm hm' => ?_⟩
  · obtain ⟨u, hu⟩ := List.mem_iff_getElem?.1 hm
    rw [putL_get hl] at hu
    split at hu
    · cases hu
      rcases mem_insB.1 hx with rfl | hx
      · exact hd
      · exact h.bd hl hx
    · exact h.bd hu hx
  · rw [putL_get hl] at hu
    split at hu
    · cases hu; exact insB_nodup (h.nd hl) (hdl v l hl)
    · exact h.nd hu
  · rw [putL_get hl] at hu hu'
    split at hu <;> split at hu'
    · omega
    · rename_i e1 e2
      cases hu
      rcases mem_insB.1 hm with rfl | hm
      · exact absurd hm' (hdl _ _ hu')
      · have := h.one hl hu' hm hm'; omega
    · rename_i e1 e2
      cases hu'
      rcases mem_insB.1 hm' with rfl | hm'
      · exact absurd hm (hdl _ _ hu)
      · have := h.one hu hl hm hm'; omega
    · exact h.one hu hu' hm hm'
theorem putL_stands {L : List (List Nat)} {d v : Nat} {b : Int} {x : Nat} (hv : v < L.length) : Stands (putL L d v b) x ↔ x = d ∨ Stands L x := by
  obtain ⟨l, hl⟩ : ∃ l, L[v]? = some l := ⟨_, List.getElem?_eq_getElem hv⟩
  simp only [stands_iff, putL_get hl]
  constructor
  · rintro ⟨u, m, hu, hm⟩
    split at hu
    · cases hu
      rcases mem_insB.1 hm with e | hm
      · exact .inl e
      · exact .inr ⟨v, l, hl, hm⟩
    · exact .inr ⟨u, m, hu, hm⟩
  · rintro (rfl | ⟨u, m, hu, hm⟩)
    · exact ⟨v, _, by rw [if_pos rfl], mem_insB.2 (.inl rfl)⟩
    · by_cases e : u = v
      · subst e
        rw [hl] at hu
        cases hu
        exact ⟨u, _, by rw [if_pos rfl], mem_insB.2 (.inr hm)⟩
      · exact ⟨u, m, by rw [if_neg e]; exact hu, hm⟩
theorem putL_length (L : List (List Nat)) (d v : Nat) (b : Int) : (putL L d v b).length = L.length := by simp [putL]
theorem remL_length (L : List (List Nat)) (d : Nat) : (remL L d).length = L.length := by simp [remL]
theorem remL_get {L : List (List Nat)} {d u : Nat} : (remL L d)[u]? = (L[u]?).map fun l => l.filter (· != d) := by simp [remL]
theorem remL_wf {E : Nat} {L : List (List Nat)} {d : Nat} (h : WF E L) : WF E (remL L d) := by
  refine ⟨fun m hm x hx => ?_, nodup_of (fun u m hu => ?_) fun u u' m m' x hu hu' hm hm' => ?_⟩
  · obtain ⟨u, hu⟩ := List.mem_iff_getElem?.1 hm
    rw [remL_get] at hu
    obtain ⟨l, hl, rfl⟩ := Option.map_eq_some_iff.1 hu
    exact h.bd hl (List.mem_filter.1 hx).1
  · rw [remL_get] at hu
    obtain ⟨l, hl, rfl⟩ := Option.map_eq_some_iff.1 hu
    exact (h.nd hl).filter _
  · rw [remL_get] at hu hu'
    obtain ⟨l, hl, rfl⟩ := Option.map_eq_some_iff.1 hu
    obtain ⟨l', hl', rfl⟩ := Option.map_eq_some_iff.1 hu'
    exact h.one hl hl' (List.mem_filter.1 hm).1 (List.mem_filter.1 hm').1
theorem remL_stands {L : List (List Nat)} {d x : Nat} : Stands (remL L d) x ↔ x ≠ d ∧ Stands L x := by
  simp only [stands_iff, remL_get]
  constructor
  · rintro ⟨u, m, hu, hm⟩
    obtain ⟨l, hl, rfl⟩ := Option.map_eq_some_iff.1 hu
    obtain ⟨h1, h2⟩ := List.mem_filter.1 hm
    exact ⟨by simpa using h2, u, l, hl, h1⟩
  · rintro ⟨h1, u, l, hl, hm⟩
    exact ⟨u, _, by rw [hl]; rfl, List.mem_filter.2 ⟨hm, by simpa using h1⟩⟩
theorem filter_at {l : List Nat} {i : Nat} (hn : l.Nodup) (hi : i < l.length) : l.filter (· != l[i]) = l.take i ++ l.drop (i + 1) := by
  induction l generalizing i with
  | nil => simp at hi
  | cons x l ih =>
    obtain ⟨h1, h2⟩ := List.nodup_cons.1 hn
    cases i with
    | zero =>
      simp only [List.getElem_cons_zero, List.take_zero, List.nil_append, List.drop_succ_cons, List.drop_zero, List.filter_cons, bne_self_eq_false, Bool.false_eq_true, if_false]
      rw [List.filter_eq_self]
      intro y hy
      simp only [bne_iff_ne]
      rintro rfl
      exact h1 hy
    | succ i =>
      have hi' : i < l.length := by simpa using hi
      have hx : x ≠ l[i] := fun e => h1 (e ▸ List.getElem_mem _)
      simp only [List.getElem_cons_succ, List.filter_cons]
      rw [if_pos (by simpa using hx), ih h2 hi']
      simp
end Go.Proofs.YtjmkejkhpdhhbaaDoor
