/- Plain: what is counted of each component. -/
import Derived.Test.YtdplphhlclhmfaaDoorSpC
import Derived.Test.YtdplphhlclhmfaaDoorSpQ
namespace Go.Proofs.YtdplphhlclhmfaaDoor
open Go Go.RowKit
set_option linter.unusedVariables false
set_option linter.unusedSimpArgs false

/-- Vertices: those that there are, once each; those without darts may lack. -/
structure VOk (L : List (List Nat)) (m : List Nat) : Prop where
  lt : ∀ v ∈ m, v < L.length
  nd : m.Nodup
  all : ∀ v, v < L.length → L.getD v [] ≠ [] → v ∈ m
theorem intsN_nodup {m : List Nat} : (intsN m).Nodup ↔ m.Nodup := by
  unfold intsN
  constructor
  · intro h
    induction m with
    | nil => exact List.nodup_nil
    | cons x m ih =>
      rw [List.map_cons, List.nodup_cons] at h
      exact List.nodup_cons.2 ⟨fun q => h.1 (List.mem_map.2 ⟨x, q, rfl⟩), ih h.2⟩
  · intro h
    induction m with
    | nil => exact List.nodup_nil
    | cons x m ih =>
      rw [List.nodup_cons] at h
      rw [List.map_cons, List.nodup_cons]
      refine ⟨fun q => ?_, ih h.2⟩
      obtain ⟨y, hy, e⟩ := List.mem_map.1 q
      have : y = x := by omega
      exact h.1 (this ▸ hy)
theorem chk12_ok {L : List (List Nat)} {l : List Int} (h : chk12 L l = 0) : ∃ m, l = intsN m ∧ VOk L m := by
  unfold chk12 at h
  split at h
  · cases h
  · rename_i h1
    split at h
    · rename_i h2
      split at h
      · cases h
      · rename_i h3
        have hf : l.any (outN L.length) = false := by simpa using h1
        have e : l = intsN (l.map Int.toNat) := by
          unfold intsN
          rw [List.map_map]
          conv => lhs; rw [← List.map_id l]
          refine List.map_congr_left fun x hx => ?_
          obtain ⟨v, rfl, _⟩ := out_none hf hx
          simp
        refine ⟨l.map Int.toNat, e, fun v hv => ?_, ?_, fun v hv hne => ?_⟩
        · obtain ⟨x, hx, rfl⟩ := List.mem_map.1 hv
          obtain ⟨v, rfl, hvl⟩ := out_none hf hx
          rw [Int.toNat_natCast]; exact hvl
        · rw [e] at h2
          exact intsN_nodup.1 h2
        · rw [range_any] at h3
          have : (v : Int) ∈ l := Decidable.not_not.1 fun q => h3 ⟨v, hv, decide_eq_true ⟨hne, q⟩⟩
          exact List.mem_map.2 ⟨v, this, by simp⟩
    · cases h
theorem VOk.chk {L : List (List Nat)} {m : List Nat} (h : VOk L m) : chk12 L (intsN m) = 0 := by
  unfold chk12
  rw [if_neg, if_pos (intsN_nodup.2 h.nd), if_neg]
  · intro q
    obtain ⟨v, hv, q⟩ := range_any.1 q
    obtain ⟨h1, h2⟩ := of_decide_eq_true q
    exact h2 (mem_intsN.2 (h.all v hv h1))
  · intro q
    obtain ⟨x, hx, q⟩ := List.any_eq_true.1 q
    obtain ⟨v, hv, rfl⟩ := List.mem_map.1 hx
    have := h.lt v hv
    unfold outN at q
    simp at q
    omega
theorem VOk.range (L : List (List Nat)) : VOk L (List.range L.length) := ⟨fun v h => List.mem_range.1 h, List.nodup_range, fun v h _ => List.mem_range.2 h⟩
/-- All darts of the vertices. -/
def dartsOf (L : List (List Nat)) (m : List Nat) : List Nat := m.flatMap fun v => L.getD v []
section
variable {E : Nat} {L : List (List Nat)} {m : List Nat}
theorem vtx_in (h : WF E L) {v d : Nat} (hv : v < L.length) (hd : d ∈ L.getD v []) : vtx L d = v := h.vtx (some_getD hv) hd
theorem dartsOf_perm (h : WF E L) (hm : VOk L m) : (dartsOf L m).Perm (dartsN L (2 * E)) := by
  have hnd : ∀ (m : List Nat), (∀ v ∈ m, v < L.length) → m.Nodup → (dartsOf L m).Nodup := by
    intro m
    induction m with
    | nil => intro _ _; exact List.nodup_nil
    | cons v m ih =>
      intro h1 h2
      rw [List.nodup_cons] at h2
      show ((L.getD v []) ++ dartsOf L m).Nodup
      rw [List.nodup_append]
      refine ⟨h.nd (some_getD (h1 v (List.mem_cons_self ..))), ih (fun x hx => h1 x (List.mem_cons_of_mem _ hx)) h2.2, fun a ha b hb e => ?_⟩
      subst e
      obtain ⟨u, hu, hb⟩ := List.mem_flatMap.1 hb
      have e1 := vtx_in h (h1 v (List.mem_cons_self ..)) ha
      have e2 := vtx_in h (h1 u (List.mem_cons_of_mem _ hu)) hb
      exact h2.1 (by rw [← e1, e2]; exact hu)
  refine (List.perm_ext_iff_of_nodup (hnd m hm.lt hm.nd) (List.Nodup.sublist List.filter_sublist List.nodup_range)).2 fun d => ?_
  show d ∈ dartsOf L m ↔ d ∈ dartsN L (2 * E)
  rw [mem_darts h]
  constructor
  · intro q
    obtain ⟨v, hv, hd⟩ := List.mem_flatMap.1 q
    exact stands_iff.2 ⟨v, _, some_getD (hm.lt v hv), hd⟩
  · intro q
    obtain ⟨v, l, hv, hd⟩ := stands_iff.1 q
    have hvl := (List.getElem?_eq_some_iff.1 hv).1
    have e := getD_some hv
    refine List.mem_flatMap.2 ⟨v, hm.all v hvl ?_, by rw [e]; exact hd⟩
    rw [e]
    intro q
    rw [q] at hd
    cases hd
/-- Of one component: vertices, darts, faces. -/
def vN (g m : List Nat) (k : Nat) : Nat := m.countP fun v => decide (g.getD v 0 = k)
def dN (L : List (List Nat)) (g D : List Nat) (k : Nat) : Nat := D.countP fun d => decide (g.getD (vtx L d) 0 = k)
def oN (L : List (List Nat)) (g m : List Nat) (k : Nat) : Nat := m.countP fun v => decide (g.getD v 0 = k ∧ L.getD v [] = [])
def fN (L : List (List Nat)) (g : List Nat) (F : List (List Nat)) (k : Nat) : Nat := F.countP fun f => decide (g.getD (vtx L (f.getD 0 0)) 0 = k)
def Desc (L : List (List Nat)) (g p : List Nat) (F : List (List Nat)) (M : Nat → Option Cnt3) : Prop :=
  ∀ k, M k = if vN g p k = 0 then none else some ((vN g p k : Int), (dN L g (dartsOf L p) k : Int), ((oN L g p k + fN L g F k : Nat) : Int))
theorem countP_same {l : List Nat} {q : Nat → Bool} (b : Bool) (h : ∀ x ∈ l, q x = b) : l.countP q = if b = true then l.length else 0 := by
  cases b with
  | true => rw [if_pos rfl]; exact List.countP_eq_length.2 h
  | false => rw [if_neg (by decide)]; exact List.countP_eq_zero.2 fun x hx q => by rw [h x hx] at q; cases q
theorem Desc.vadd (h : WF E L) {g p : List Nat} {M : Nat → Option Cnt3} (hM : Desc L g p [] M) {v : Nat} (hv : v < L.length) (hp : ∀ x ∈ p, x < L.length) : Desc L g (p ++ [v]) [] (vAdd L g M v) := by
  intro k
  have e1 : vN g (p ++ [v]) k = vN g p k + if g.getD v 0 = k then 1 else 0 := by
    unfold vN
    rw [List.countP_append, List.countP_cons, List.countP_nil]
    simp
  have e2 : dN L g (dartsOf L (p ++ [v])) k = dN L g (dartsOf L p) k + if g.getD v 0 = k then (L.getD v []).length else 0 := by
    have e6 : (L.getD v []).countP (fun d => decide (g.getD (vtx L d) 0 = k)) = _ := countP_same (decide (g.getD v 0 = k)) fun d hd => by rw [vtx_in h hv hd]
    unfold dN dartsOf
    rw [List.flatMap_append, List.countP_append, List.flatMap_cons, List.flatMap_nil, List.append_nil, e6]
    simp only [decide_eq_true_eq]
  have e3 : oN L g (p ++ [v]) k = oN L g p k + if g.getD v 0 = k ∧ L.getD v [] = [] then 1 else 0 := by
    unfold oN
    rw [List.countP_append, List.countP_cons, List.countP_nil]
    simp
  have e4 : fN L g [] k = 0 := rfl
  have h0 : vN g p k = 0 → dN L g (dartsOf L p) k = 0 ∧ oN L g p k = 0 := by
    intro q
    have q := List.countP_eq_zero.1 q
    refine ⟨List.countP_eq_zero.2 fun d hd => ?_, List.countP_eq_zero.2 fun u hu k => q u hu (by simp at k ⊢; exact k.1)⟩
    obtain ⟨u, hu, hd⟩ := List.mem_flatMap.1 hd
    rw [vtx_in h (hp u hu) hd]
    exact q u hu
  have hMk := hM k
  rw [e4] at hMk
  rw [e1, e2, e3, e4]
  unfold vAdd
  by_cases hk : g.getD v 0 = k
  · subst hk
    have hx : (M (g.getD v 0)).getD (0, 0, 0) = ((vN g p (g.getD v 0) : Int), (dN L g (dartsOf L p) (g.getD v 0) : Int), (oN L g p (g.getD v 0) : Int)) := by
      rw [hMk]
      split
      · rename_i q
        obtain ⟨q1, q2⟩ := h0 q
        rw [q, q1, q2]; rfl
      · rfl
    by_cases hz : (L.getD v []).length = 0
    · rw [if_pos hz, addM_same, addM_same, hx, if_neg (by simp), if_pos rfl, if_pos rfl, if_pos ⟨rfl, List.length_eq_zero_iff.1 hz⟩]
      simp only [Option.getD_some, Option.some.injEq, Prod.mk.injEq]
      omega
    · rw [if_neg hz, addM_same, hx, if_neg (by simp), if_pos rfl, if_pos rfl, if_neg (fun q => hz (by rw [q.2]; rfl))]
      simp only [Option.some.injEq, Prod.mk.injEq]
      omega
  · have hk2 : k ≠ g.getD v 0 := fun q => hk q.symm
    have e5 : (if (L.getD v []).length = 0 then addM (addM M (g.getD v 0) (1, ((L.getD v []).length : Int), 0)) (g.getD v 0) (0, 0, 1) else addM M (g.getD v 0) (1, ((L.getD v []).length : Int), 0)) k = M k := by
      split
      · rw [addM_other _ _ hk2, addM_other _ _ hk2]
      · rw [addM_other _ _ hk2]
    rw [e5, hMk]
    simp only [if_neg hk, if_neg (fun (q : g.getD v 0 = k ∧ L.getD v [] = []) => hk q.1), Nat.add_zero]
theorem Desc.vs (h : WF E L) {g : List Nat} : ∀ (m p : List Nat) (M : Nat → Option Cnt3), Desc L g p [] M → (∀ x ∈ p ++ m, x < L.length) → Desc L g (p ++ m) [] (m.foldl (vAdd L g) M)
  | [], p, M, hM, _ => by rw [List.append_nil]; exact hM
  | v :: m, p, M, hM, hp => by
    have h1 := hM.vadd h (hp v (by simp)) (fun x hx => hp x (by simp [hx]))
    have := Desc.vs h m (p ++ [v]) _ h1 (fun x hx => hp x (by simpa using hx))
    rwa [List.append_assoc] at this
theorem Desc.fs {g m : List Nat} : ∀ (F p : List (List Nat)) (M : Nat → Option Cnt3), Desc L g m p M → (∀ f ∈ F, vN g m (g.getD (vtx L (f.getD 0 0)) 0) ≠ 0) → Desc L g m (p ++ F) (F.foldl (fAdd L g) M)
  | [], p, M, hM, _ => by rw [List.append_nil]; exact hM
  | f :: F, p, M, hM, hF => by
    have h1 : Desc L g m (p ++ [f]) (fAdd L g M f) := by
      intro k
      have e4 : fN L g (p ++ [f]) k = fN L g p k + if g.getD (vtx L (f.getD 0 0)) 0 = k then 1 else 0 := by
        unfold fN
        rw [List.countP_append, List.countP_cons, List.countP_nil]
        simp
      have hMk := hM k
      rw [e4]
      unfold fAdd
      have hfv := hF f (List.mem_cons_self ..)
      by_cases hk : g.getD (vtx L (f.getD 0 0)) 0 = k
      · rw [hk] at hfv ⊢
        rw [if_neg hfv] at hMk ⊢
        rw [addM_same, hMk, if_pos rfl]
        simp only [Option.getD_some, Option.some.injEq, Prod.mk.injEq]
        omega
      · rw [addM_other _ _ (fun q => hk q.symm), hMk, if_neg hk, Nat.add_zero]
    have := Desc.fs F (p ++ [f]) _ h1 (fun x hx => hF x (List.mem_cons_of_mem _ hx))
    rwa [List.append_assoc] at this
end
end Go.Proofs.YtdplphhlclhmfaaDoor
