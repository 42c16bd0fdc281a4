/- Plain: the counts of all components, as the document sums them up. -/
import Derived.Test.YtdplphhlclhmfaaDoorSpE
import Derived.Test.YtdplphhlclhmfaaDoorSpR
namespace Go.Proofs.YtdplphhlclhmfaaDoor
open Go Go.RowKit
set_option linter.unusedVariables false
set_option linter.unusedSimpArgs false

section
variable {E : Nat} {L : List (List Nat)} {m : List Nat}
def eN (L : List (List Nat)) (g D : List Nat) (k : Nat) : Nat := D.countP fun d => decide (d % 2 = 0 ∧ g.getD (vtx L d) 0 = k)
theorem dN_two (h : Good E L) (k : Nat) : ∀ n, dN L (grp L E) (dartsN L (2 * n)) k = 2 * eN L (grp L E) (dartsN L (2 * n)) k
  | 0 => rfl
  | n + 1 => by
    have ih := dN_two h k n
    rw [show 2 * (n + 1) = 2 * n + 1 + 1 by omega, dartsN_step, dartsN_step]
    by_cases hs : Stands L (2 * n)
    · have h1 := (h.pair n).2 hs
      have he := grp_edge h hs
      rw [if_pos hs, if_pos h1]
      unfold dN eN at ih ⊢
      simp only [List.countP_append, List.countP_cons, List.countP_nil, Nat.zero_add]
      rw [ih, show decide ((2 * n + 1) % 2 = 0 ∧ (grp L E).getD (vtx L (2 * n + 1)) 0 = k) = false from decide_eq_false (by omega), he]
      rw [show decide (2 * n % 2 = 0 ∧ (grp L E).getD (vtx L (2 * n + 1)) 0 = k) = decide ((grp L E).getD (vtx L (2 * n + 1)) 0 = k) from decide_eq_decide.2 ⟨fun q => q.2, fun q => ⟨by omega, q⟩⟩]
      simp only [Bool.false_eq_true, if_false]
      split <;> omega
    · have h1 : ¬ Stands L (2 * n + 1) := fun q => hs ((h.pair n).1 q)
      rw [if_neg hs, if_neg h1]
      exact ih
theorem dN_eN (h : Good E L) (hm : VOk L m) (k : Nat) : dN L (grp L E) (dartsOf L m) k = 2 * eN L (grp L E) (dartsOf L m) k := by
  have hp := dartsOf_perm h.toWF hm
  unfold dN eN
  rw [hp.countP_eq, hp.countP_eq]
  exact dN_two h k E
theorem face_head (h : Good E L) {f : List Nat} (hf : f ∈ faces L E) : Stands L (f.getD 0 0) := by
  unfold faces facesN at hf
  obtain ⟨d, hd, rfl⟩ := List.mem_map.1 hf
  have hl := (least_iff.1 (List.mem_filter.1 hd).2).1
  have := (per_le h hl).1
  rw [orb_get (by unfold per; omega)]
  exact hl
theorem VOk.stands (h : WF E L) (hm : VOk L m) {d : Nat} (hd : Stands L d) : vtx L d ∈ m := by
  obtain ⟨v, l, hv, hl⟩ := stands_iff.1 hd
  rw [h.vtx hv hl]
  refine hm.all v (List.getElem?_eq_some_iff.1 hv).1 ?_
  rw [getD_some hv]
  intro q
  rw [q] at hl
  cases hl
theorem vN_of {g : List Nat} {v k : Nat} (hv : v ∈ m) (hk : g.getD v 0 = k) : vN g m k ≠ 0 := fun q => by
  have := List.countP_eq_zero.1 q v hv
  exact this (decide_eq_true hk)
theorem each_desc (h : Good E L) (hm : VOk L m) : Desc L (grp L E) m (faces L E) (eachM L (grp L E) m (faces L E)) := by
  have h0 : Desc L (grp L E) [] [] (fun _ => none) := fun k => rfl
  have h1 := Desc.vs h.toWF m [] _ h0 (fun x hx => hm.lt x (by simpa using hx))
  rw [List.nil_append] at h1
  have h2 := Desc.fs (faces L E) [] _ h1 (fun f hf => vN_of (hm.stands h.toWF (face_head h hf)) rfl)
  rwa [List.nil_append] at h2
theorem Hang.full {u v : Nat} (k : Hang L u v) (hg : Good E L) : u = v ∨ L.getD v [] ≠ [] := by
  have hv : ∀ d, Stands L d → L.getD (vtx L d) [] ≠ [] := fun d hd q => by
    obtain ⟨v, l, hv, hl⟩ := stands_iff.1 hd
    rw [hg.toWF.vtx hv hl, getD_some hv] at q
    rw [q] at hl
    cases hl
  cases k with
  | refl => exact Or.inl rfl
  | edge e hs _ => exact Or.inr (hv _ ((hg.pair e).2 hs))
  | back e hs _ => exact Or.inr (hv _ hs)
/-- The keys: those of the vertices that are their groups' least ones. -/
theorem vN_iff (h : Good E L) (hm : VOk L m) {k : Nat} : vN (grp L E) m k ≠ 0 ↔ k ∈ m ∧ (grp L E).getD k 0 = k := by
  constructor
  · intro q
    obtain ⟨v, hv, hk⟩ := List.countP_pos_iff.1 (Nat.pos_of_ne_zero q)
    have hk := of_decide_eq_true hk
    have hvl := hm.lt v hv
    have hkl : k < L.length := hk ▸ (grp_ok h).lt hvl
    have hkk : (grp L E).getD k 0 = k := by
      have := (grp_ok h).fix v hvl
      rwa [hk] at this
    refine ⟨?_, hkk⟩
    rcases ((grp_iff h hvl hkl).1 (hk.trans hkk.symm)).full h with q | q
    · exact q ▸ hv
    · exact hm.all k hkl q
  · rintro ⟨hk, q⟩
    exact vN_of hk q
theorem vN_zero (h : Good E L) (hm : VOk L m) {k : Nat} (q : vN (grp L E) m k = 0) : dN L (grp L E) (dartsOf L m) k = 0 ∧ eN L (grp L E) (dartsOf L m) k = 0 ∧ oN L (grp L E) m k = 0 ∧ fN L (grp L E) (faces L E) k = 0 := by
  have q0 := List.countP_eq_zero.1 q
  have hd : ∀ d, Stands L d → ¬ (grp L E).getD (vtx L d) 0 = k := fun d hd e => q0 _ (hm.stands h.toWF hd) (decide_eq_true e)
  have hs : ∀ d ∈ dartsOf L m, Stands L d := fun d q => by
    obtain ⟨v, hv, hd⟩ := List.mem_flatMap.1 q
    exact stands_iff.2 ⟨v, _, some_getD (hm.lt v hv), hd⟩
  refine ⟨List.countP_eq_zero.2 fun d q e => hd d (hs d q) (of_decide_eq_true e), List.countP_eq_zero.2 fun d q e => hd d (hs d q) (of_decide_eq_true e).2, List.countP_eq_zero.2 fun v hv e => q0 v hv (decide_eq_true (of_decide_eq_true e).1), List.countP_eq_zero.2 fun f hf e => hd _ (face_head h hf) (of_decide_eq_true e)⟩
theorem countP_below {α : Type} (r : α → Prop) [DecidablePred r] (q : α → Nat) (n : Nat) : ∀ l : List α, l.countP (fun x => decide (r x ∧ q x < n + 1)) = l.countP (fun x => decide (r x ∧ q x < n)) + l.countP (fun x => decide (r x ∧ q x = n))
  | [] => rfl
  | x :: l => by
    rw [List.countP_cons, List.countP_cons, List.countP_cons, countP_below r q n l]
    by_cases hr : r x
    · by_cases h1 : q x < n
      · simp only [hr, true_and, h1, show q x < n + 1 by omega, show ¬ q x = n by omega, decide_true, decide_false, if_true, Bool.false_eq_true, if_false]
        omega
      · by_cases h2 : q x = n
        · have h3 : q x < n + 1 := by omega
          simp only [hr, true_and, decide_eq_true h2, decide_eq_false h1, decide_eq_true h3, if_true, Bool.false_eq_true, if_false]
          omega
        · simp only [hr, true_and, h1, show ¬ q x < n + 1 by omega, h2, decide_false, Bool.false_eq_true, if_false]
          omega
    · simp only [hr, false_and, decide_false, Bool.false_eq_true, if_false]
      omega
theorem countP_all {α : Type} {r : α → Prop} [DecidablePred r] {q : α → Nat} {n : Nat} {l : List α} (h : ∀ x ∈ l, q x < n) : l.countP (fun x => decide (r x ∧ q x < n)) = l.countP fun x => decide (r x) :=
  List.countP_congr fun x hx => by simp [h x hx]
theorem countP_none {α : Type} (r : α → Prop) [DecidablePred r] (q : α → Nat) (l : List α) : l.countP (fun x => decide (r x ∧ q x < 0)) = 0 := List.countP_eq_zero.2 fun x _ e => by simp at e
/-- Counted below a bound. -/
theorem cntM_below {M : Nat → Option Cnt3} {g : List Nat} {F : List (List Nat)} (hM : Desc L g m F M) (h0 : ∀ k, vN g m k = 0 → eN L g (dartsOf L m) k = 0 ∧ oN L g m k = 0 ∧ fN L g F k = 0) (h2 : ∀ k, dN L g (dartsOf L m) k = 2 * eN L g (dartsOf L m) k) : ∀ n,
    cntM M n = (((m.countP fun v => decide (True ∧ g.getD v 0 < n) : Nat) : Int), (((dartsOf L m).countP fun d => decide (d % 2 = 0 ∧ g.getD (vtx L d) 0 < n) : Nat) : Int), (((m.countP fun v => decide (L.getD v [] = [] ∧ g.getD v 0 < n)) + (F.countP fun f => decide (True ∧ g.getD (vtx L (f.getD 0 0)) 0 < n)) : Nat) : Int), ((((List.range n).countP fun k => decide (vN g m k ≠ 0)) : Nat) : Int))
  | 0 => by
    rw [countP_none, countP_none, countP_none, countP_none]; rfl
  | n + 1 => by
    have ih := cntM_below hM h0 h2 n
    have e1 := countP_below (fun _ => True) (fun v => g.getD v 0) n m
    have e2 := countP_below (fun d => d % 2 = 0) (fun d => g.getD (vtx L d) 0) n (dartsOf L m)
    have e3 := countP_below (fun v => L.getD v [] = []) (fun v => g.getD v 0) n m
    have e4 := countP_below (fun _ => True) (fun f => g.getD (vtx L (f.getD 0 0)) 0) n F
    have d1 : m.countP (fun v => decide (True ∧ g.getD v 0 = n)) = vN g m n := List.countP_congr fun v _ => by simp
    have d2 : (dartsOf L m).countP (fun d => decide (d % 2 = 0 ∧ g.getD (vtx L d) 0 = n)) = eN L g (dartsOf L m) n := rfl
    have d3 : m.countP (fun v => decide (L.getD v [] = [] ∧ g.getD v 0 = n)) = oN L g m n := List.countP_congr fun v _ => by simp [and_comm]
    have d4 : F.countP (fun f => decide (True ∧ g.getD (vtx L (f.getD 0 0)) 0 = n)) = fN L g F n := List.countP_congr fun v _ => by simp
    rw [d1] at e1
    rw [d2] at e2
    rw [d3] at e3
    rw [d4] at e4
    rw [e1, e2, e3, e4, List.range_succ, List.countP_append, List.countP_cons, List.countP_nil]
    unfold cntM at ih ⊢
    unfold sumM
    rw [if_pos rfl, hM n, ih]
    by_cases hv : vN g m n = 0
    · obtain ⟨z1, z2, z3⟩ := h0 n hv
      rw [if_pos hv, hv, z1, z2, z3, show decide ((0 : Nat) ≠ 0) = false from rfl]
      simp only [Prod.mk.injEq, Bool.false_eq_true, if_false]
      refine ⟨by omega, by omega, by omega, by omega⟩
    · rw [if_neg hv, h2 n, show decide (vN g m n ≠ 0) = true from decide_eq_true hv]
      simp only [Prod.mk.injEq, if_true]
      refine ⟨by omega, by omega, by omega, by omega⟩
/-- .. of all. -/
theorem cntM_all (h : Good E L) (hm : VOk L m) : cntM (eachM L (grp L E) m (faces L E)) L.length =
    ((m.length : Int), (((dartsOf L m).countP fun d => decide (d % 2 = 0) : Nat) : Int), (((m.countP fun v => decide (L.getD v [] = [])) + (faces L E).length : Nat) : Int), (((m.countP fun v => decide ((grp L E).getD v 0 = v)) : Nat) : Int)) := by
  rw [cntM_below (each_desc h hm) (fun k q => (vN_zero h hm q).2) (dN_eN h hm)]
  have hg : ∀ v ∈ m, (grp L E).getD v 0 < L.length := fun v hv => (grp_ok h).lt (hm.lt v hv)
  have hd : ∀ d ∈ dartsOf L m, (grp L E).getD (vtx L d) 0 < L.length := fun d q => by
    obtain ⟨v, hv, hd⟩ := List.mem_flatMap.1 q
    rw [vtx_in h.toWF (hm.lt v hv) hd]
    exact hg v hv
  have hf : ∀ f ∈ faces L E, (grp L E).getD (vtx L (f.getD 0 0)) 0 < L.length := fun f hf => (grp_ok h).lt (h.toWF.vtx_lt (face_head h hf))
  rw [countP_all hg, countP_all hd, countP_all hg, countP_all hf]
  have e1 : m.countP (fun _ => decide True) = m.length := List.countP_eq_length.2 fun _ _ => rfl
  have e2 : (faces L E).countP (fun _ => decide True) = (faces L E).length := List.countP_eq_length.2 fun _ _ => rfl
  have e3 : (List.range L.length).countP (fun k => decide (vN (grp L E) m k ≠ 0)) = m.countP fun v => decide ((grp L E).getD v 0 = v) := by
    rw [List.countP_eq_length_filter, List.countP_eq_length_filter]
    refine List.Perm.length_eq ((List.perm_ext_iff_of_nodup (List.Nodup.sublist List.filter_sublist List.nodup_range) (List.Nodup.sublist List.filter_sublist hm.nd)).2 fun k => ?_)
    rw [List.mem_filter, List.mem_filter, List.mem_range, decide_eq_true_eq, decide_eq_true_eq, vN_iff h hm]
    exact ⟨fun q => q.2, fun q => ⟨hm.lt k q.1, q⟩⟩
  rw [e1, e2, e3]
/-- As the document counts: vertices, edges, faces, components. -/
abbrev Cnt4 := Nat × Nat × Nat × Nat
def meant (of : Int) (x : Nat) : Bool := decide (of < 0) || decide ((x : Int) = of)
def cStep (L : List (List Nat)) (g : List Nat) (of : Int) (c : Cnt4) (v : Nat) : Cnt4 :=
  if meant of (g.getD v 0) = true then (c.1 + 1, c.2.1 + (L.getD v []).countP (fun d => decide (d % 2 = 0)), c.2.2.1 + (if L.getD v [] = [] then 1 else 0), c.2.2.2 + (if g.getD v 0 = v then 1 else 0)) else c
def fStep (L : List (List Nat)) (g : List Nat) (of : Int) (c : Cnt4) (f : List Nat) : Cnt4 :=
  if meant of (g.getD (vtx L (f.getD 0 0)) 0) = true then (c.1, c.2.1, c.2.2.1 + 1, c.2.2.2) else c
def docCnt (L : List (List Nat)) (g m : List Nat) (F : List (List Nat)) (of : Int) : Cnt4 := F.foldl (fStep L g of) (m.foldl (cStep L g of) (0, 0, 0, 0))
theorem fSteps {L : List (List Nat)} {g : List Nat} {of : Int} : ∀ (F : List (List Nat)) (c : Cnt4), F.foldl (fStep L g of) c = (c.1, c.2.1, c.2.2.1 + F.countP (fun f => meant of (g.getD (vtx L (f.getD 0 0)) 0)), c.2.2.2)
  | [], c => by rw [List.countP_nil]; rfl
  | f :: F, c => by
    rw [List.foldl_cons, fSteps F, List.countP_cons]
    unfold fStep
    by_cases q : meant of (g.getD (vtx L (f.getD 0 0)) 0) = true
    · rw [if_pos q, if_pos q]
      simp only [Prod.mk.injEq]
      refine ⟨trivial, trivial, by omega, trivial⟩
    · rw [if_neg q, if_neg q]
      rfl
theorem cSteps (h : WF E L) {g : List Nat} {of : Int} : ∀ (m : List Nat) (c : Cnt4), (∀ v ∈ m, v < L.length) → m.foldl (cStep L g of) c =
    (c.1 + m.countP (fun v => meant of (g.getD v 0)), c.2.1 + (dartsOf L m).countP (fun d => decide (d % 2 = 0) && meant of (g.getD (vtx L d) 0)), c.2.2.1 + m.countP (fun v => decide (L.getD v [] = []) && meant of (g.getD v 0)), c.2.2.2 + m.countP (fun v => decide (g.getD v 0 = v) && meant of (g.getD v 0)))
  | [], c, _ => by rw [List.countP_nil, List.countP_nil, List.countP_nil]; rfl
  | v :: m, c, hm => by
    have hv := hm v (List.mem_cons_self ..)
    rw [List.foldl_cons, cSteps h m _ (fun x hx => hm x (List.mem_cons_of_mem _ hx)), List.countP_cons, List.countP_cons, List.countP_cons]
    have ed : dartsOf L (v :: m) = L.getD v [] ++ dartsOf L m := rfl
    have e1 : (L.getD v []).countP (fun d => decide (d % 2 = 0) && meant of (g.getD (vtx L d) 0)) = if meant of (g.getD v 0) = true then (L.getD v []).countP (fun d => decide (d % 2 = 0)) else 0 := by
      split
      · rename_i q
        refine List.countP_congr fun d hd => ?_
        rw [vtx_in h hv hd, q, Bool.and_true]
      · rename_i q
        refine List.countP_eq_zero.2 fun d hd e => q ?_
        rw [vtx_in h hv hd, Bool.and_eq_true] at e
        exact e.2
    rw [ed, List.countP_append, e1]
    unfold cStep
    by_cases q : meant of (g.getD v 0) = true
    · rw [if_pos q, if_pos q, if_pos q, q, Bool.and_true, Bool.and_true]
      simp only [decide_eq_true_eq, Prod.mk.injEq]
      refine ⟨by omega, by omega, by omega, by omega⟩
    · rw [if_neg q, if_neg q, if_neg q, Bool.eq_false_iff.2 q, Bool.and_false, Bool.and_false]
      simp only [Bool.false_eq_true, if_false, Prod.mk.injEq]
      refine ⟨by omega, by omega, by omega, by omega⟩
theorem docCnt_all (h : Good E L) (hm : VOk L m) : cntM (eachM L (grp L E) m (faces L E)) L.length =
    (((docCnt L (grp L E) m (faces L E) (-1)).1 : Int), ((docCnt L (grp L E) m (faces L E) (-1)).2.1 : Int), ((docCnt L (grp L E) m (faces L E) (-1)).2.2.1 : Int), ((docCnt L (grp L E) m (faces L E) (-1)).2.2.2 : Int)) := by
  have hq : ∀ x, meant (-1) x = true := fun x => rfl
  have e1 : m.countP (fun _ => true) = m.length := List.countP_eq_length.2 fun _ _ => rfl
  have e2 : (faces L E).countP (fun _ => true) = (faces L E).length := List.countP_eq_length.2 fun _ _ => rfl
  rw [cntM_all h hm]
  unfold docCnt
  rw [fSteps, cSteps h.toWF m _ hm.lt]
  simp only [hq, Bool.and_true, e1, e2, Prod.mk.injEq]
  refine ⟨by omega, by omega, by omega, by omega⟩
theorem docCnt_one (h : Good E L) (hm : VOk L m) (k : Nat) : docCnt L (grp L E) m (faces L E) (k : Int) =
    (vN (grp L E) m k, eN L (grp L E) (dartsOf L m) k, oN L (grp L E) m k + fN L (grp L E) (faces L E) k, (docCnt L (grp L E) m (faces L E) (k : Int)).2.2.2) := by
  have hq : ∀ x, meant (k : Int) x = decide (x = k) := fun x => by
    unfold meant
    rw [decide_eq_false (by omega), Bool.false_or]
    exact decide_eq_decide.2 (by omega)
  unfold docCnt
  rw [fSteps, cSteps h.toWF m _ hm.lt]
  simp only [hq, Prod.mk.injEq, Nat.zero_add]
  refine ⟨rfl, List.countP_congr fun d _ => by simp, ?_, trivial⟩
  have : (m.countP fun v => decide (L.getD v [] = []) && decide ((grp L E).getD v 0 = k)) = oN L (grp L E) m k := List.countP_congr fun v _ => by simp [and_comm]
  rw [this]
  rfl
/-- Flat, as the document tells it. -/
def docFlat (L : List (List Nat)) (g m : List Nat) (F : List (List Nat)) : Prop := ∀ v ∈ m, g.getD v 0 = v → ((docCnt L g m F (v : Int)).1 : Int) - ((docCnt L g m F (v : Int)).2.1 : Int) + ((docCnt L g m F (v : Int)).2.2.1 : Int) = 2
theorem docFlat_iff (h : Good E L) (hm : VOk L m) : flatN (eachM L (grp L E) m (faces L E)) L.length ↔ docFlat L (grp L E) m (faces L E) := by
  have hd := each_desc h hm
  have key : ∀ k, vN (grp L E) m k ≠ 0 → ((eachM L (grp L E) m (faces L E)) k = some ((vN (grp L E) m k : Int), ((2 * eN L (grp L E) (dartsOf L m) k : Nat) : Int), ((oN L (grp L E) m k + fN L (grp L E) (faces L E) k : Nat) : Int))) := fun k q => by
    rw [hd k, if_neg q, dN_eN h hm]
  constructor
  · intro q v hv hg
    have hn := (vN_iff h hm).2 ⟨hv, hg⟩
    have := q v _ (hm.lt v hv) (key v hn)
    rw [docCnt_one h hm]
    simp only at this ⊢
    omega
  · intro q k x hk hx
    by_cases hn : vN (grp L E) m k = 0
    · rw [hd k, if_pos hn] at hx
      cases hx
    · obtain ⟨hv, hg⟩ := (vN_iff h hm).1 hn
      have := q k hv hg
      rw [docCnt_one h hm] at this
      rw [key k hn] at hx
      cases hx
      simp only at this ⊢
      omega
end
end Go.Proofs.YtdplphhlclhmfaaDoor
