/- Plain: one component alone; all flat. -/
import Derived.Test.YtdplphhlclhmfaaSpV
namespace Go.Proofs.Ytdplphhlclhmfaa
open Go Go.RowKit
set_option linter.unusedVariables false
set_option linter.unusedSimpArgs false

/-- One component alone. -/
def rst (L : List (List Nat)) (g : List Nat) (k : Nat) : List (List Nat) := (List.range L.length).map fun v => if g.getD v 0 = k then L.getD v [] else []
section
variable {E : Nat} {L : List (List Nat)} {k : Nat}
theorem rst_length (L : List (List Nat)) (g : List Nat) (k : Nat) : (rst L g k).length = L.length := by simp [rst]
theorem rst_get {g : List Nat} {v : Nat} (hv : v < L.length) : (rst L g k)[v]? = some (if g.getD v 0 = k then L.getD v [] else []) := by
  unfold rst
  rw [List.getElem?_map, List.getElem?_range hv]
  rfl
theorem rst_in (h : WF E L) {g : List Nat} {d : Nat} (hd : Stands L d) (hk : g.getD (vtx L d) 0 = k) : (rst L g k)[vtx L d]? = some (L.getD (vtx L d) []) ∧ d ∈ L.getD (vtx L d) [] := by
  obtain ⟨v, l, hv, hl, e⟩ := vtx_S h hd
  rw [rst_get (h.vtx_lt hd), if_pos hk]
  exact ⟨rfl, by rw [e, getD_some hv]; exact hl⟩
theorem rst_stands (h : WF E L) {g : List Nat} {d : Nat} : Stands (rst L g k) d ↔ Stands L d ∧ g.getD (vtx L d) 0 = k := by
  constructor
  · intro q
    obtain ⟨v, l, hv, hl⟩ := stands_iff.1 q
    have hvl : v < L.length := by have := (List.getElem?_eq_some_iff.1 hv).1; rwa [rst_length] at this
    rw [rst_get hvl] at hv
    cases hv
    split at hl
    · rename_i e
      refine ⟨stands_iff.2 ⟨v, _, some_getD hvl, hl⟩, ?_⟩
      rw [vtx_in h hvl hl]
      exact e
    · cases hl
  · rintro ⟨hd, hk⟩
    obtain ⟨h1, h2⟩ := rst_in h hd hk
    exact stands_iff.2 ⟨_, _, h1, h2⟩
theorem rst_wf (h : WF E L) (g : List Nat) (k : Nat) : WF E (rst L g k) := by
  refine ⟨fun l hl d hd => ?_, nodup_of (fun v l hv => ?_) (fun u v l m d hu hv hl hm => ?_)⟩
  · have hs : Stands (rst L g k) d := by
      unfold Stands
      exact List.mem_flatten.2 ⟨l, hl, hd⟩
    exact h.bdS ((rst_stands h).1 hs).1
  · have hvl : v < L.length := by have := (List.getElem?_eq_some_iff.1 hv).1; rwa [rst_length] at this
    rw [rst_get hvl] at hv
    cases hv
    split
    · exact h.nd (some_getD hvl)
    · exact List.nodup_nil
  · have hul : u < L.length := by have := (List.getElem?_eq_some_iff.1 hu).1; rwa [rst_length] at this
    have hvl : v < L.length := by have := (List.getElem?_eq_some_iff.1 hv).1; rwa [rst_length] at this
    rw [rst_get hul] at hu
    rw [rst_get hvl] at hv
    cases hu
    cases hv
    split at hl
    · split at hm
      · exact h.one (some_getD hul) (some_getD hvl) hl hm
      · cases hm
    · cases hl
theorem grp_tw (h : Good E L) {d : Nat} (hd : Stands L d) : (grp L E).getD (vtx L (tw d)) 0 = (grp L E).getD (vtx L d) 0 :=
  ((grp_iff h (h.toWF.vtx_lt hd) (h.toWF.vtx_lt (h.twin _ hd))).2 (hang_tw h hd)).symm
theorem rst_good (h : Good E L) (k : Nat) : Good E (rst L (grp L E) k) := ⟨rst_wf h.toWF _ _, fun d hd => by
  obtain ⟨h1, h2⟩ := (rst_stands h.toWF).1 hd
  exact (rst_stands h.toWF).2 ⟨h.twin _ h1, by rw [grp_tw h h1]; exact h2⟩⟩
theorem rst_vtx (h : WF E L) {g : List Nat} {d : Nat} (hd : Stands L d) (hk : g.getD (vtx L d) 0 = k) : vtx (rst L g k) d = vtx L d := by
  obtain ⟨h1, h2⟩ := rst_in h hd hk
  exact (rst_wf h g k).vtx h1 h2
theorem rst_nxt (h : WF E L) {g : List Nat} {d : Nat} (hd : Stands L d) (hk : g.getD (vtx L d) 0 = k) : nxt (rst L g k) d = nxt L d := by
  have e := rst_vtx h hd hk
  unfold nxt pos
  rw [e, getD_some (rst_in h hd hk).1]
theorem grp_itf (h : Good E L) {d : Nat} (hd : Stands L d) (j : Nat) : (grp L E).getD (vtx L (itf L d j)) 0 = (grp L E).getD (vtx L d) 0 :=
  ((grp_iff h (h.toWF.vtx_lt hd) (h.toWF.vtx_lt (itf_stands h hd j))).2 (hang_itf h hd j)).symm
theorem rst_itf (h : Good E L) {d : Nat} (hd : Stands L d) (hk : (grp L E).getD (vtx L d) 0 = k) : ∀ j, itf (rst L (grp L E) k) d j = itf L d j
  | 0 => rfl
  | j + 1 => by
    have ih := rst_itf h hd hk j
    show fnx (rst L (grp L E) k) (itf (rst L (grp L E) k) d j) = fnx L (itf L d j)
    rw [ih]
    have hs := itf_stands h hd j
    unfold fnx
    exact rst_nxt h.toWF (h.twin _ hs) (by rw [grp_tw h hs, grp_itf h hd]; exact hk)
theorem rst_orb (h : Good E L) {d : Nat} (hd : Stands L d) (hk : (grp L E).getD (vtx L d) 0 = k) : orb (rst L (grp L E) k) E d = orb L E d := by
  have e : itf (rst L (grp L E) k) d = itf L d := funext (rst_itf h hd hk)
  have ep : per (rst L (grp L E) k) E d = per L E d := by
    unfold per
    rw [e]
  unfold orb
  rw [e, ep]
theorem rst_least (h : Good E L) (d : Nat) : least (rst L (grp L E) k) E d = true ↔ least L E d = true ∧ (grp L E).getD (vtx L d) 0 = k := by
  rw [least_iff, least_iff, rst_stands h.toWF]
  constructor
  · rintro ⟨⟨h1, h2⟩, h3⟩
    rw [rst_orb h h1 h2] at h3
    exact ⟨⟨h1, h3⟩, h2⟩
  · rintro ⟨⟨h1, h3⟩, h2⟩
    rw [rst_orb h h1 h2]
    exact ⟨⟨h1, h2⟩, h3⟩
theorem rst_faces (h : Good E L) (k : Nat) : (faces (rst L (grp L E) k) E).length = fN L (grp L E) (faces L E) k := by
  unfold faces
  generalize 2 * E = n
  induction n with
  | zero => rfl
  | succ n ih =>
    rw [facesN_step, facesN_step, List.length_append, ih]
    unfold fN
    rw [List.countP_append]
    congr 1
    by_cases hl : least L E n = true
    · rw [if_pos hl, List.countP_cons, List.countP_nil]
      have hs := (least_iff.1 hl).1
      have := (per_le h hs).1
      have e0 : (orb L E n).getD 0 0 = n := by rw [orb_get (by unfold per; omega)]; rfl
      rw [e0]
      by_cases hk : (grp L E).getD (vtx L n) 0 = k
      · rw [if_pos ((rst_least h n).2 ⟨hl, hk⟩), decide_eq_true hk]; rfl
      · rw [if_neg (fun q => hk ((rst_least h n).1 q).2), decide_eq_false hk]; rfl
    · rw [if_neg hl, if_neg (fun q => hl ((rst_least h n).1 q).1)]; rfl
theorem rst_hang (h : Good E L) {u v : Nat} (hu : u < L.length) (hv : v < L.length) : Hang (rst L (grp L E) k) u v ↔ u = v ∨ (grp L E).getD u 0 = k ∧ (grp L E).getD v 0 = k := by
  have hst : ∀ e, Stands (rst L (grp L E) k) (2 * e) → vtx (rst L (grp L E) k) (2 * e) = vtx L (2 * e) ∧ vtx (rst L (grp L E) k) (2 * e + 1) = vtx L (2 * e + 1) ∧ (grp L E).getD (vtx L (2 * e)) 0 = k ∧ (grp L E).getD (vtx L (2 * e + 1)) 0 = k := fun e hs => by
    obtain ⟨h1, h2⟩ := (rst_stands h.toWF).1 hs
    have h3 := grp_edge h h1
    exact ⟨rst_vtx h.toWF h1 h2, rst_vtx h.toWF ((h.pair e).2 h1) (h3 ▸ h2), h2, h3 ▸ h2⟩
  constructor
  · intro q
    clear hv
    induction q with
    | refl => exact Or.inl rfl
    | edge e hs _ ih =>
      obtain ⟨e1, e2, e3, e4⟩ := hst e hs
      rw [e1] at ih
      rw [e2]
      refine Or.inr ⟨?_, e4⟩
      rcases ih with q | q
      · rw [q]; exact e3
      · exact q.1
    | back e hs _ ih =>
      obtain ⟨e1, e2, e3, e4⟩ := hst e hs
      rw [e2] at ih
      rw [e1]
      refine Or.inr ⟨?_, e3⟩
      rcases ih with q | q
      · rw [q]; exact e4
      · exact q.1
  · rintro (rfl | ⟨q1, q2⟩)
    · exact .refl _
    · have q := (grp_iff h hu hv).1 (q1.trans q2.symm)
      clear hv q2
      have hall : ∀ x, Hang L u x → Hang (rst L (grp L E) k) u x ∧ (grp L E).getD x 0 = k := by
        intro x q
        induction q with
        | refl => exact ⟨.refl _, q1⟩
        | edge e hs _ ih =>
          obtain ⟨i1, i2⟩ := ih
          have hr := (rst_stands h.toWF).2 ⟨hs, i2⟩
          obtain ⟨e1, e2, e3, e4⟩ := hst e hr
          rw [← e1] at i1
          have := Hang.edge e hr i1
          rw [e2] at this
          exact ⟨this, e4⟩
        | back e hs _ ih =>
          obtain ⟨i1, i2⟩ := ih
          have hr : Stands (rst L (grp L E) k) (2 * e) := (rst_stands h.toWF).2 ⟨hs, (grp_edge h hs).trans i2⟩
          obtain ⟨e1, e2, e3, e4⟩ := hst e hr
          rw [← e2] at i1
          have := Hang.back e hr i1
          rw [e1] at this
          exact ⟨this, e3⟩
      exact (hall v q).1
/-- Its groups. -/
def oneG (g : List Nat) (k : Nat) : List Nat := (List.range g.length).map fun u => if g.getD u 0 = k then k else u
theorem one_get {g : List Nat} {u : Nat} (hu : u < g.length) : (oneG g k).getD u 0 = if g.getD u 0 = k then k else u := by
  unfold oneG
  rw [List.getD_eq_getElem?_getD, List.getElem?_map, List.getElem?_range hu]
  rfl
theorem one_ok {n : Nat} {g : List Nat} (h : GOk n g) (hk : k < n) (hkk : g.getD k 0 = k) : GOk n (oneG g k) := by
  have hl := h.len
  refine ⟨by simp [oneG, hl], fun v hv => ?_, fun v hv => ?_⟩
  · rw [one_get (by omega)]
    split
    · rename_i q
      have := h.le v hv
      omega
    · exact Nat.le_refl _
  · rw [one_get (k := k) (by omega : v < g.length)]
    split
    · rw [one_get (by omega), if_pos hkk]
    · rename_i q
      rw [one_get (by omega), if_neg q]
theorem rst_grp (h : Good E L) (hk : k < L.length) (hkk : (grp L E).getD k 0 = k) : grp (rst L (grp L E) k) E = oneG (grp L E) k := by
  have hg := grp_ok h
  have hr := grp_ok (rst_good h k)
  rw [rst_length] at hr
  refine gok_ext hr (one_ok hg hk hkk) fun u v hu hv => ?_
  rw [grp_iff (rst_good h k) (by rw [rst_length]; exact hu) (by rw [rst_length]; exact hv), rst_hang h hu hv, one_get (by rw [hg.len]; exact hu), one_get (by rw [hg.len]; exact hv)]
  constructor
  · rintro (q | ⟨q1, q2⟩)
    · rw [q]
    · rw [if_pos q1, if_pos q2]
  · intro q
    by_cases q1 : (grp L E).getD u 0 = k
    · by_cases q2 : (grp L E).getD v 0 = k
      · exact Or.inr ⟨q1, q2⟩
      · rw [if_pos q1, if_neg q2] at q
        exact absurd (q ▸ hkk) q2
    · by_cases q2 : (grp L E).getD v 0 = k
      · rw [if_neg q1, if_pos q2] at q
        exact absurd (q ▸ hkk) q1
      · rw [if_neg q1, if_neg q2] at q
        exact Or.inl q
theorem countP_or {P Q : Nat → Prop} [DecidablePred P] [DecidablePred Q] (m : List Nat) (h : ∀ v ∈ m, ¬ (P v ∧ Q v)) : m.countP (fun v => decide (P v ∨ Q v)) = m.countP (fun v => decide (P v)) + m.countP fun v => decide (Q v) := by
  induction m with
  | nil => rfl
  | cons v m ih =>
    rw [List.countP_cons, List.countP_cons, List.countP_cons, ih fun x hx => h x (List.mem_cons_of_mem _ hx)]
    have := h v (List.mem_cons_self ..)
    by_cases p : P v
    · have q : ¬ Q v := fun q => this ⟨p, q⟩
      rw [decide_eq_true p, decide_eq_false q, decide_eq_true (Or.inl p : P v ∨ Q v)]
      simp only [Bool.false_eq_true, if_false, if_true]
      omega
    · by_cases q : Q v
      · rw [decide_eq_false p, decide_eq_true q, decide_eq_true (Or.inr q : P v ∨ Q v)]
        simp only [Bool.false_eq_true, if_false, if_true]
        omega
      · rw [decide_eq_false p, decide_eq_false q, decide_eq_false (fun z : P v ∨ Q v => z.elim p q)]
        simp only [Bool.false_eq_true, if_false]
        omega
theorem countP_not {P : Nat → Prop} [DecidablePred P] (m : List Nat) : m.countP (fun v => decide (¬ P v)) + m.countP (fun v => decide (P v)) = m.length := by
  induction m with
  | nil => rfl
  | cons v m ih =>
    rw [List.countP_cons, List.countP_cons, List.length_cons, ← ih]
    by_cases p : P v
    · rw [decide_eq_true p, decide_eq_false (fun z : ¬ P v => z p)]
      simp only [Bool.false_eq_true, if_false, if_true]
      omega
    · rw [decide_eq_false p, decide_eq_true (p : ¬ P v)]
      simp only [Bool.false_eq_true, if_false, if_true]
      omega
theorem rst_many (h : Good E L) (hk : k < L.length) (hkk : (grp L E).getD k 0 = k) : many (grp (rst L (grp L E) k) E) + vN (grp L E) (List.range L.length) k = L.length + 1 := by
  rw [rst_grp h hk hkk]
  have hg := grp_ok h
  have hl : (oneG (grp L E) k).length = L.length := by simp [oneG, hg.len]
  unfold many
  rw [hl]
  have e1 : (List.range L.length).countP (fun v => decide ((oneG (grp L E) k).getD v 0 = v)) = (List.range L.length).countP fun v => decide (¬ (grp L E).getD v 0 = k ∨ v = k) := List.countP_congr fun v hv => by
    rw [decide_eq_true_eq, decide_eq_true_eq, one_get (by rw [hg.len]; exact List.mem_range.1 hv)]
    constructor
    · intro q
      split at q
      · exact Or.inr q.symm
      · rename_i z
        exact Or.inl z
    · rintro (q | q)
      · rw [if_neg q]
      · rw [q, if_pos hkk]
  have e2 := countP_or (P := fun v => ¬ (grp L E).getD v 0 = k) (Q := fun v => v = k) (List.range L.length) (fun v _ q => q.1 (q.2 ▸ hkk))
  have e3 : (List.range L.length).countP (fun v => decide (v = k)) = 1 := by
    rw [← cnt_range]
    exact cnt_one hk
  have e4 := countP_not (P := fun v => (grp L E).getD v 0 = k) (List.range L.length)
  rw [List.length_range] at e4
  unfold vN
  omega
theorem rst_emp (h : Good E L) : emp (rst L (grp L E) k) + vN (grp L E) (List.range L.length) k = L.length + oN L (grp L E) (List.range L.length) k := by
  have e0 : emp (rst L (grp L E) k) = (List.range L.length).countP fun v => decide (¬ (grp L E).getD v 0 = k ∨ ((grp L E).getD v 0 = k ∧ L.getD v [] = [])) := by
    unfold emp empN
    rw [rst_length, cnt_range]
    refine List.countP_congr fun v hv => ?_
    rw [decide_eq_true_eq, decide_eq_true_eq, getD_some (rst_get (List.mem_range.1 hv))]
    constructor
    · intro q
      split at q
      · rename_i z
        exact Or.inr ⟨z, q⟩
      · rename_i z
        exact Or.inl z
    · rintro (q | ⟨q1, q2⟩)
      · rw [if_neg q]
      · rw [if_pos q1]; exact q2
  have e2 := countP_or (P := fun v => ¬ (grp L E).getD v 0 = k) (Q := fun v => (grp L E).getD v 0 = k ∧ L.getD v [] = []) (List.range L.length) (fun v _ q => q.1 q.2.1)
  have e4 := countP_not (P := fun v => (grp L E).getD v 0 = k) (List.range L.length)
  rw [List.length_range] at e4
  unfold vN oN
  omega
theorem rst_laidN (h : Good E L) : ∀ n, laidN (rst L (grp L E) k) n = (dartsN L (2 * n)).countP fun d => decide (d % 2 = 0 ∧ (grp L E).getD (vtx L d) 0 = k)
  | 0 => rfl
  | n + 1 => by
    rw [show 2 * (n + 1) = 2 * n + 1 + 1 by omega, dartsN_step, dartsN_step, laidN_step, rst_laidN h n]
    by_cases hs : Stands L (2 * n)
    · have h1 := (h.pair n).2 hs
      rw [if_pos hs, if_pos h1]
      simp only [List.countP_append, List.countP_cons, List.countP_nil, Nat.zero_add]
      rw [show decide ((2 * n + 1) % 2 = 0 ∧ (grp L E).getD (vtx L (2 * n + 1)) 0 = k) = false from decide_eq_false (by omega)]
      rw [show decide (2 * n % 2 = 0 ∧ (grp L E).getD (vtx L (2 * n)) 0 = k) = decide (Stands (rst L (grp L E) k) (2 * n)) from decide_eq_decide.2 ⟨fun q => (rst_stands h.toWF).2 ⟨hs, q.2⟩, fun q => ⟨by omega, ((rst_stands h.toWF).1 q).2⟩⟩]
      simp only [decide_eq_true_eq, Bool.false_eq_true, if_false, Nat.add_zero]
    · have h1 : ¬ Stands L (2 * n + 1) := fun q => hs ((h.pair n).1 q)
      rw [if_neg hs, if_neg h1, if_neg fun q => hs ((rst_stands h.toWF).1 q).1, Nat.add_zero]
theorem rst_laid (h : Good E L) : laidN (rst L (grp L E) k) E = eN L (grp L E) (dartsOf L (List.range L.length)) k := by
  unfold eN
  rw [(dartsOf_perm h.toWF (VOk.range L)).countP_eq]
  exact rst_laidN h E
/-- No component has more than two. -/
theorem chi_le (h : Good E L) (hk : k < L.length) (hkk : (grp L E).getD k 0 = k) :
    (vN (grp L E) (List.range L.length) k : Int) - (eN L (grp L E) (dartsOf L (List.range L.length)) k : Int) + ((oN L (grp L E) (List.range L.length) k + fN L (grp L E) (faces L E) k : Nat) : Int) ≤ 2 := by
  have h1 := rst_many h hk hkk
  have h2 := rst_emp (k := k) h
  have h3 := rst_laid (k := k) h
  have h4 := rst_faces h k
  have h5 := dfc_pos _ (rst_good h k) rfl
  unfold dfc at h5
  rw [rst_length] at h5
  omega
theorem sum_flat {M : Nat → Option Cnt3} : ∀ n, (∀ k x, k < n → M k = some x → x.1 - x.2.1 / 2 + x.2.2 ≤ 2) →
    0 ≤ 2 * (cntM M n).2.2.2 - ((cntM M n).1 - (cntM M n).2.1 + (cntM M n).2.2.1) ∧ (2 * (cntM M n).2.2.2 - ((cntM M n).1 - (cntM M n).2.1 + (cntM M n).2.2.1) = 0 ↔ flatN M n)
  | 0, _ => ⟨Int.le_refl 0, fun _ k x hk => by omega, fun _ => rfl⟩
  | n + 1, h => by
    obtain ⟨i1, i2⟩ := sum_flat n fun k x hk => h k x (by omega)
    unfold cntM at i1 i2 ⊢
    cases hM : M n with
    | none =>
      have e : sumM M (fun _ => true) (n + 1) = sumM M (fun _ => true) n := by
        conv => lhs; unfold sumM
        rw [if_pos rfl, hM]
      rw [e]
      refine ⟨i1, i2.trans ⟨fun q k x hk hx => ?_, fun q k x hk hx => q k x (by omega) hx⟩⟩
      by_cases e : k = n
      · rw [e, hM] at hx; cases hx
      · exact q k x (by omega) hx
    | some x =>
      have e : sumM M (fun _ => true) (n + 1) = ((sumM M (fun _ => true) n).1 + x.1, (sumM M (fun _ => true) n).2.1 + x.2.1 / 2, (sumM M (fun _ => true) n).2.2.1 + x.2.2, (sumM M (fun _ => true) n).2.2.2 + 1) := by
        conv => lhs; unfold sumM
        rw [if_pos rfl, hM]
      have hx := h n x (by omega) hM
      rw [e]
      simp only
      refine ⟨by omega, ?_⟩
      constructor
      · intro q k y hk hy
        by_cases e : k = n
        · rw [e, hM] at hy
          cases hy
          omega
        · exact (i2.1 (by omega)) k y (by omega) hy
      · intro q
        have := i2.2 fun k y hk hy => q k y (by omega) hy
        have := q n x (by omega) hM
        omega
/-- All is flat just where nothing is short. -/
theorem flat_iff (h : Good E L) : flatN (eachM L (grp L E) (List.range L.length) (faces L E)) L.length ↔ dfc L E = 0 := by
  have hd := each_desc h (VOk.range L)
  have hs := sum_flat (M := eachM L (grp L E) (List.range L.length) (faces L E)) L.length fun k x hk hx => by
    by_cases hn : vN (grp L E) (List.range L.length) k = 0
    · rw [hd k, if_pos hn] at hx
      cases hx
    · obtain ⟨hv, hg⟩ := (vN_iff h (VOk.range L)).1 hn
      have := chi_le h hk hg
      rw [hd k, if_neg hn, dN_eN h (VOk.range L)] at hx
      cases hx
      simp only
      omega
  rw [← hs.2, cntM_range h]
  unfold dfc
  simp only
  constructor <;> intro q <;> omega
end
end Go.Proofs.Ytdplphhlclhmfaa
