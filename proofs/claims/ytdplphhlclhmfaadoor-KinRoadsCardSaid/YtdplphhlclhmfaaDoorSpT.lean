/- Plain: an edge that is laid: groups and counts behind it. -/
import Derived.Test.YtdplphhlclhmfaaDoorSpS
import Derived.Test.YtdplphhlclhmfaaDoorSpG
namespace Go.Proofs.YtdplphhlclhmfaaDoor
open Go Go.RowKit
set_option linter.unusedVariables false
set_option linter.unusedSimpArgs false

section
variable {E : Nat} {L : List (List Nat)}
theorem vtx_S (h : WF E L) {d : Nat} (hd : Stands L d) : ∃ v l, L[v]? = some l ∧ d ∈ l ∧ vtx L d = v := by
  obtain ⟨v, l, hv, hl⟩ := stands_iff.1 hd
  exact ⟨v, l, hv, hl, h.vtx hv hl⟩
theorem hang_tw (h : Good E L) {d : Nat} (hd : Stands L d) : Hang L (vtx L d) (vtx L (tw d)) := by
  by_cases ho : d % 2 = 1
  · have e : d = 2 * (d / 2) + 1 := by omega
    rw [e] at hd ⊢
    have hs := (h.pair (d / 2)).1 hd
    rw [tw_odd]
    exact .back _ hs (.refl _)
  · have e : d = 2 * (d / 2) := by omega
    rw [e] at hd ⊢
    rw [tw_even]
    exact .edge _ hd (.refl _)
theorem hang_itf (h : Good E L) {d : Nat} (hd : Stands L d) : ∀ k, Hang L (vtx L d) (vtx L (itf L d k))
  | 0 => .refl _
  | k + 1 => by
    have hs := itf_stands h hd k
    have e : itf L d (k + 1) = fnx L (itf L d k) := rfl
    rw [e]
    unfold fnx
    rw [h.toWF.vtx_nxt (h.twin _ hs)]
    exact (hang_itf h hd k).trans (hang_tw h hs)
theorem hang_orb (h : Good E L) {d x : Nat} (hd : Stands L d) (hx : x ∈ orb L E d) : Hang L (vtx L d) (vtx L x) := by
  unfold orb at hx
  obtain ⟨k, _, rfl⟩ := List.mem_map.1 hx
  exact hang_itf h hd k
theorem atC_at (h : Good E L) {a : Int × Int} (ha : chkErr L a.1 a.2 = 0) (hn : atC L a ≠ -1) : Stands L (atC L a).toNat ∧ vtx L (atC L a).toNat = a.1.toNat := by
  obtain ⟨x, hx, l, hxl, hc⟩ := chk_ok ha
  obtain ⟨a1, a2⟩ := a
  simp only at hx hc
  rcases hc with ⟨rfl, _⟩ | ⟨m, rfl, hm⟩
  · exact absurd (by unfold atC; rw [if_pos rfl]) hn
  · rw [atC_nat, Int.toNat_natCast]
    have hs : Stands L m := stands_iff.2 ⟨x, l, hxl, hm⟩
    refine ⟨h.toWF.nxt_stands hs, ?_⟩
    rw [h.toWF.vtx_nxt hs, h.toWF.vtx hxl hm, hx]
    rfl
theorem same_group (h : Good E L) {a b : Int × Int} (ha : chkErr L a.1 a.2 = 0) (hb : chkErr L b.1 b.2 = 0) (hs : sameC L E a b) : (grp L E).getD a.1.toNat 0 = (grp L E).getD b.1.toNat 0 := by
  unfold sameC at hs
  split at hs
  · rw [hs]
  · rename_i q
    have h1 := atC_at h ha (fun k => q (Or.inl k))
    have h2 := atC_at h hb (fun k => q (Or.inr k))
    rw [← h1.2, ← h2.2]
    exact (grp_iff h (h.toWF.vtx_lt h1.1) (h.toWF.vtx_lt h2.1)).2 (hang_orb h h1.1 hs)
/-- Where darts stand behind an edge that is laid. -/
theorem put_vtx (h : WF E L) {d v : Nat} {b : Int} (hd : d < 2 * E) (hn : ¬ Stands L d) (hv : v < L.length) {x : Nat} (hx : Stands L x) : vtx (putL L d v b) x = vtx L x := by
  have h' := putL_wf (b := b) h hd hn hv
  obtain ⟨u, l, hu, hl, e⟩ := vtx_S h hx
  rw [e]
  have := putL_get (d := d) (b := b) (some_getD hv) u
  by_cases q : u = v
  · rw [if_pos q] at this
    refine h'.vtx this (mem_insB.2 (Or.inr ?_))
    rw [← q, getD_some hu]
    exact hl
  · rw [if_neg q, hu] at this
    exact h'.vtx this hl
theorem put_vtx_new (h : WF E L) {d v : Nat} {b : Int} (hd : d < 2 * E) (hn : ¬ Stands L d) (hv : v < L.length) : vtx (putL L d v b) d = v := by
  have h' := putL_wf (b := b) h hd hn hv
  have := putL_get (d := d) (b := b) (some_getD hv) v
  rw [if_pos rfl] at this
  exact h'.vtx this (mem_insB.2 (Or.inl rfl))
theorem lay_vtx (h : Good E L) {e : Nat} (he : e < E) (hn : ¬ Stands L (2 * e)) {a b : Int × Int} (ha : chkErr L a.1 a.2 = 0) (hb : chkErr L b.1 b.2 = 0) :
    vtx (layL L e a b) (2 * e) = a.1.toNat ∧ vtx (layL L e a b) (2 * e + 1) = b.1.toNat ∧ ∀ x, Stands L x → vtx (layL L e a b) x = vtx L x := by
  have hn1 : ¬ Stands L (2 * e + 1) := fun q => hn ((h.pair e).1 q)
  have hla := chk_lt ha
  have hlb := chk_lt hb
  have hW1 := putL_wf (b := a.2) h.toWF (d := 2 * e) (by omega) hn hla
  have hn2 : ¬ Stands (putL L (2 * e) a.1.toNat a.2) (2 * e + 1) := by
    rw [putL_stands hla]
    rintro (q | q)
    · omega
    · exact hn1 q
  have hlb' : b.1.toNat < (putL L (2 * e) a.1.toNat a.2).length := by rw [putL_length]; exact hlb
  unfold layL
  refine ⟨?_, put_vtx_new hW1 (by omega) hn2 hlb', fun x hx => ?_⟩
  · rw [put_vtx hW1 (by omega) hn2 hlb' ((putL_stands hla).2 (Or.inl rfl))]
    exact put_vtx_new h.toWF (by omega) hn hla
  · rw [put_vtx hW1 (by omega) hn2 hlb' ((putL_stands hla).2 (Or.inr hx))]
    exact put_vtx h.toWF (by omega) hn hla hx
theorem layL_length (L : List (List Nat)) (e : Nat) (a b : Int × Int) : (layL L e a b).length = L.length := by
  unfold layL; rw [putL_length, putL_length]
theorem Hang.grown {u v : Nat} (k : Hang L u v) (h : Good E L) {e : Nat} (he : e < E) (hn : ¬ Stands L (2 * e)) {a b : Int × Int} (ha : chkErr L a.1 a.2 = 0) (hb : chkErr L b.1 b.2 = 0) : Hang (layL L e a b) u v := by
  obtain ⟨_, _, hv⟩ := lay_vtx h he hn ha hb
  induction k with
  | refl => exact .refl _
  | edge f hs _ ih =>
    have h1 := (lay_stands (e := e) ha hb).2 (Or.inr hs)
    rw [← hv _ hs] at ih
    rw [← hv _ ((h.pair f).2 hs)]
    exact .edge f h1 ih
  | back f hs _ ih =>
    have h1 := (lay_stands (e := e) ha hb).2 (Or.inr hs)
    rw [← hv _ ((h.pair f).2 hs)] at ih
    rw [← hv _ hs]
    exact .back f h1 ih
/-- The groups behind it. -/
theorem grp_lay (h : Good E L) {e : Nat} (he : e < E) (hn : ¬ Stands L (2 * e)) {a b : Int × Int} (ha : chkErr L a.1 a.2 = 0) (hb : chkErr L b.1 b.2 = 0) (h' : Good E (layL L e a b)) : grp (layL L e a b) E = joinG (grp L E) a.1.toNat b.1.toNat := by
  have hla := chk_lt ha
  have hlb := chk_lt hb
  have hg := grp_ok h
  have hg' := grp_ok h'
  rw [layL_length] at hg'
  obtain ⟨e1, e2, e3⟩ := lay_vtx h he hn ha hb
  have hse : Stands (layL L e a b) (2 * e) := (lay_stands ha hb).2 (Or.inl (by omega))
  refine gok_ext hg' (join_ok hg hla hlb) fun u v hu hv => ?_
  rw [grp_iff h' (by rw [layL_length]; exact hu) (by rw [layL_length]; exact hv), join_same hg hu hv]
  constructor
  · intro k
    have hst : ∀ f, Stands (layL L e a b) (2 * f) → f = e ∨ Stands L (2 * f) := fun f hs => ((lay_stands ha hb).1 hs).imp (fun q => by omega) id
    clear hv
    induction k with
    | refl => exact Or.inl rfl
    | edge f hs _ ih =>
      rcases hst f hs with rfl | hs'
      · rw [e1] at ih
        rw [e2]
        rcases ih with q | q
        · exact Or.inr ⟨Or.inl q, Or.inr rfl⟩
        · exact Or.inr ⟨q.1, Or.inr rfl⟩
      · rw [e3 _ hs'] at ih
        rw [e3 _ ((h.pair f).2 hs'), ← grp_edge h hs']
        exact ih
    | back f hs _ ih =>
      rcases hst f hs with rfl | hs'
      · rw [e2] at ih
        rw [e1]
        rcases ih with q | q
        · exact Or.inr ⟨Or.inr q, Or.inl rfl⟩
        · exact Or.inr ⟨q.1, Or.inl rfl⟩
      · rw [e3 _ ((h.pair f).2 hs'), ← grp_edge h hs'] at ih
        rw [e3 _ hs']
        exact ih
  · have hab : Hang (layL L e a b) a.1.toNat b.1.toNat := by
      have := Hang.edge e hse (.refl _)
      rwa [e1, e2] at this
    have hup : ∀ x, x < L.length → ∀ y, y < L.length → (grp L E).getD x 0 = (grp L E).getD y 0 → Hang (layL L e a b) x y := fun x hx y hy q => ((grp_iff h hx hy).1 q).grown h he hn ha hb
    rintro (q | ⟨q1, q2⟩)
    · exact hup u hu v hv q
    · have h1 : Hang (layL L e a b) u a.1.toNat := q1.elim (hup u hu _ hla) fun q => (hup u hu _ hlb q).trans hab.symm
      have h2 : Hang (layL L e a b) v a.1.toNat := q2.elim (hup v hv _ hla) fun q => (hup v hv _ hlb q).trans hab.symm
      exact h1.trans h2.symm
theorem countP_less {P Q : Nat → Prop} [DecidablePred P] [DecidablePred Q] {x : Nat} : ∀ {m : List Nat}, m.Nodup → x ∈ m → P x → (∀ v ∈ m, (Q v ↔ P v ∧ v ≠ x)) → m.countP (fun v => decide (P v)) = m.countP (fun v => decide (Q v)) + 1
  | [], _, hx, _, _ => by cases hx
  | y :: m, hm, hx, hp, h => by
    rw [List.nodup_cons] at hm
    rw [List.countP_cons, List.countP_cons]
    by_cases e : y = x
    · subst e
      have hQ : ¬ Q y := fun q => ((h y (List.mem_cons_self ..)).1 q).2 rfl
      have : m.countP (fun v => decide (P v)) = m.countP (fun v => decide (Q v)) := List.countP_congr fun v hv => by
        have := h v (List.mem_cons_of_mem _ hv)
        rw [decide_eq_true_eq, decide_eq_true_eq]
        exact ⟨fun q => this.2 ⟨q, fun k => hm.1 (k ▸ hv)⟩, fun q => (this.1 q).1⟩
      rw [this, decide_eq_true hp, decide_eq_false hQ]
      rfl
    · have hx' : x ∈ m := by
        rcases List.mem_cons.1 hx with q | q
        · exact absurd q.symm e
        · exact q
      rw [countP_less hm.2 hx' hp fun v hv => h v (List.mem_cons_of_mem _ hv)]
      have := h y (List.mem_cons_self ..)
      by_cases hP : P y
      · rw [decide_eq_true hP, decide_eq_true (this.2 ⟨hP, e⟩)]
        rw [if_pos rfl]
      · rw [decide_eq_false hP, decide_eq_false (fun q => hP (this.1 q).1)]
        simp
/-- How many groups. -/
def many (g : List Nat) : Nat := (List.range g.length).countP fun v => decide (g.getD v 0 = v)
theorem many_join {n : Nat} {g : List Nat} (h : GOk n g) {a b : Nat} (ha : a < n) (hb : b < n) : many g = many (joinG g a b) + if g.getD a 0 = g.getD b 0 then 0 else 1 := by
  by_cases e : g.getD a 0 = g.getD b 0
  · rw [if_pos e]
    unfold joinG
    rw [if_pos e]
    rfl
  · rw [if_neg e]
    unfold many
    rw [join_length, h.len]
    have hax := h.fix a ha
    have hbx := h.fix b hb
    have hla := h.lt ha
    have hlb := h.lt hb
    refine countP_less (x := max (g.getD a 0) (g.getD b 0)) List.nodup_range (List.mem_range.2 (by omega)) ?_ fun v hv => ?_
    · by_cases q : g.getD a 0 ≤ g.getD b 0
      · rw [show max (g.getD a 0) (g.getD b 0) = g.getD b 0 by omega]; exact hbx
      · rw [show max (g.getD a 0) (g.getD b 0) = g.getD a 0 by omega]; exact hax
    · have hv := List.mem_range.1 hv
      rw [join_get h hv]
      have hlv := h.le v hv
      constructor
      · intro q
        split at q
        · rename_i k
          by_cases hm : g.getD a 0 ≤ g.getD b 0
          · have ev : v = g.getD a 0 := by omega
            rw [ev]
            exact ⟨hax, by omega⟩
          · have ev : v = g.getD b 0 := by omega
            rw [ev]
            exact ⟨hbx, by omega⟩
        · rename_i k
          refine ⟨q, fun k2 => k ?_⟩
          rw [q]
          omega
      · rintro ⟨q1, q2⟩
        split
        · rename_i k
          rw [q1] at k
          omega
        · exact q1
theorem cnt_range (P : Nat → Prop) [DecidablePred P] : ∀ n, cnt P n = (List.range n).countP fun v => decide (P v)
  | 0 => rfl
  | n + 1 => by
    rw [List.range_succ, List.countP_append, List.countP_cons, List.countP_nil, ← cnt_range P n]
    have e : cnt P (n + 1) = cnt P n + if P n then 1 else 0 := by
      conv => lhs; unfold cnt
      by_cases h : P n
      · rw [if_pos h, if_pos h]
      · rw [if_neg h, if_neg h]
    rw [e]
    by_cases h : P n
    · rw [if_pos h, decide_eq_true h]; rfl
    · rw [if_neg h, decide_eq_false h]; rfl
/-- All vertices: counted. -/
theorem cntM_range (h : Good E L) : cntM (eachM L (grp L E) (List.range L.length) (faces L E)) L.length =
    ((L.length : Int), (laidN L E : Int), (((faces L E).length + emp L : Nat) : Int), (many (grp L E) : Int)) := by
  rw [cntM_all h (VOk.range L), List.length_range]
  have e1 : (dartsOf L (List.range L.length)).countP (fun d => decide (d % 2 = 0)) = laidN L E := by
    rw [(dartsOf_perm h.toWF (VOk.range L)).countP_eq]
    have : ∀ n, (dartsN L (2 * n)).countP (fun d => decide (d % 2 = 0)) = laidN L n := by
      intro n
      induction n with
      | zero => rfl
      | succ n ih =>
        rw [show 2 * (n + 1) = 2 * n + 1 + 1 by omega, dartsN_step, dartsN_step, laidN_step]
        by_cases hs : Stands L (2 * n)
        · rw [if_pos hs, if_pos ((h.pair n).2 hs), if_pos hs, List.countP_append, List.countP_append, ih, List.countP_cons, List.countP_cons, List.countP_nil]
          rw [decide_eq_true (show 2 * n % 2 = 0 by omega), decide_eq_false (show ¬ (2 * n + 1) % 2 = 0 by omega)]
          rfl
        · rw [if_neg hs, if_neg (fun q => hs ((h.pair n).1 q)), if_neg hs, ih]; rfl
    exact this E
  have e2 : (List.range L.length).countP (fun v => decide (L.getD v [] = [])) = emp L := by
    unfold emp empN
    exact (cnt_range _ _).symm
  have e3 : (List.range L.length).countP (fun v => decide ((grp L E).getD v 0 = v)) = many (grp L E) := by
    unfold many
    rw [(grp_ok h).len]
  rw [e1, e2, e3, Nat.add_comm]
theorem laid_lay (h : Good E L) {e : Nat} (he : e < E) (hn : ¬ Stands L (2 * e)) {a b : Int × Int} (ha : chkErr L a.1 a.2 = 0) (hb : chkErr L b.1 b.2 = 0) : laidN (layL L e a b) E = laidN L E + 1 := by
  unfold laidN
  rw [← List.countP_eq_length_filter, ← List.countP_eq_length_filter]
  refine countP_less (x := e) List.nodup_range (List.mem_range.2 he) ((lay_stands ha hb).2 (Or.inl (by omega))) fun v _ => ?_
  rw [lay_stands ha hb]
  constructor
  · intro q
    exact ⟨Or.inr q, fun k => hn (k ▸ q)⟩
  · rintro ⟨q1 | q1, q2⟩
    · omega
    · exact q1
/-- A step. -/
theorem steps12 (h : Good E L) {e : Nat} (he : e < E) (hn : ¬ Stands L (2 * e)) {a b : Int × Int} (ha : chkErr L a.1 a.2 = 0) (hb : chkErr L b.1 b.2 = 0) (h' : Good E (layL L e a b)) :
    (layL L e a b).length = L.length ∧ laidN (layL L e a b) E = laidN L E + 1 ∧
    ((grp L E).getD a.1.toNat 0 ≠ (grp L E).getD b.1.toNat 0 → legalC L E a b ∧ many (grp (layL L e a b) E) + 1 = many (grp L E) ∧ (faces (layL L e a b) E).length + emp (layL L e a b) + 1 = (faces L E).length + emp L) ∧
    ((grp L E).getD a.1.toNat 0 = (grp L E).getD b.1.toNat 0 → many (grp (layL L e a b) E) = many (grp L E) ∧ (legalC L E a b → (faces (layL L e a b) E).length + emp (layL L e a b) = (faces L E).length + emp L + 1) ∧ (¬ legalC L E a b → (faces (layL L e a b) E).length + emp (layL L e a b) + 1 = (faces L E).length + emp L)) := by
  have hs := splits h he hn ha hb h'
  have hm := many_join (grp_ok h) (chk_lt ha) (chk_lt hb)
  rw [← grp_lay h he hn ha hb h'] at hm
  refine ⟨layL_length _ _ _ _, laid_lay h he hn ha hb, fun q => ⟨Or.inr q, ?_, hs.2 fun k => q (same_group h ha hb k)⟩, fun q => ⟨?_, fun k => hs.1 (k.resolve_right fun z => z q), fun k => hs.2 fun z => k (Or.inl z)⟩⟩
  · rw [if_neg q] at hm; omega
  · rw [if_pos q] at hm; omega
end
end Go.Proofs.YtdplphhlclhmfaaDoor
