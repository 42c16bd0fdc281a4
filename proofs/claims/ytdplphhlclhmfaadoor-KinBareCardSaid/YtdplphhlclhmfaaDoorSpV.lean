/- Plain: all is flat where nothing is short of spheres. -/
import Derived.Test.YtdplphhlclhmfaaDoorSpU
namespace Go.Proofs.YtdplphhlclhmfaaDoor
open Go Go.RowKit
set_option linter.unusedVariables false
set_option linter.unusedSimpArgs false

/-- Behind an edge more. -/
structure Adds (L L' : List (List Nat)) (e p q : Nat) : Prop where
  len : L'.length = L.length
  st : ∀ x, Stands L' x ↔ x / 2 = e ∨ Stands L x
  va : vtx L' (2 * e) = p
  vb : vtx L' (2 * e + 1) = q
  vo : ∀ x, Stands L x → vtx L' x = vtx L x
  pl : p < L.length
  ql : q < L.length
  no : ¬ Stands L (2 * e)
section
variable {E : Nat} {L L' : List (List Nat)}
theorem Adds.hang {e p q : Nat} (h : Adds L L' e p q) (hg : Good E L) {u v : Nat} (k : Hang L u v) : Hang L' u v := by
  induction k with
  | refl => exact .refl _
  | edge f hs _ ih =>
    have h1 := (h.st (2 * f)).2 (Or.inr hs)
    rw [← h.vo _ hs] at ih
    rw [← h.vo _ ((hg.pair f).2 hs)]
    exact .edge f h1 ih
  | back f hs _ ih =>
    have h1 := (h.st (2 * f)).2 (Or.inr hs)
    rw [← h.vo _ ((hg.pair f).2 hs)] at ih
    rw [← h.vo _ hs]
    exact .back f h1 ih
theorem Adds.grp {e p q : Nat} (h : Adds L L' e p q) (hg : Good E L) (hg' : Good E L') : grp L' E = joinG (grp L E) p q := by
  have hk := grp_ok hg
  have hk' := grp_ok hg'
  rw [h.len] at hk'
  have hse : Stands L' (2 * e) := (h.st _).2 (Or.inl (by omega))
  refine gok_ext hk' (join_ok hk h.pl h.ql) fun u v hu hv => ?_
  rw [grp_iff hg' (by rw [h.len]; exact hu) (by rw [h.len]; exact hv), join_same hk hu hv]
  constructor
  · intro k
    have hst : ∀ f, Stands L' (2 * f) → f = e ∨ Stands L (2 * f) := fun f hs => ((h.st _).1 hs).imp (fun q => by omega) id
    clear hv
    induction k with
    | refl => exact Or.inl rfl
    | edge f hs _ ih =>
      rcases hst f hs with rfl | hs'
      · rw [h.va] at ih
        rw [h.vb]
        rcases ih with q | q
        · exact Or.inr ⟨Or.inl q, Or.inr rfl⟩
        · exact Or.inr ⟨q.1, Or.inr rfl⟩
      · rw [h.vo _ hs'] at ih
        rw [h.vo _ ((hg.pair f).2 hs'), ← grp_edge hg hs']
        exact ih
    | back f hs _ ih =>
      rcases hst f hs with rfl | hs'
      · rw [h.vb] at ih
        rw [h.va]
        rcases ih with q | q
        · exact Or.inr ⟨Or.inr q, Or.inl rfl⟩
        · exact Or.inr ⟨q.1, Or.inl rfl⟩
      · rw [h.vo _ ((hg.pair f).2 hs'), ← grp_edge hg hs'] at ih
        rw [h.vo _ hs']
        exact ih
  · have hab : Hang L' p q := by
      have := Hang.edge e hse (.refl _)
      rwa [h.va, h.vb] at this
    have hup : ∀ x, x < L.length → ∀ y, y < L.length → (Proofs.YtdplphhlclhmfaaDoor.grp L E).getD x 0 = (Proofs.YtdplphhlclhmfaaDoor.grp L E).getD y 0 → Hang L' x y := fun x hx y hy q => h.hang hg ((grp_iff hg hx hy).1 q)
    rintro (q | ⟨q1, q2⟩)
    · exact hup u hu v hv q
    · have h1 : Hang L' u p := q1.elim (hup u hu _ h.pl) fun q => (hup u hu _ h.ql q).trans hab.symm
      have h2 : Hang L' v p := q2.elim (hup v hv _ h.pl) fun q => (hup v hv _ h.ql q).trans hab.symm
      exact h1.trans h2.symm
theorem Adds.laid {e p q : Nat} (h : Adds L L' e p q) (he : e < E) : laidN L' E = laidN L E + 1 := by
  unfold laidN
  rw [← List.countP_eq_length_filter, ← List.countP_eq_length_filter]
  refine countP_less (x := e) List.nodup_range (List.mem_range.2 he) ((h.st _).2 (Or.inl (by omega))) fun v _ => ?_
  rw [h.st]
  constructor
  · intro q
    exact ⟨Or.inr q, fun k => h.no (k ▸ q)⟩
  · rintro ⟨q1 | q1, q2⟩
    · omega
    · exact q1
theorem Adds.free {e p q : Nat} (h : Adds L L' e p q) (he : e < E) : freeN E L = freeN E L' + 1 := by
  refine cnt_less (x := 2 * e) (by omega) ⟨h.no, by omega⟩ fun d hd => ?_
  rw [h.st]
  constructor
  · rintro ⟨h1, h2⟩
    exact ⟨⟨fun q => h1 (Or.inr q), h2⟩, fun q => h1 (Or.inl (by omega))⟩
  · rintro ⟨⟨h1, h2⟩, h3⟩
    refine ⟨?_, h2⟩
    rintro (q | q)
    · omega
    · exact h1 q
theorem lift_adds (h : Good E L) {e : Nat} (hs : Stands L (2 * e)) (h0 : Good E (liftL L e)) : Adds (liftL L e) L e (vtx L (2 * e)) (vtx L (2 * e + 1)) := by
  have hL0 : liftL L e = remL (remL L (2 * e)) (2 * e + 1) := rfl
  have hlen : (liftL L e).length = L.length := by rw [hL0, remL_length, remL_length]
  have hs1 : Stands L (2 * e + 1) := (h.pair e).2 hs
  refine ⟨hlen.symm, fun x => ?_, rfl, rfl, fun x hx => ?_, by rw [hlen]; exact h.toWF.vtx_lt hs, by rw [hlen]; exact h.toWF.vtx_lt hs1, fun q => by have := lift_stands.1 q; omega⟩
  · rw [lift_stands]
    by_cases q : x / 2 = e
    · exact ⟨fun _ => Or.inl q, fun _ => by rcases div_eq.1 q with k | k <;> rw [k] <;> assumption⟩
    · exact ⟨fun k => Or.inr ⟨q, k⟩, fun k => k.elim (fun z => absurd z q) fun z => z.2⟩
  · obtain ⟨u, l, hu, hl, ev⟩ := vtx_S h.toWF (lift_stands.1 hx).2
    rw [ev]
    refine (h0.toWF.vtx (l := (l.filter (· != 2 * e)).filter (· != 2 * e + 1)) ?_ ?_).symm
    · rw [hL0, remL_get, remL_get, hu]; rfl
    · have := (lift_stands.1 hx).1
      rw [List.mem_filter, List.mem_filter, bne_iff_ne, bne_iff_ne]
      exact ⟨⟨hl, by omega⟩, by omega⟩
/-- What is short of spheres. -/
noncomputable def dfc (L : List (List Nat)) (E : Nat) : Int := 2 * (many (grp L E) : Int) + (laidN L E : Int) - (L.length : Int) - ((faces L E).length : Int) - (emp L : Int)
theorem dfc_lay (h : Good E L) {e : Nat} (he : e < E) (hn : ¬ Stands L (2 * e)) {a b : Int × Int} (ha : chkErr L a.1 a.2 = 0) (hb : chkErr L b.1 b.2 = 0) (h' : Good E (layL L e a b)) :
    dfc (layL L e a b) E = dfc L E + if legalC L E a b then 0 else 2 := by
  obtain ⟨s1, s2, s3, s4⟩ := steps12 h he hn ha hb h'
  unfold dfc
  rw [s1, s2]
  by_cases q : (grp L E).getD a.1.toNat 0 = (grp L E).getD b.1.toNat 0
  · obtain ⟨t1, t2, t3⟩ := s4 q
    by_cases k : legalC L E a b
    · have := t2 k
      rw [if_pos k]; omega
    · have := t3 k
      rw [if_neg k]; omega
  · obtain ⟨t1, t2, t3⟩ := s3 q
    rw [if_pos t1]; omega
theorem dfc_lift (h : Good E L) {e : Nat} (hs : Stands L (2 * e)) (h0 : Good E (liftL L e)) : dfc (liftL L e) E ≤ dfc L E := by
  have hA := lift_adds h hs h0
  have he : e < E := by have := h.toWF.bdS hs; omega
  have hm := many_join (grp_ok h0) hA.pl hA.ql
  rw [← hA.grp h0 h] at hm
  have hl := hA.laid he
  have hf := hA.free he
  have c1 := cls_faces h
  have c0 := cls_faces h0
  unfold dfc
  rw [hA.len]
  rcases lift_cls h hs h0 with ⟨q, k⟩ | q
  · rw [if_pos k] at hm
    unfold allC at q
    omega
  · unfold allC at q
    split at hm <;> omega
theorem none_stands (h : Good E L) (h0 : laidN L E = 0) (d : Nat) : ¬ Stands L d := fun hd => by
  have hb := h.toWF.bdS hd
  have hs : Stands L (2 * (d / 2)) := by
    by_cases ho : d % 2 = 1
    · have e : d = 2 * (d / 2) + 1 := by omega
      rw [e] at hd
      exact (h.pair _).1 hd
    · rwa [show 2 * (d / 2) = d by omega]
  unfold laidN at h0
  have := List.length_eq_zero_iff.1 h0
  have hm : d / 2 ∈ (List.range E).filter fun e => decide (Stands L (2 * e)) := List.mem_filter.2 ⟨List.mem_range.2 (by omega), decide_eq_true hs⟩
  rw [this] at hm
  cases hm
theorem many_alone (n : Nat) : many (aloneG n) = n := by
  unfold many
  have : (aloneG n).length = n := by simp [aloneG]
  rw [this]
  have : (List.range n).countP (fun v => decide ((aloneG n).getD v 0 = v)) = (List.range n).length := List.countP_eq_length.2 fun v hv => decide_eq_true (alone_get (List.mem_range.1 hv))
  rw [this, List.length_range]
theorem cnt_full {P : Nat → Prop} : ∀ {n : Nat}, (∀ d, d < n → P d) → cnt P n = n
  | 0, _ => rfl
  | n + 1, h => by
    have ih := cnt_full (P := P) fun d (hd : d < n) => h d (by omega)
    conv => lhs; unfold cnt
    rw [if_pos (h n (by omega)), ih]
theorem dfc_none (h : Good E L) (h0 : laidN L E = 0) : dfc L E = 0 := by
  have hn := none_stands h h0
  have hg : ∀ n, grpN L n = aloneG L.length := by
    intro n
    induction n with
    | zero => rfl
    | succ n ih => rw [grpN, if_neg (hn _), ih]
  have hf : (faces L E).length = 0 := by
    unfold faces
    rw [facesN_len]
    have : ∀ n, cnt (fun d => least L E d = true) n = 0 := by
      intro n
      induction n with
      | zero => rfl
      | succ n ih =>
        unfold cnt
        rw [ih, if_neg fun q => hn n (least_iff.1 q).1]
    exact this _
  have he : emp L = L.length := by
    unfold emp empN
    refine cnt_full fun v hv => ?_
    cases q : L.getD v [] with
    | nil => rfl
    | cons d l =>
      exact absurd (stands_iff.2 ⟨v, _, some_getD hv, by rw [q]; exact List.mem_cons_self ..⟩) (hn d)
  unfold dfc grp
  rw [hg E, many_alone, h0, hf, he]
  omega
theorem dfc_pos : ∀ (n : Nat) {L : List (List Nat)}, Good E L → laidN L E = n → 0 ≤ dfc L E
  | 0, L, h, hn => by rw [dfc_none h hn]; omega
  | n + 1, L, h, hn => by
    have : ∃ e, e < E ∧ Stands L (2 * e) := by
      unfold laidN at hn
      have hp : 0 < ((List.range E).filter fun e => decide (Stands L (2 * e))).length := by omega
      obtain ⟨e, he⟩ := List.exists_mem_of_length_pos hp
      have := List.mem_filter.1 he
      exact ⟨e, List.mem_range.1 this.1, of_decide_eq_true this.2⟩
    obtain ⟨e, he, hs⟩ := this
    have hle : liftErr E L (e : Int) = 0 := by
      unfold liftErr
      rw [if_neg (by omega), Int.toNat_natCast, if_pos hs]
    have h0 : Good E (liftL L e) := by
      have := h.lift (e : Int)
      unfold lift at this
      rwa [if_pos hle, Int.toNat_natCast] at this
    have hl := (lift_adds h hs h0).laid he
    have ih := dfc_pos n h0 (by omega)
    have := dfc_lift h hs h0
    omega
end
end Go.Proofs.YtdplphhlclhmfaaDoor
