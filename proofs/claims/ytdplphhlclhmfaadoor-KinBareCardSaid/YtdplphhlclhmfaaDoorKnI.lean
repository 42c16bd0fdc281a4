/- Plain: what is no bridge taken away: the groups stay, all that is left are bridges. -/
import Derived.Test.YtdplphhlclhmfaaDoorSpV
import Derived.Test.YtdplphhlclhmfaaDoorKiJ
namespace Go.Proofs.YtdplphhlclhmfaaDoor
open Go Go.RowKit
set_option linter.unusedVariables false
set_option linter.unusedSimpArgs false
set_option maxRecDepth 100000

/-- All edges are bridges. -/
def AllBr (L : List (List Nat)) : Prop := ∀ e, Stands L (2 * e) → Bridge L e
section
variable {E : Nat} {L L0 : List (List Nat)}
theorem lift_vtx (h : Good E L) {e x : Nat} (hx : Stands (liftL L e) x) : vtx (liftL L e) x = vtx L x := by
  by_cases hs : Stands L (2 * e)
  · exact ((lift_adds h hs (h.without e)).vo x hx).symm
  · obtain ⟨u, l, hu, hl, ev⟩ := vtx_S h.toWF (lift_stands.1 hx).2
    rw [ev]
    have hL0 : liftL L e = remL (remL L (2 * e)) (2 * e + 1) := rfl
    refine (h.without e).toWF.vtx (l := (l.filter (· != 2 * e)).filter (· != 2 * e + 1)) ?_ ?_
    · rw [hL0, remL_get, remL_get, hu]; rfl
    · have := (lift_stands.1 hx).1
      rw [List.mem_filter, List.mem_filter, bne_iff_ne, bne_iff_ne]
      exact ⟨⟨hl, by omega⟩, by omega⟩
/-- Less hangs together with less edges. -/
theorem Hang.less (h : Good E L) {e u v : Nat} (k : Hang (liftL L e) u v) : Hang L u v := by
  induction k with
  | refl => exact .refl _
  | edge x hs _ ih =>
    rw [lift_vtx h hs] at ih
    rw [lift_vtx h (((h.without e).pair x).2 hs)]
    exact .edge x (lift_stands.1 hs).2 ih
  | back x hs _ ih =>
    rw [lift_vtx h (((h.without e).pair x).2 hs)] at ih
    rw [lift_vtx h hs]
    exact .back x (lift_stands.1 hs).2 ih
/-- No bridge: what hangs together stays so. -/
theorem hang_keeps (h : Good E L) {e : Nat} (hs : Stands L (2 * e)) (hb : ¬ Bridge L e) {u v : Nat} : Hang (liftL L e) u v ↔ Hang L u v := by
  have hab : Hang (liftL L e) (vtx L (2 * e)) (vtx L (2 * e + 1)) := by
    by_cases q : Hang (liftL L e) (vtx L (2 * e)) (vtx L (2 * e + 1))
    · exact q
    · exact absurd ⟨hs, q⟩ hb
  refine ⟨fun k => k.less h, fun k => ?_⟩
  induction k with
  | refl => exact .refl _
  | edge x hx _ ih =>
    by_cases q : x = e
    · subst q; exact ih.trans hab
    · have hx' : Stands (liftL L e) (2 * x) := lift_stands.2 ⟨by omega, hx⟩
      rw [← lift_vtx h hx'] at ih
      rw [← lift_vtx h (((h.without e).pair x).2 hx')]
      exact .edge x hx' ih
  | back x hx _ ih =>
    by_cases q : x = e
    · subst q; exact ih.trans hab.symm
    · have hx' : Stands (liftL L e) (2 * x) := lift_stands.2 ⟨by omega, hx⟩
      rw [← lift_vtx h (((h.without e).pair x).2 hx')] at ih
      rw [← lift_vtx h hx']
      exact .back x hx' ih
theorem lift_comm (L : List (List Nat)) (d e : Nat) : liftL (liftL L d) e = liftL (liftL L e) d := by
  have hr : ∀ (M : List (List Nat)) (a b : Nat), remL (remL M a) b = remL (remL M b) a := fun M a b => by
    unfold remL
    rw [List.map_map, List.map_map]
    congr 1
    funext l
    simp only [Function.comp, List.filter_filter]
    congr 1
    funext x
    exact Bool.and_comm _ _
  have hd : ∀ (M : List (List Nat)) (e : Nat), liftL M e = remL (remL M (2 * e)) (2 * e + 1) := fun _ _ => rfl
  simp only [hd]
  rw [hr (remL (remL L (2 * d)) (2 * d + 1)) (2 * e) (2 * e + 1)]
  rw [hr (remL L (2 * d)) (2 * d + 1) (2 * e + 1), hr L (2 * d) (2 * e + 1)]
  rw [hr (remL (remL L (2 * e + 1)) (2 * d)) (2 * d + 1) (2 * e), hr (remL L (2 * e + 1)) (2 * d) (2 * e)]
  rw [hr L (2 * e + 1) (2 * e)]
/-- A bridge stays one. -/
theorem bridge_keeps (h : Good E L) {e x : Nat} (hx : Stands (liftL L e) (2 * x)) (hb : Bridge L x) : Bridge (liftL L e) x := by
  refine ⟨hx, fun k => hb.2 ?_⟩
  rw [lift_vtx h hx, lift_vtx h (((h.without e).pair x).2 hx), lift_comm] at k
  exact k.less (h.without x)
/-- Those below n gone over. -/
structure BareI (E : Nat) (L0 L : List (List Nat)) (n : Nat) : Prop where
  good : Good E L
  len : L.length = L0.length
  hang : ∀ u v, Hang L u v ↔ Hang L0 u v
  br : ∀ e, e < n → Stands L (2 * e) → Bridge L e
theorem BareI.start (h : Good E L0) : BareI E L0 L0 0 := ⟨h, rfl, fun _ _ => Iff.rfl, fun e he => absurd he (Nat.not_lt_zero _)⟩
theorem BareI.stay {n : Nat} (h : BareI E L0 L n) (hk : Stands L (2 * n) → Bridge L n) : BareI E L0 L (n + 1) :=
  ⟨h.good, h.len, h.hang, fun e he hs => by
    by_cases q : e = n
    · subst q; exact hk hs
    · exact h.br e (by omega) hs⟩
theorem BareI.gone {n : Nat} (h : BareI E L0 L n) (hs : Stands L (2 * n)) (hb : ¬ Bridge L n) : BareI E L0 (liftL L n) (n + 1) :=
  ⟨h.good.without n, by rw [liftL_length]; exact h.len, fun u v => (hang_keeps h.good hs hb).trans (h.hang u v), fun e he hs' => by
    have h1 := lift_stands.1 hs'
    exact bridge_keeps h.good hs' (h.br e (by omega) h1.2)⟩
theorem BareI.all (h : BareI E L0 L E) : AllBr L := fun e hs => h.br e (by have := h.good.toWF.bdS hs; omega) hs
theorem BareI.grp {n : Nat} (h : BareI E L0 L n) (h0 : Good E L0) : grp L E = grp L0 E := by
  refine gok_ext (n := L0.length) (by rw [← h.len]; exact grp_ok h.good) (grp_ok h0) fun u v hu hv => ?_
  rw [grp_iff h.good (by rw [h.len]; exact hu) (by rw [h.len]; exact hv), grp_iff h0 hu hv]
  exact h.hang u v
/-- Where all are bridges there are as many as vertices less components. -/
theorem forest_count : ∀ (n : Nat) {L : List (List Nat)}, Good E L → AllBr L → laidN L E = n → n + many (grp L E) = L.length
  | 0, L, h, _, hn => by
    have h1 := none_stands h hn
    have hg : ∀ n, grpN L n = aloneG L.length := by
      intro n
      induction n with
      | zero => rfl
      | succ n ih => rw [grpN, if_neg (h1 _), ih]
    unfold Proofs.YtdplphhlclhmfaaDoor.grp
    rw [hg E, many_alone, Nat.zero_add]
  | n + 1, L, h, hb, hn => by
    have : ∃ e, e < E ∧ Stands L (2 * e) := by
      unfold laidN at hn
      have hp : 0 < ((List.range E).filter fun e => decide (Stands L (2 * e))).length := by omega
      obtain ⟨e, he⟩ := List.exists_mem_of_length_pos hp
      have := List.mem_filter.1 he
      exact ⟨e, List.mem_range.1 this.1, of_decide_eq_true this.2⟩
    obtain ⟨e, he, hs⟩ := this
    have h0 := h.without e
    have ha := lift_adds h hs h0
    have hl := ha.laid he
    have hb' : AllBr (liftL L e) := fun x hx => bridge_keeps h hx (hb x (lift_stands.1 hx).2)
    have ih := forest_count n h0 hb' (by omega)
    have hgj := ha.grp h0 h
    have hva : vtx L (2 * e) < (liftL L e).length := ha.pl
    have hvb : vtx L (2 * e + 1) < (liftL L e).length := ha.ql
    have hm := many_join (grp_ok h0) hva hvb
    rw [← hgj] at hm
    have hne : (Proofs.YtdplphhlclhmfaaDoor.grp (liftL L e) E).getD (vtx L (2 * e)) 0 ≠ (Proofs.YtdplphhlclhmfaaDoor.grp (liftL L e) E).getD (vtx L (2 * e + 1)) 0 := fun q => (hb e hs).2 ((grp_iff h0 hva hvb).1 q)
    rw [if_neg hne] at hm
    rw [liftL_length] at ih
    omega
/-- .. and all that is laid is told. -/
theorem brl_all (h : Good E L) (hb : AllBr L) : brl L E = (List.range E).filter fun e => decide (Stands L (2 * e)) := by
  unfold brl
  refine List.filter_congr fun e _ => ?_
  by_cases hs : Stands L (2 * e)
  · rw [decide_eq_true hs]; exact (isBr_iff h e).2 (hb e hs)
  · rw [decide_eq_false hs]
    unfold isBr
    rw [decide_eq_false hs, Bool.false_and]
end
end Go.Proofs.YtdplphhlclhmfaaDoor
