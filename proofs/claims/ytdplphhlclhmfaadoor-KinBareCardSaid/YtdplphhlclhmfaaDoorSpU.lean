/- Plain: what is short of spheres; an edge that is lifted. -/
import Derived.Test.YtdplphhlclhmfaaDoorSpT
namespace Go.Proofs.YtdplphhlclhmfaaDoor
open Go Go.RowKit
set_option linter.unusedVariables false
set_option linter.unusedSimpArgs false

section
variable {E : Nat} {L : List (List Nat)}
theorem swp_self (f : Nat → Nat) (p : Nat) : swp f p p = f := by
  funext x
  unfold swp
  by_cases h : x = p
  · rw [if_pos h, h]
  · rw [if_neg h, if_neg h]
def ix (i k : Nat) : Nat := if k < i then k else k + 1
theorem rem_get {l : List Nat} (hn : l.Nodup) {i : Nat} (hi : i < l.length) (k : Nat) : (l.filter (· != l.getD i 0)).getD k 0 = l.getD (ix i k) 0 := by
  have e : l.getD i 0 = l[i] := by rw [List.getD_eq_getElem?_getD, List.getElem?_eq_getElem hi]; rfl
  rw [e, filter_at hn hi, List.getD_eq_getElem?_getD, List.getD_eq_getElem?_getD, List.getElem?_append]
  unfold ix
  have hm : min i l.length = i := by omega
  rw [List.length_take, hm]
  by_cases q : k < i
  · rw [if_pos q, if_pos q, List.getElem?_take_of_lt q]
  · rw [if_neg q, if_neg q, List.getElem?_drop, show i + 1 + (k - i) = k + 1 by omega]
theorem rem_len {l : List Nat} (hn : l.Nodup) {i : Nat} (hi : i < l.length) : (l.filter (· != l.getD i 0)).length = l.length - 1 := by
  have e : l.getD i 0 = l[i] := by rw [List.getD_eq_getElem?_getD, List.getElem?_eq_getElem hi]; rfl
  rw [e, filter_at hn hi, List.length_append, List.length_take, List.length_drop]
  omega
theorem rem_other {u : Nat} (h : WF E L) {v d : Nat} {l m : List Nat} (hv : L[v]? = some l) (hd : d ∈ l) (hu : L[u]? = some m) (e : u ≠ v) : (remL L d)[u]? = some m := by
  rw [remL_get, hu]
  have : d ∉ m := fun q => e (h.one hu hv q hd)
  show some (m.filter (· != d)) = some m
  rw [List.filter_eq_self.2]
  intro x hx
  rw [bne_iff_ne]
  rintro rfl
  exact this hx
theorem gnx_rem (h : WF E L) {d : Nat} (hd : Stands L d) : gnx (remL L d) = swp (gnx L) (prv L d) d := by
  obtain ⟨v, l, i, hv, hi, rfl⟩ := stands_ex hd
  have h' := remL_wf (d := l.getD i 0) h
  have hnd := h.nd hv
  have hv' : (remL L (l.getD i 0))[v]? = some (l.filter (· != l.getD i 0)) := by rw [remL_get, hv]; rfl
  have hlen := rem_len hnd hi
  have hpv : prv L (l.getD i 0) = l.getD (pc l.length i) 0 := (h.at_ hv hi).2.2.2
  have hpl := pc_lt hi
  rw [hpv]
  have inj : ∀ j, j < l.length → ∀ k, k < l.length → l.getD j 0 = l.getD k 0 → j = k := fun j hj k hk e => by
    have e1 := idx_at hnd hj
    have e2 := idx_at hnd hk
    rw [e] at e1
    omega
  funext x
  by_cases hx : x = l.getD i 0
  · subst hx
    rw [gnx_n (fun q => (remL_stands.1 q).1 rfl)]
    by_cases hp : l.getD (pc l.length i) 0 = l.getD i 0
    · rw [hp, swp_self]
      have e := inj _ hpl _ hi hp
      rw [gnx_at h hv hi]
      have : sc l.length i = i := by
        have := sc_pc hi
        rw [e] at this
        exact this
      rw [this]
    · rw [swp_q _ hp, gnx_at h hv hpl, sc_pc hi]
  · by_cases hs : Stands L x
    · obtain ⟨u, m, j, hu, hj, rfl⟩ := stands_ex hs
      by_cases e : u = v
      · subst e
        rw [hv] at hu
        cases hu
        have hji : j ≠ i := fun q => hx (by rw [q])
        have hk : (if j < i then j else j - 1) < (l.filter (· != l.getD i 0)).length := by rw [hlen]; split <;> omega
        have e1 := gnx_at h' hv' hk
        rw [rem_get hnd hi, rem_get hnd hi, hlen] at e1
        have e2 : ix i (if j < i then j else j - 1) = j := by
          unfold ix
          by_cases q : j < i
          · rw [if_pos q, if_pos q]
          · rw [if_neg q, if_neg (by omega)]
            omega
        rw [e2] at e1
        rw [e1]
        by_cases hjp : j = pc l.length i
        · rw [← hjp, swp_p, gnx_at h hv hi]
          congr 1
          rw [hjp]
          unfold ix sc pc
          split <;> split <;> split <;> (try split) <;> (try split) <;> omega
        · rw [swp_o _ (fun q => hjp (inj _ hj _ hpl q)) hx, gnx_at h hv hj]
          congr 1
          unfold pc at hjp
          unfold ix sc
          split at hjp <;> split <;> split <;> (try split) <;> (try split) <;> omega
      · have hne : l.getD (pc l.length i) 0 ≠ m.getD j 0 := fun q => e (h.one hu hv (getD_mem hj) (q ▸ getD_mem hpl))
        rw [swp_o _ (fun q => hne q.symm) hx, gnx_at h hu hj, gnx_at h' (rem_other h hv (getD_mem hi) hu e) hj]
    · have hne : x ≠ l.getD (pc l.length i) 0 := fun q => hs (q ▸ stands_at hv (getD_mem hpl))
      rw [swp_o _ hne hx, gnx_n hs, gnx_n fun q => hs (remL_stands.1 q).2]
theorem frot_rem (h : WF E L) {d : Nat} (hd : Stands L d) : frot (remL L d) = swp (frot L) (tw (prv L d)) (tw d) := by
  funext x
  unfold frot
  rw [gnx_rem h hd, frot_swp]
theorem emp_rem (h : WF E L) {d : Nat} (hd : Stands L d) : emp (remL L d) = emp L + if prv L d = d then 1 else 0 := by
  obtain ⟨v, l, i, hv, hi, rfl⟩ := stands_ex hd
  have hvl := (List.getElem?_eq_some_iff.1 hv).1
  have hnd := h.nd hv
  have hpv : prv L (l.getD i 0) = l.getD (pc l.length i) 0 := (h.at_ hv hi).2.2.2
  have hpl := pc_lt hi
  have hlen := rem_len hnd hi
  have hv' : (remL L (l.getD i 0)).getD v [] = l.filter (· != l.getD i 0) := getD_some (by rw [remL_get, hv]; rfl)
  have hiff : prv L (l.getD i 0) = l.getD i 0 ↔ l.length = 1 := by
    rw [hpv]
    constructor
    · intro e
      have e1 := idx_at hnd hpl
      have e2 := idx_at hnd hi
      rw [e] at e1
      have : pc l.length i = i := by omega
      unfold pc at this
      split at this <;> omega
    · intro e
      have : pc l.length i = i := by unfold pc; split <;> omega
      rw [this]
  unfold emp empN
  rw [remL_length]
  have hoth : ∀ u, u < L.length → u ≠ v → (remL L (l.getD i 0)).getD u [] = L.getD u [] := fun u hu e => by
    rw [getD_some (rem_other h hv (getD_mem hi) (some_getD hu) e)]
  have hvne : L.getD v [] ≠ [] := by
    rw [getD_some hv]
    rintro rfl
    simp at hi
  by_cases hp : prv L (l.getD i 0) = l.getD i 0
  · rw [if_pos hp]
    have h1 := hiff.1 hp
    refine cnt_less hvl (by rw [hv']; exact List.length_eq_zero_iff.1 (by omega)) fun u hu => ?_
    by_cases e : u = v
    · subst e
      exact ⟨fun q => absurd q hvne, fun q => absurd rfl q.2⟩
    · rw [hoth u hu e]
      exact ⟨fun q => ⟨q, e⟩, fun q => q.1⟩
  · rw [if_neg hp, Nat.add_zero]
    have h1 : l.length ≠ 1 := fun q => hp (hiff.2 q)
    refine cnt_congr fun u hu => ?_
    by_cases e : u = v
    · subst e
      refine ⟨fun q => ?_, fun q => absurd q hvne⟩
      rw [hv'] at q
      have := congrArg List.length q
      rw [hlen] at this
      simp only [List.length_nil] at this
      omega
    · rw [hoth u hu e]
noncomputable def allC (L : List (List Nat)) (E : Nat) : Nat := cls (Conn (frot L)) (List.range (2 * E)).reverse + emp L
theorem far (h : Good E L) {m z : Nat} (hm : Stands L m) (hz : ¬ Stands L z) : ¬ Conn (frot L) (tw m) z := fun c => hz (orb_stands h (h.twin _ hm) ((conn_orb h (h.twin _ hm)).1 c))
/-- An edge lifted: the faces. -/
theorem lift_cls (h : Good E L) {e : Nat} (hs : Stands L (2 * e)) (h0 : Good E (liftL L e)) :
    allC L E = allC (liftL L e) E ∧ ((grp (liftL L e) E).getD (vtx L (2 * e)) 0 = (grp (liftL L e) E).getD (vtx L (2 * e + 1)) 0) ∨ allC L E + 2 = allC (liftL L e) E := by
  have hs1 : Stands L (2 * e + 1) := (h.pair e).2 hs
  have hx := h.toWF.bdS hs
  have hy := h.toWF.bdS hs1
  have hmem : ∀ x, x < 2 * E → x ∈ (List.range (2 * E)).reverse := fun x hx => List.mem_reverse.2 (List.mem_range.2 hx)
  have hW1 := remL_wf (d := 2 * e) h.toWF
  have hd1 : Stands (remL L (2 * e)) (2 * e + 1) := remL_stands.2 ⟨by omega, hs1⟩
  have hL0 : liftL L e = remL (remL L (2 * e)) (2 * e + 1) := rfl
  have hn0 : ¬ Stands (liftL L e) (2 * e) := fun q => by have := lift_stands.1 q; omega
  have hn1 : ¬ Stands (liftL L e) (2 * e + 1) := fun q => by have := lift_stands.1 q; omega
  have f1 := frot_rem h.toWF hs
  have f0 := frot_rem hW1 hd1
  have m1 := emp_rem h.toWF hs
  have m0 := emp_rem hW1 hd1
  rw [← hL0] at f0 m0
  rw [tw_even] at f1
  rw [tw_odd] at f0
  have hT := h.toWF.frot
  have hT1 := hW1.frot
  have hT0 := h0.toWF.frot
  have hp1 := h.toWF.prv_stands hs
  have hp0 := hW1.prv_stands hd1
  -- what is behind the first step
  have hxy0 : Conn (frot (liftL L e)) (2 * e) (2 * e + 1) := by
    have := Conn.one (frot (liftL L e)) (2 * e)
    rwa [frot, tw_even, gnx_n hn1] at this
  have hU1 : allC (remL L (2 * e)) E + 1 = allC (liftL L e) E ∧ ((∀ a b, Conn (frot (remL L (2 * e))) a b ↔ Conn (frot (liftL L e)) a b) ∨ (prv (remL L (2 * e)) (2 * e + 1) ≠ 2 * e + 1 ∧ ∀ a b, Conn (frot (remL L (2 * e))) a b ↔ Mrg (Conn (frot (liftL L e))) (tw (prv (remL L (2 * e)) (2 * e + 1))) (2 * e) a b)) := by
    unfold allC
    by_cases hp : prv (remL L (2 * e)) (2 * e + 1) = 2 * e + 1
    · rw [hp, tw_odd, swp_self] at f0
      rw [if_pos hp] at m0
      rw [f0, m0]
      exact ⟨by omega, Or.inl fun a b => Iff.rfl⟩
    · rw [if_neg hp, Nat.add_zero] at m0
      have hps : Stands (liftL L e) (prv (remL L (2 * e)) (2 * e + 1)) := remL_stands.2 ⟨hp, hp0⟩
      have hne : tw (prv (remL L (2 * e)) (2 * e + 1)) ≠ 2 * e := fun q => by
        rw [tw_flip, tw_even] at q
        exact hp q
      have hfar := far h0 hps hn0
      have f2 : frot (remL L (2 * e)) = swp (frot (liftL L e)) (tw (prv (remL L (2 * e)) (2 * e + 1))) (2 * e) := by rw [f0, swp_swp _ hne]
      have hk := hT0.cls_joins hx hne hfar (hmem _ (tw_lt (h0.toWF.bdS hps))) (hmem _ hx)
      rw [← f2] at hk
      have hj := hT0.joins hx hfar
      rw [m0]
      refine ⟨by omega, Or.inr ⟨hp, fun a b => ?_⟩⟩
      rw [f2]
      exact mrg_of hne hj
  by_cases hp : prv L (2 * e) = 2 * e
  · rw [hp, tw_even, swp_self] at f1
    rw [if_pos hp] at m1
    refine Or.inr ?_
    have := hU1.1
    unfold allC at this ⊢
    rw [← f1]
    omega
  · rw [if_neg hp, Nat.add_zero] at m1
    have hne : tw (prv L (2 * e)) ≠ 2 * e + 1 := fun q => by
      rw [tw_flip, tw_odd] at q
      exact hp q
    have f2 : frot L = swp (frot (remL L (2 * e))) (tw (prv L (2 * e))) (2 * e + 1) := by rw [f1, swp_swp _ hne]
    have hpl : tw (prv L (2 * e)) < 2 * E := tw_lt (h.toWF.bdS hp1)
    by_cases hc : Conn (frot (remL L (2 * e))) (tw (prv L (2 * e))) (2 * e + 1)
    · have hk := hT1.cls_parts hpl hy hne hc (hmem _ hpl) (hmem _ hy)
      rw [← f2] at hk
      refine Or.inl ⟨?_, ?_⟩
      · have := hU1.1
        unfold allC at this ⊢
        omega
      · have hv : vtx L (prv L (2 * e)) = vtx L (2 * e) := by
          have := h.toWF.vtx_nxt hp1
          rw [h.toWF.nxt_prv hs] at this
          exact this.symm
        by_cases hpd : prv L (2 * e) = 2 * e + 1
        · rw [hpd] at hv
          rw [hv]
        · have hps : Stands (liftL L e) (prv L (2 * e)) := by
            refine lift_stands.2 ⟨?_, hp1⟩
            rw [ne_eq, div_eq]
            exact fun q => q.elim hp hpd
          have hfar := far h0 hps hn1
          have hvr : ∀ x, Stands (liftL L e) x → vtx (liftL L e) x = vtx L x := fun x hx => by
            obtain ⟨u, l, hu, hl, ev⟩ := vtx_S h.toWF (lift_stands.1 hx).2
            rw [ev]
            refine h0.toWF.vtx (l := (l.filter (· != 2 * e)).filter (· != 2 * e + 1)) ?_ ?_
            · rw [hL0, remL_get, remL_get, hu]; rfl
            · have := (lift_stands.1 hx).1
              rw [List.mem_filter, List.mem_filter, bne_iff_ne, bne_iff_ne]
              exact ⟨⟨hl, by omega⟩, by omega⟩
          rcases hU1.2 with q | ⟨hpp, q⟩
          · exact absurd ((q _ _).1 hc) hfar
          · have hps0 : Stands (liftL L e) (prv (remL L (2 * e)) (2 * e + 1)) := remL_stands.2 ⟨hpp, hp0⟩
            have hcc : Conn (frot (liftL L e)) (tw (prv L (2 * e))) (tw (prv (remL L (2 * e)) (2 * e + 1))) := by
              rcases (q _ _).1 hc with k | ⟨k | k, _⟩
              · exact absurd k hfar
              · exact k
              · exact absurd k (far h0 hps hn0)
            have ho := (conn_orb h0 (h0.twin _ hps)).1 hcc
            have hh := hang_orb h0 (h0.twin _ hps) ho
            have h2 := ((hang_tw h0 hps).trans hh).trans (hang_tw h0 hps0).symm
            have hlen : (liftL L e).length = L.length := by rw [hL0, remL_length, remL_length]
            have hv0 : vtx (remL L (2 * e)) (prv (remL L (2 * e)) (2 * e + 1)) = vtx (remL L (2 * e)) (2 * e + 1) := by
              have := hW1.vtx_nxt hp0
              rw [hW1.nxt_prv hd1] at this
              exact this.symm
            have hvr1 : ∀ x, Stands (remL L (2 * e)) x → vtx (remL L (2 * e)) x = vtx L x := fun x hx => by
              obtain ⟨u, l, hu, hl, ev⟩ := vtx_S h.toWF (remL_stands.1 hx).2
              rw [ev]
              refine hW1.vtx (l := l.filter (· != 2 * e)) ?_ ?_
              · rw [remL_get, hu]; rfl
              · rw [List.mem_filter, bne_iff_ne]
                exact ⟨hl, (remL_stands.1 hx).1⟩
            rw [hvr _ hps, hvr _ hps0, hv, ← hvr1 _ hp0, hv0, hvr1 _ hd1] at h2
            exact (grp_iff h0 (by rw [hlen]; exact h.toWF.vtx_lt hs) (by rw [hlen]; exact h.toWF.vtx_lt hs1)).2 h2
    · have hk := hT1.cls_joins hy hne hc (hmem _ hpl) (hmem _ hy)
      rw [← f2] at hk
      refine Or.inr ?_
      have := hU1.1
      unfold allC at this ⊢
      omega
end
end Go.Proofs.YtdplphhlclhmfaaDoor
