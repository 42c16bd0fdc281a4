/- Plain: the depth-first walk goes back; its end. -/
import Derived.Test.YtdplphhlclhmfaaDoorKiA
namespace Go.Proofs.YtdplphhlclhmfaaDoor
open Go Go.RowKit
set_option linter.unusedVariables false
set_option linter.unusedSimpArgs false

section
variable {L : List (List Nat)} {E : Nat} {num low : Nat → Nat} {met rt : Nat} {br : List Nat} {par : Nat → Int} {tr : Nat → Nat}
theorem Chain.tail {p : Pl} : ∀ {r : List Pl}, r ≠ [] → Chain L num rt (p :: r) → Chain L num rt r
  | [], h, _ => absurd rfl h
  | _ :: _, _, h => h.2.2
/-- Is an edge a bridge? Told at the time when its lower end is left. -/
theorem DInv.tells {v : Nat} {bd : Int} {q : Pl} {r : List Pl} {f : Nat} (h : DInv L num low met br (⟨v, bd, []⟩ :: q :: r) par tr rt) (hg : Good E L) (hf : bd = (f : Int)) :
    (num q.v < low v ↔ ¬ HangD L (fun d => d / 2 ≠ f / 2) (vtx L f) v) := by
  obtain ⟨n1, n2, n3, _⟩ := h.on _ (List.mem_cons_self ..)
  simp only at n1 n2 n3
  obtain ⟨⟨f', c1, c2, c3, c4⟩, c5, c6⟩ := h.chain
  simp only at c1 c3 c4 c5
  have : f' = f := by omega
  subst this
  have hq := h.on q (List.mem_cons_of_mem _ (List.mem_cons_self ..))
  have hbel : ∀ s ∈ (q :: r : List Pl), num s.v ≤ num q.v := fun s hs => by
    rcases List.mem_cons.1 hs with e | hs
    · rw [e]; exact Nat.le_refl _
    · exact Nat.le_of_lt (Chain.top c6 s hs)
  constructor
  · -- nothing leads out
    intro hlow k
    have closed : ∀ d, Stands L d → d / 2 ≠ f' / 2 → num v ≤ num (vtx L d) → num v ≤ num (De L d) := by
      intro d hs hd hx
      apply Nat.le_of_not_lt
      intro hlt
      have hx0 : num (vtx L d) ≠ 0 := by omega
      -- all darts of it have been gone over
      have hno : vtx L d ≠ v → ¬ On (⟨v, bd, []⟩ :: q :: r) (vtx L d) := fun hne ⟨s, hs', e⟩ => by
        rcases List.mem_cons.1 hs' with e2 | hs'
        · rw [e2] at e; exact hne e.symm
        · have := hbel s hs'
          rw [e] at this
          omega
      have hy0 : num (De L d) ≠ 0 ∧ rt ≤ num (De L d) := by
        by_cases e : vtx L d = v
        · exact h.pro _ (List.mem_cons_self ..) d hs e (by simp)
        · have h1 := (h.fin _ hx0 (hno e) d hs rfl).1
          have h2 := (h.fin _ hx0 (hno e) d hs rfl).2
          refine ⟨h1, ?_⟩
          rw [(h.cur _ hx0).1 (by omega)] at h2
          exact (h.cur _ h1).2 h2
      by_cases hyo : On (⟨v, bd, []⟩ :: q :: r) (De L d)
      · obtain ⟨s, hs', e⟩ := hyo
        have hsq : num (De L d) ≤ num q.v := by
          rcases List.mem_cons.1 hs' with e2 | hs'
          · rw [e2] at e
            simp only at e
            rw [← e] at hlt
            omega
          · rw [← e]; exact hbel s hs'
        have hpar : ∀ e : Nat, par (vtx L d) = e → d ≠ tw e := by
          intro e he hde
          by_cases ev : vtx L d = v
          · rw [ev, ← n3, c1] at he
            have : f' = e := by omega
            subst this
            exact hd (by rw [hde, tw_half])
          · have hgt : num v < num (vtx L d) := by
              refine Nat.lt_of_le_of_ne hx fun k => ev ?_
              exact (h.inj v _ n1 k).symm
            obtain ⟨g, k1, k2⟩ := h.D _ (List.mem_cons_self ..) _ hgt
            have : g = e := by omega
            subst this
            simp only at k2
            have : De L d = vtx L g := by rw [hde, De_tw]
            rw [this] at hlt
            omega
        have := h.L1 _ (List.mem_cons_self ..) (vtx L d) hx (fun s hs' hlt2 => by
          rcases List.mem_cons.1 hs' with e2 | hs'
          · rw [e2] at hlt2; exact absurd hlt2 (Nat.lt_irrefl _)
          · have := hbel s hs'; simp only at hlt2; omega) d hs rfl (fun _ => by simp) hpar
        simp only at this
        omega
      · have := h.I _ (List.mem_cons_self ..) (De L d) hy0.1 hyo hlt (tw d) (hg.twin _ hs) rfl
        rw [De_tw] at this
        simp only at this
        omega
    have all : ∀ x, HangD L (fun d => d / 2 ≠ f' / 2) v x → num v ≤ num x := by
      intro x k
      induction k with
      | refl => exact Nat.le_refl _
      | step d hs hd _ ih => exact closed d hs hd ih
    have k2 := k.symm hg (fun d hd => by rw [tw_half]; exact hd)
    have := all _ k2
    rw [c3] at this
    omega
  · intro hno
    apply Nat.lt_of_not_le
    intro hle
    apply hno
    rcases h.L2 _ (List.mem_cons_self ..) with k | ⟨d, k1, k2, k3, k4, k5, k6, k7⟩
    · simp only at k; omega
    · simp only at k1 k2 k4 k5
      have hd4 := k4 f' c1
      -- down to x, along d, and back to the upper end
      have h1 : HangD L (fun d => d / 2 ≠ f' / 2) v (vtx L d) := k1.mono fun d' hs' ⟨g1, g2⟩ e => by
        rcases half_two e with e | e
        · rw [e, c3] at g1; omega
        · rw [e, De_tw, c3] at g2; omega
      have h2 : HangD L (fun d => d / 2 ≠ f' / 2) v (De L d) := .step d k3 hd4 h1
      have h3 := h.T _ (List.mem_cons_self ..) f' c1 (De L d) q.v k6 k7 (by simp only; omega) hq.1 hq.2.1 c5
      rw [c3]
      exact (h2.trans h3).symm hg (fun d hd => by rw [tw_half]; exact hd)
theorem DInv.leave {v : Nat} {bd : Int} {q : Pl} {r : List Pl} {f : Nat} (h : DInv L num low met br (⟨v, bd, []⟩ :: q :: r) par tr rt) (hg : Good E L) (hf : bd = (f : Int)) :
    DInv L num (upd low q.v (min (low q.v) (low v))) met (if num q.v < low v then br ++ [f / 2] else br) (q :: r) par tr rt := by
  have htell := h.tells hg hf
  obtain ⟨n1, n2, n3, _⟩ := h.on _ (List.mem_cons_self ..)
  simp only at n1 n2 n3
  obtain ⟨⟨f', c1, c2, c3, c4⟩, c5, c6⟩ := h.chain
  simp only at c1 c3 c4 c5
  have : f' = f := by omega
  subst this
  have hq := h.on q (List.mem_cons_of_mem _ (List.mem_cons_self ..))
  have hbel : ∀ s ∈ (q :: r : List Pl), num s.v ≤ num q.v := fun s hs => by
    rcases List.mem_cons.1 hs with e | hs
    · rw [e]; exact Nat.le_refl _
    · exact Nat.le_of_lt (Chain.top c6 s hs)
  have hon : ∀ x, On (⟨v, bd, []⟩ :: q :: r) x ↔ x = v ∨ On (q :: r) x := fun x => by
    unfold On
    simp only [List.mem_cons, exists_eq_or_imp]
    constructor
    · rintro (k | k)
      · exact Or.inl k.symm
      · exact Or.inr k
    · rintro (k | k)
      · exact Or.inl k.symm
      · exact Or.inr k
  have hvo : ¬ On (q :: r) v := fun ⟨s, hs, e⟩ => by have := hbel s hs; rw [e] at this; omega
  have hpv : par v = (f' : Int) := by rw [← n3, c1]
  have hqr : ∀ s ∈ r, s.v ≠ q.v := fun s hs e => by have := Chain.top c6 s hs; rw [e] at this; omega
  have up : ∀ s ∈ (q :: r : List Pl), s ∈ (⟨v, bd, []⟩ :: q :: r : List Pl) := fun s hs => List.mem_cons_of_mem _ hs
  have hbr : ∀ e, e ∈ (if num q.v < low v then br ++ [f' / 2] else br) ↔ e ∈ br ∨ num q.v < low v ∧ e = f' / 2 := fun e => by
    split
    · rename_i k
      rw [List.mem_append, List.mem_singleton]
      exact ⟨fun z => z.imp id fun z => ⟨k, z⟩, fun z => z.imp id fun z => z.2⟩
    · rename_i k
      exact ⟨Or.inl, fun z => z.elim id fun z => absurd z.1 k⟩
  have hnew : ∀ x, num x ≠ 0 → ¬ On (q :: r) x → x = v ∨ x ≠ v ∧ ¬ On (⟨v, bd, []⟩ :: q :: r) x := fun x hx ho => by
    by_cases e : x = v
    · exact Or.inl e
    · exact Or.inr ⟨e, fun k => ((hon x).1 k).elim e ho⟩
  have hnf : f' / 2 ∉ br := fun k => by
    obtain ⟨x, h1, h2, e, h3, h4⟩ := h.Bs _ k
    have := h.parInj n1 h1 hpv h3 h4
    exact h2 ((hon x).2 (Or.inl this.symm))
  refine ⟨h.lt, h.le, h.inj, fun p hp => h.on p (up p hp), Chain.tail (by simp) h.chain, h.cur, h.trle, h.parD, ?_, fun p hp => h.pro p (up p hp), fun _ _ _ => trivial, ?_, fun p hp => h.D p (up p hp), ?_, ?_, ?_, fun p hp => h.T p (up p hp), h.T0, ?_, ?_, ?_⟩
  · -- fin
    intro x hx ho d hs hv
    rcases hnew x hx ho with e | ⟨e, ho2⟩
    · have := h.pro _ (List.mem_cons_self ..) d hs (by simp only; rw [hv, e]) (by simp)
      refine ⟨this.1, ?_⟩
      rw [(h.cur _ this.1).1 this.2, e, (h.cur v n1).1 n2]
    · exact h.fin x hx ho2 d hs hv
  · -- I
    intro p hp x hx ho hlt
    rcases hnew x hx ho with e | ⟨e, ho2⟩
    · have := hbel p hp
      rw [e] at hlt
      omega
    · exact h.I p (up p hp) x hx ho2 hlt
  · -- L0
    intro p hp
    rcases List.mem_cons.1 hp with e | hp'
    · rw [e, upd_same]
      have := h.L0 q (up q (List.mem_cons_self ..))
      omega
    · rw [upd_other _ _ (hqr p hp')]
      exact h.L0 p (up p hp)
  · -- L1
    intro p hp x hx hq1 d hs hv hl hpar
    rcases List.mem_cons.1 hp with e | hp'
    · rw [e] at hx hq1 hl ⊢
      rw [upd_same]
      by_cases hxv : num v ≤ num x
      · have := h.L1 _ (List.mem_cons_self ..) x hxv (fun s hs' hlt2 => by
          rcases List.mem_cons.1 hs' with e2 | hs'
          · rw [e2] at hlt2; exact absurd hlt2 (Nat.lt_irrefl _)
          · have := hbel s hs'; simp only at hlt2; omega) d hs hv (fun _ => by simp) hpar
        simp only at this
        omega
      · have := h.L1 q (up q (List.mem_cons_self ..)) x hx (fun s hs' hlt2 => by
          rcases List.mem_cons.1 hs' with e2 | hs'
          · rw [e2]; simp only; omega
          · exact hq1 s hs' hlt2) d hs hv hl hpar
        omega
    · rw [upd_other _ _ (hqr p hp')]
      refine h.L1 p (up p hp) x hx (fun s hs' hlt2 => ?_) d hs hv hl hpar
      rcases List.mem_cons.1 hs' with e2 | hs'
      · have h1 := hq1 q (List.mem_cons_self ..) (Chain.top c6 p hp')
        rw [e2]
        simp only
        omega
      · exact hq1 s hs' hlt2
  · -- L2
    intro p hp
    rcases List.mem_cons.1 hp with e | hp'
    · rw [e, upd_same]
      by_cases hlv : low q.v ≤ low v
      · rw [Nat.min_eq_left hlv]
        exact h.L2 q (up q (List.mem_cons_self ..))
      · rw [Nat.min_eq_right (by omega)]
        have hq0 := h.L0 q (up q (List.mem_cons_self ..))
        rcases h.L2 _ (List.mem_cons_self ..) with k | ⟨d, k1, k2, k3, k4, k5, k6, k7⟩
        · simp only at k; omega
        · simp only at k1 k2 k5
          refine Or.inr ⟨d, ?_, by omega, k3, fun e2 he2 k => ?_, k5, k6, k7⟩
          · have g1 : HangD L (fun d => num q.v ≤ num (vtx L d) ∧ num q.v ≤ num (De L d)) q.v v := by
              have := HangD.step (L := L) (R := fun d => num q.v ≤ num (vtx L d) ∧ num q.v ≤ num (De L d)) (u := q.v) f' c2 ⟨by rw [c3]; exact Nat.le_refl _, by rw [c4]; omega⟩ (by rw [c3]; exact .refl _)
              rwa [c4] at this
            exact g1.trans (k1.mono fun d' _ ⟨j1, j2⟩ => ⟨by omega, by omega⟩)
          · -- the upper edge's ends lie above
            cases r with
            | nil =>
              have := c6.1
              omega
            | cons s r =>
              obtain ⟨⟨g, j1, j2, j3, j4⟩, j5, _⟩ := c6
              have : g = e2 := by omega
              subst this
              rcases half_two k with k | k
              · rw [k, j3] at k2; omega
              · have : vtx L d = q.v := by rw [k]; exact j4
                rw [this] at k2; omega
    · rw [upd_other _ _ (hqr p hp')]
      exact h.L2 p (up p hp)
  · -- B
    intro x hx ho e he
    rw [hbr]
    rcases hnew x hx ho with ex | ⟨ex, ho2⟩
    · rw [ex] at he ⊢
      have : f' = e := by omega
      subst this
      rw [← htell]
      exact ⟨fun k => k.elim (fun z => absurd z hnf) fun z => z.1, fun k => Or.inr ⟨k, rfl⟩⟩
    · rw [← h.B x hx ho2 e he]
      refine ⟨fun k => k.elim id fun z => ?_, Or.inl⟩
      exact absurd (h.parInj hx n1 he hpv z.2) ex
  · -- Bs
    intro e he
    rcases (hbr e).1 he with k | ⟨_, k⟩
    · obtain ⟨x, h1, h2, h3⟩ := h.Bs e k
      exact ⟨x, h1, fun z => h2 ((hon x).2 (Or.inr z)), h3⟩
    · exact ⟨v, n1, hvo, f', hpv, k⟩
  · split
    · rw [List.nodup_append]
      refine ⟨h.Bn, by simp, fun a ha b hb e => ?_⟩
      rw [List.mem_singleton.1 hb] at e
      exact hnf (e ▸ ha)
    · exact h.Bn
/-- The root is left. -/
theorem DInv.done {v : Nat} {bd : Int} (h : DInv L num low met br [⟨v, bd, []⟩] par tr rt) : DInv L num low met br [] par tr rt := by
  obtain ⟨n1, n2, n3, _⟩ := h.on _ (List.mem_cons_self ..)
  simp only at n1 n2 n3
  have hon : ∀ x, ¬ On [] x := fun x ⟨s, hs, _⟩ => by cases hs
  have hpv : par v = -1 := by rw [← n3]; exact h.chain.1
  have hnew : ∀ x, x = v ∨ ¬ On [⟨v, bd, []⟩] x := fun x => by
    by_cases e : x = v
    · exact Or.inl e
    · refine Or.inr fun ⟨s, hs, k⟩ => e ?_
      rw [List.mem_singleton.1 hs] at k
      exact k.symm
  refine ⟨h.lt, h.le, h.inj, fun p hp => by (cases hp), trivial, h.cur, h.trle, h.parD, ?_, fun p hp => by (cases hp), fun _ _ _ => trivial, fun p hp => by (cases hp), fun p hp => by (cases hp), fun p hp => by (cases hp), fun p hp => by (cases hp), fun p hp => by (cases hp), fun p hp => by (cases hp), h.T0, ?_, ?_, h.Bn⟩
  · intro x hx _ d hs hv
    rcases hnew x with e | ho
    · have := h.pro _ (List.mem_cons_self ..) d hs (by simp only; rw [hv, e]) (by simp)
      refine ⟨this.1, ?_⟩
      rw [(h.cur _ this.1).1 this.2, e, (h.cur v n1).1 n2]
    · exact h.fin x hx ho d hs hv
  · intro x hx _ e he
    rcases hnew x with ex | ho
    · rw [ex, hpv] at he
      omega
    · exact h.B x hx ho e he
  · intro f hf
    obtain ⟨x, h1, h2, h3⟩ := h.Bs f hf
    exact ⟨x, h1, hon x, h3⟩
/-- A tree begun. -/
theorem DInv.begin (h : DInv L num low met br [] par tr rt) {v : Nat} (hv : v < L.length) (hn : num v = 0) {al : List Nat} (hal : ∀ d', d' ∈ al ↔ Stands L d' ∧ vtx L d' = v) :
    DInv L (upd num v (met + 1)) (upd low v (met + 1)) (met + 1) br [⟨v, -1, al⟩] (fun z => if z = v then -1 else par z) (upd tr v (met + 1)) (met + 1) := by
  have num_v : upd num v (met + 1) v = met + 1 := upd_same _ _ _
  have num_o : ∀ x, x ≠ v → upd num v (met + 1) x = num x := fun x hx => upd_other _ _ hx
  have ne_v : ∀ x, num x ≠ 0 → x ≠ v := fun x hx e => hx (e ▸ hn)
  have num_pos : ∀ x, x ≠ v → upd num v (met + 1) x ≠ 0 → num x ≠ 0 := fun x hx q => by rwa [num_o x hx] at q
  have hno : ∀ x, ¬ On [] x := fun x ⟨s, hs, _⟩ => by cases hs
  have hon : ∀ x, On [⟨v, -1, al⟩] x ↔ x = v := fun x => by
    constructor
    · rintro ⟨s, hs, k⟩
      rw [List.mem_singleton.1 hs] at k
      exact k.symm
    · intro e
      exact ⟨_, List.mem_singleton_self _, e.symm⟩
  refine ⟨?_, ?_, ?_, ?_, ?_, ?_, ?_, ?_, ?_, ?_, fun _ _ _ => trivial, ?_, ?_, ?_, ?_, ?_, ?_, ?_, ?_, ?_, h.Bn⟩
  · intro x hx
    by_cases e : x = v
    · rw [e]; exact hv
    · exact h.lt x (num_pos x e hx)
  · intro x
    by_cases e : x = v
    · rw [e, num_v]; exact Nat.le_refl _
    · rw [num_o x e]; have := h.le x; omega
  · intro x z hx hxz
    by_cases e : x = v
    · by_cases e2 : z = v
      · rw [e, e2]
      · rw [e, num_v, num_o z e2] at hxz
        have := h.le z
        omega
    · by_cases e2 : z = v
      · rw [e2, num_v, num_o x e] at hxz
        have := h.le x
        omega
      · rw [num_o x e, num_o z e2] at hxz
        exact h.inj x z (num_pos x e hx) hxz
  · intro p hp
    rw [List.mem_singleton.1 hp]
    simp only
    rw [num_v]
    exact ⟨by omega, Nat.le_refl _, by simp, fun d' hd' => (hal d').1 hd'⟩
  · exact ⟨rfl, num_v⟩
  · intro x hx
    by_cases e : x = v
    · rw [e, num_v, upd_same]; exact ⟨fun _ => rfl, fun _ => Nat.le_refl _⟩
    · rw [num_o x e, upd_other _ _ e]
      have h1 := h.le x
      have h2 := h.trle x (num_pos x e hx)
      exact ⟨fun _ => by omega, fun _ => by omega⟩
  · intro x hx
    by_cases e : x = v
    · rw [e, num_v, upd_same]; exact Nat.le_refl _
    · rw [num_o x e, upd_other _ _ e]; exact h.trle x (num_pos x e hx)
  · intro x hx
    by_cases e : x = v
    · exact Or.inl (by rw [if_pos e])
    · rw [if_neg e]
      rcases h.parD x (num_pos x e hx) with k | ⟨f, k1, k2, k3, k4, k5⟩
      · exact Or.inl k
      · refine Or.inr ⟨f, k1, k2, k3, ?_, ?_⟩
        · rw [num_o _ (ne_v _ k4)]; exact k4
        · rw [num_o _ (ne_v _ k4), num_o x e]; exact k5
  · intro x hx ho d' hs hvd
    have e : x ≠ v := fun e => ho ((hon x).2 e)
    obtain ⟨k1, k2⟩ := h.fin x (num_pos x e hx) (hno x) d' hs hvd
    rw [num_o _ (ne_v _ k1), upd_other _ _ (ne_v _ k1), upd_other _ _ e]
    exact ⟨k1, k2⟩
  · intro p hp d' hs hvd hnl
    rw [List.mem_singleton.1 hp] at hvd hnl
    exact absurd ((hal d').2 ⟨hs, hvd⟩) hnl
  · intro p hp x hx ho _ d' hs hvd
    have e : x ≠ v := fun e => ho ((hon x).2 e)
    have k1 := (h.fin x (num_pos x e hx) (hno x) d' hs hvd).1
    rw [List.mem_singleton.1 hp]
    simp only
    rw [num_v, num_o _ (ne_v _ k1)]
    have := h.le (De L d')
    omega
  · intro p hp x hlt
    rw [List.mem_singleton.1 hp] at hlt
    simp only at hlt
    rw [num_v] at hlt
    by_cases e : x = v
    · rw [e, num_v] at hlt; omega
    · rw [num_o x e] at hlt
      have := h.le x
      omega
  · intro p hp
    rw [List.mem_singleton.1 hp]
    simp only
    rw [num_v, upd_same]
    exact Nat.le_refl _
  · intro p hp x hx hq d' hs hvd hl hpar
    rw [List.mem_singleton.1 hp] at hx hl
    simp only at hx hl
    rw [num_v] at hx
    have e : x = v := by
      by_cases e : x = v
      · exact e
      · rw [num_o x e] at hx
        have := h.le x
        omega
    exact absurd ((hal d').2 ⟨hs, by rw [hvd, e]⟩) (hl e)
  · intro p hp
    rw [List.mem_singleton.1 hp]
    simp only
    rw [num_v, upd_same]
    exact Or.inl rfl
  · intro p hp e he
    rw [List.mem_singleton.1 hp] at he
    simp only at he
    omega
  · intro x z hx hz ht
    by_cases ex : x = v
    · by_cases ez : z = v
      · rw [ex, ez]; exact .refl _
      · rw [ex, upd_same, upd_other _ _ ez] at ht
        have h1 := h.trle z (num_pos z ez hz)
        have h2 := h.le z
        omega
    · by_cases ez : z = v
      · rw [ez, upd_same, upd_other _ _ ex] at ht
        have h1 := h.trle x (num_pos x ex hx)
        have h2 := h.le x
        omega
      · rw [upd_other _ _ ex, upd_other _ _ ez] at ht
        exact (h.T0 x z (num_pos x ex hx) (num_pos z ez hz) ht).mono fun d' _ ⟨y, h1, e, h2, h3⟩ => ⟨y, by rw [num_o _ (ne_v _ h1)]; exact h1, e, by rw [if_neg (ne_v _ h1)]; exact h2, h3⟩
  · intro x hx ho e he
    have ex : x ≠ v := fun e => ho ((hon x).2 e)
    rw [if_neg ex] at he
    exact h.B x (num_pos x ex hx) (hno x) e he
  · intro f hf
    obtain ⟨x, h1, h2, e, h3, h4⟩ := h.Bs f hf
    have ex := ne_v x h1
    exact ⟨x, by rw [num_o x ex]; exact h1, fun q => ex ((hon x).1 q), e, by rw [if_neg ex]; exact h3, h4⟩
theorem DInv.empty (L : List (List Nat)) : DInv L (fun _ => 0) (fun _ => 0) 0 [] [] (fun _ => -1) (fun _ => 0) 0 := by
  refine ⟨fun x hx => absurd rfl hx, fun x => Nat.le_refl _, fun x y hx => absurd rfl hx, fun p hp => by (cases hp), trivial, fun x hx => absurd rfl hx, fun x hx => absurd rfl hx, fun x hx => absurd rfl hx, fun x hx => absurd rfl hx, fun p hp => by (cases hp), fun _ _ _ => trivial, fun p hp => by (cases hp), fun p hp => by (cases hp), fun p hp => by (cases hp), fun p hp => by (cases hp), fun p hp => by (cases hp), fun p hp => by (cases hp), fun x y hx => absurd rfl hx, fun x hx => absurd rfl hx, fun f hf => by (cases hf), List.nodup_nil⟩
/-- Without an edge. -/
theorem lift_hang (hg : Good E L) {e : Nat} (h0 : Good E (liftL L e)) {u v : Nat} : HangD L (fun d => d / 2 ≠ e) u v ↔ Hang (liftL L e) u v := by
  have hvr : ∀ x, Stands (liftL L e) x → vtx (liftL L e) x = vtx L x := fun x hx => by
    obtain ⟨y, l, hu, hl, ev⟩ := vtx_S hg.toWF (lift_stands.1 hx).2
    rw [ev]
    refine h0.toWF.vtx (l := (l.filter (· != 2 * e)).filter (· != 2 * e + 1)) ?_ ?_
    · show (remL (remL L (2 * e)) (2 * e + 1))[y]? = _
      rw [remL_get, remL_get, hu]; rfl
    · have := (lift_stands.1 hx).1
      rw [List.mem_filter, List.mem_filter, bne_iff_ne, bne_iff_ne]
      exact ⟨⟨hl, by omega⟩, by omega⟩
  constructor
  · intro k
    induction k with
    | refl => exact .refl _
    | step d hs hd _ ih =>
      have h1 : Stands (liftL L e) d := lift_stands.2 ⟨hd, hs⟩
      have h2 := h0.twin _ h1
      have h3 := hang_tw h0 h1
      rw [hvr _ h1, hvr _ h2] at h3
      exact ih.trans h3
  · intro k
    induction k with
    | refl => exact .refl _
    | edge f hs _ ih =>
      have h1 := lift_stands.1 hs
      have h2 := (h0.pair f).2 hs
      rw [hvr _ hs] at ih
      rw [hvr _ h2]
      have := HangD.step (L := L) (R := fun d => d / 2 ≠ e) (2 * f) h1.2 h1.1 ih
      unfold De at this
      rwa [tw_even] at this
    | back f hs _ ih =>
      have h2 := (h0.pair f).2 hs
      have h1 := lift_stands.1 h2
      rw [hvr _ h2] at ih
      rw [hvr _ hs]
      have := HangD.step (L := L) (R := fun d => d / 2 ≠ e) (2 * f + 1) h1.2 h1.1 ih
      unfold De at this
      rwa [tw_odd] at this
/-- An edge without which something falls apart. -/
def Bridge (L : List (List Nat)) (e : Nat) : Prop := Stands L (2 * e) ∧ ¬ Hang (liftL L e) (vtx L (2 * e)) (vtx L (2 * e + 1))
theorem DInv.ends (h : DInv L num low met br [] par tr rt) (hg : Good E L) (hl : ∀ e, Good E (liftL L e)) (hall : ∀ v, v < L.length → num v ≠ 0) (e : Nat) : e ∈ br ↔ Bridge L e := by
  have hno : ∀ x, ¬ On [] x := fun x ⟨s, hs, _⟩ => by cases hs
  have hd2 : ∀ d, Stands L d → Stands L (2 * (d / 2)) := fun d hd => by
    by_cases ho : d % 2 = 1
    · have e : d = 2 * (d / 2) + 1 := by omega
      rw [e] at hd
      exact (hg.pair _).1 hd
    · rwa [show 2 * (d / 2) = d by omega]
  have hends : ∀ d, Stands L d → (HangD L (fun d' => d' / 2 ≠ d / 2) (vtx L d) (De L d) ↔ Hang (liftL L (d / 2)) (vtx L (2 * (d / 2))) (vtx L (2 * (d / 2) + 1))) := fun d hd => by
    rw [lift_hang hg (hl _)]
    unfold De
    by_cases ho : d % 2 = 1
    · have e : d = 2 * (d / 2) + 1 := by omega
      have e2 : tw d = 2 * (d / 2) := by unfold tw; rw [if_pos ho]; omega
      rw [e2]
      conv => lhs; rw [show vtx L d = vtx L (2 * (d / 2) + 1) by rw [← e]]
      exact ⟨Hang.symm, Hang.symm⟩
    · have e : d = 2 * (d / 2) := by omega
      have e2 : tw d = 2 * (d / 2) + 1 := by unfold tw; rw [if_neg ho]; omega
      rw [e2]
      conv => lhs; rw [show vtx L d = vtx L (2 * (d / 2)) by rw [← e]]
  constructor
  · intro he
    obtain ⟨x, h1, h2, f, h3, h4⟩ := h.Bs e he
    rcases h.parD x h1 with k | ⟨d, k1, k2, k3, k4, k5⟩
    · omega
    · have : d = f := by omega
      subst this
      have := (h.B x h1 (hno x) d h3).1 (h4 ▸ he)
      rw [← k3, hends d k2] at this
      rw [h4]
      exact ⟨hd2 d k2, this⟩
  · rintro ⟨hs, hb⟩
    by_cases ht : ∃ z, num z ≠ 0 ∧ ∃ f : Nat, par z = f ∧ e = f / 2
    · obtain ⟨z, h1, f, h2, h3⟩ := ht
      rcases h.parD z h1 with k | ⟨d, k1, k2, k3, k4, k5⟩
      · omega
      · have : d = f := by omega
        subst this
        rw [h3]
        refine (h.B z h1 (hno z) d h2).2 ?_
        rw [← k3, hends d k2, ← h3]
        exact hb
    · exfalso
      apply hb
      have hx := hall _ (hg.toWF.vtx_lt hs)
      have hf := h.fin _ hx (hno _) (2 * e) hs rfl
      have := h.T0 _ _ hx hf.1 hf.2.symm
      have k : HangD L (fun d => d / 2 ≠ e) (vtx L (2 * e)) (De L (2 * e)) := this.mono fun d _ ⟨z, h1, f, h2, h3⟩ q => ht ⟨z, h1, f, h2, by omega⟩
      rw [lift_hang hg (hl _)] at k
      unfold De at k
      rwa [tw_even] at k
end
end Go.Proofs.YtdplphhlclhmfaaDoor
