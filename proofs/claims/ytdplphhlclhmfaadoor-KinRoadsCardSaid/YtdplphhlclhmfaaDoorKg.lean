/- Chapter 11: the dart behind one, round its face. Chapter 11, plain: a face is a cycle, and how long. Plain: points turned about, and their cycles counted. Plain: an edge laid turns two points of the faces; all faces told. Plain: how an edge laid splits a face or joins two. Plain: groups that are united. -/
import Derived.Test.YtdplphhlclhmfaaDoorKf
namespace Go.Proofs.YtdplphhlclhmfaaDoor
open Go Go.RowKit
set_option linter.unusedVariables false
set_option linter.unusedSimpArgs false
set_option maxRecDepth 100000

/-- The dart behind one, round its face. -/
def fnx (L : List (List Nat)) (d : Nat) : Nat := nxt L (tw d)
theorem fnx_stands {E : Nat} {L : List (List Nat)} (h : Good E L) {d : Nat} (hd : Stands L d) : Stands L (fnx L d) := h.toWF.nxt_stands (h.twin _ hd)
theorem fnx_back {E : Nat} {L : List (List Nat)} (h : Good E L) {d : Nat} (hd : Stands L d) : tw (prv L (fnx L d)) = d := by
  unfold fnx
  rw [h.toWF.prv_nxt (h.twin _ hd), tw_tw]
theorem fnx_inj {E : Nat} {L : List (List Nat)} (h : Good E L) {d e : Nat} (hd : Stands L d) (he : Stands L e) (q : fnx L d = fnx L e) : d = e := by
  rw [← fnx_back h hd, q, fnx_back h he]
section
variable {w : World} {own : Nat → Prop} {p E : Nat} {L : List (List Nat)}
set_option maxHeartbeats 2000000 in
theorem fnext (h : Tu w own p E L) (hg : Good E L) (d : Int) : Calls Tryd.prog 105 #[tptr p, .int .i64 d] w (RetPost (.tuple #[.int .i64 (if dErr E L d = 0 then (fnx L d.toNat : Int) else 0), errVal (dErr E L d)]) w) := by
  have HO := Lib.hid (torigin h d)
  have hE2 := h.e2
  by_cases h0 : dErr E L d = 0
  · obtain ⟨n, rfl, hs⟩ := dErr_zero h0
    have hlt := hg.toWF.bdS hs
    have hxo := xor_one n (by omega)
    have HN := Lib.hid (fun W (hk : Keeps (fun _ => False) w W) => tnext (h.keep hk) ((tw n : Nat) : Int))
    rw [dErr_stands hg.toWF (hg.twin _ hs), if_pos rfl, Int.toNat_natCast, errVal_zero] at HN
    rw [h0, if_pos rfl, errVal_zero] at HO
    rw [h0, if_pos rfl, errVal_zero, Int.toNat_natCast]
    unfold fnx
    unfold RetPost tptr at *
    generalize tw n = t at *
    clear h hg hs h0
    go_enter Tryd.func105, Tryd.ntmps105
    go_wp2_with fail
    with_reducible refine HO.out.mono ?_
    rintro e w1 ⟨rfl, hk⟩
    have HK := Lib.hid hk
    clear hk
    go_wp2_with fail
    with_reducible refine (HN.out _ HK.out).mono ?_
    rintro e w2 ⟨rfl, hk⟩
    have HK2 := Lib.hid (HK.out.trans' hk)
    clear hk
    go_wp2_with fail
    go_ret2
    exact ⟨rfl, HK2.out⟩
  · rw [if_neg h0] at HO ⊢
    have hne := errVal_pos h0
    rw [hne] at HO ⊢
    generalize dErr E L d = k at *
    unfold RetPost tptr at *
    clear h hg hne
    go_enter Tryd.func105, Tryd.ntmps105
    go_wp2_with fail
    with_reducible refine HO.out.mono ?_
    rintro e w1 ⟨rfl, hk⟩
    have HK := Lib.hid hk
    clear hk
    go_wp2_with fail
    go_ret2
    exact ⟨rfl, HK.out⟩
end
/-- So many steps on, round a face. -/
def itf (L : List (List Nat)) (d : Nat) : Nat → Nat
  | 0 => d
  | k + 1 => fnx L (itf L d k)
theorem itf_stands {E : Nat} {L : List (List Nat)} (h : Good E L) {d : Nat} (hd : Stands L d) : ∀ k, Stands L (itf L d k)
  | 0 => hd
  | k + 1 => fnx_stands h (itf_stands h hd k)
theorem itf_cancel {E : Nat} {L : List (List Nat)} (h : Good E L) {d : Nat} (hd : Stands L d) : ∀ i j, i ≤ j → itf L d i = itf L d j → itf L d (j - i) = d
  | 0, j, _, e => by rw [Nat.sub_zero]; exact e.symm
  | i + 1, 0, hij, _ => by omega
  | i + 1, j + 1, hij, e => by
    rw [Nat.add_sub_add_right]
    exact itf_cancel h hd i j (by omega) (fnx_inj h (itf_stands h hd i) (itf_stands h hd j) e)
/-- It comes back. -/
theorem itf_back {E : Nat} {L : List (List Nat)} (h : Good E L) {d : Nat} (hd : Stands L d) : ∃ k, 0 < k ∧ k ≤ 2 * E ∧ itf L d k = d := by
  apply Classical.byContradiction
  intro hno
  have hno' : ∀ k, 0 < k → k ≤ 2 * E → itf L d k ≠ d := fun k h1 h2 e => hno ⟨k, h1, h2, e⟩
  have hnd : ((List.range (2 * E + 1)).map (itf L d)).Nodup := by
    unfold List.Nodup
    rw [List.pairwise_map]
    refine List.Pairwise.imp_of_mem (fun {a b} ha hb hlt e => ?_) List.pairwise_lt_range
    have hb' := List.mem_range.1 hb
    exact hno' (b - a) (by omega) (by omega) (itf_cancel h hd a b (by omega) e)
  have hle := List.Nodup.length_le_of_subset hnd (l₂ := List.range (2 * E)) (fun x hx => by
    obtain ⟨k, _, rfl⟩ := List.mem_map.1 hx
    exact List.mem_range.2 (h.toWF.bdS (itf_stands h hd k)))
  simp at hle
  omega
/-- How many darts stand round a face. -/
def per (L : List (List Nat)) (E d : Nat) : Nat := (List.range (2 * E)).findIdx (fun k => decide (itf L d (k + 1) = d)) + 1
theorem per_le {E : Nat} {L : List (List Nat)} (h : Good E L) {d : Nat} (hd : Stands L d) : per L E d ≤ 2 * E ∧ itf L d (per L E d) = d := by
  obtain ⟨k, h1, h2, h3⟩ := itf_back h hd
  have hlt : (List.range (2 * E)).findIdx (fun k => decide (itf L d (k + 1) = d)) < (List.range (2 * E)).length := List.findIdx_lt_length_of_exists ⟨k - 1, List.mem_range.2 (by omega), by rw [show k - 1 + 1 = k by omega]; exact decide_eq_true h3⟩
  have hg := List.findIdx_getElem (w := hlt)
  have hg2 := of_decide_eq_true hg
  rw [List.getElem_range] at hg2
  have hl2 := hlt
  rw [List.length_range] at hl2
  exact ⟨by unfold per; omega, hg2⟩
theorem per_least {E : Nat} {L : List (List Nat)} {d j : Nat} (h0 : 0 < j) (hj : j < per L E d) : itf L d j ≠ d := by
  intro e
  unfold per at hj
  have hlt : j - 1 < (List.range (2 * E)).findIdx (fun k => decide (itf L d (k + 1) = d)) := by omega
  have hle := List.findIdx_le_length (xs := List.range (2 * E)) (p := fun k => decide (itf L d (k + 1) = d))
  have := List.not_of_lt_findIdx hlt
  rw [List.getElem_range] at this
  simp [show j - 1 + 1 = j by omega, e] at this
/-- The darts round a face, from one on. -/
def orb (L : List (List Nat)) (E d : Nat) : List Nat := (List.range (per L E d)).map (itf L d)
theorem orb_length (L : List (List Nat)) (E d : Nat) : (orb L E d).length = per L E d := by simp [orb]
theorem orb_get {L : List (List Nat)} {E d k : Nat} (hk : k < per L E d) : (orb L E d).getD k 0 = itf L d k := by
  rw [List.getD_eq_getElem?_getD, orb, List.getElem?_map, List.getElem?_range hk]; rfl
theorem orb_nodup {E : Nat} {L : List (List Nat)} (h : Good E L) {d : Nat} (hd : Stands L d) : (orb L E d).Nodup := by
  unfold orb List.Nodup
  rw [List.pairwise_map]
  refine List.Pairwise.imp_of_mem (fun {a b} ha hb hlt e => ?_) List.pairwise_lt_range
  have hb' := List.mem_range.1 hb
  exact per_least (E := E) (j := b - a) (by omega) (by omega) (itf_cancel h hd a b (by omega) e)
theorem orb_stands {E : Nat} {L : List (List Nat)} (h : Good E L) {d x : Nat} (hd : Stands L d) (hx : x ∈ orb L E d) : Stands L x := by
  obtain ⟨k, _, rfl⟩ := List.mem_map.1 hx
  exact itf_stands h hd k
theorem least_nat {P : Nat → Prop} : ∀ n, P n → ∃ k, P k ∧ ∀ j, j < k → ¬ P j := by
  intro n
  induction n using Nat.strongRecOn with
  | ind n ih =>
    intro h
    by_cases hj : ∃ j, j < n ∧ P j
    · obtain ⟨j, h1, h2⟩ := hj
      exact ih j h1 h2
    · exact ⟨n, h, fun j h1 h2 => hj ⟨j, h1, h2⟩⟩
/-- So many steps. -/
def stp (f : Nat → Nat) (d : Nat) : Nat → Nat
  | 0 => d
  | k + 1 => f (stp f d k)
theorem stp_add (f : Nat → Nat) (d i : Nat) : ∀ j, stp f (stp f d i) j = stp f d (i + j)
  | 0 => rfl
  | j + 1 => by rw [stp, stp_add f d i j]; rfl
/-- Two points of one cycle. -/
def Conn (f : Nat → Nat) (d e : Nat) : Prop := ∃ i j, stp f d i = stp f e j
theorem Conn.refl (f : Nat → Nat) (d : Nat) : Conn f d d := ⟨0, 0, rfl⟩
theorem Conn.symm {f : Nat → Nat} {d e : Nat} (h : Conn f d e) : Conn f e d := by obtain ⟨i, j, h⟩ := h; exact ⟨j, i, h.symm⟩
theorem Conn.trans {f : Nat → Nat} {d e g : Nat} (h : Conn f d e) (k : Conn f e g) : Conn f d g := by
  obtain ⟨i, j, h⟩ := h
  obtain ⟨a, b, k⟩ := k
  refine ⟨i + a, b + j, ?_⟩
  rw [← stp_add, h, stp_add, Nat.add_comm j a, ← stp_add, k, stp_add]
theorem Conn.one (f : Nat → Nat) (d : Nat) : Conn f d (f d) := ⟨1, 0, rfl⟩
theorem Conn.many (f : Nat → Nat) (d k : Nat) : Conn f d (stp f d k) := ⟨k, 0, rfl⟩
theorem Conn.gen {f : Nat → Nat} {R : Nat → Nat → Prop} (hr : ∀ d, R d d) (hs : ∀ d e, R d e → R e d) (ht : ∀ d e g, R d e → R e g → R d g) (h : ∀ d, R d (f d)) {d e : Nat} (c : Conn f d e) : R d e := by
  have hk : ∀ d k, R d (stp f d k) := by
    intro d k
    induction k with
    | zero => exact hr d
    | succ k ih => exact ht _ _ _ ih (h _)
  obtain ⟨i, j, c⟩ := c
  have h1 := hk d i
  rw [c] at h1
  exact ht _ _ _ h1 (hs _ _ (hk e j))
/-- Points below N turned about. -/
structure Tn (N : Nat) (f : Nat → Nat) : Prop where
  lt : ∀ d, d < N → f d < N
  inj : ∀ d e, d < N → e < N → f d = f e → d = e
section
variable {N : Nat} {f : Nat → Nat}
theorem Tn.stp_lt (h : Tn N f) {d : Nat} (hd : d < N) : ∀ k, stp f d k < N
  | 0 => hd
  | k + 1 => h.lt _ (h.stp_lt hd k)
theorem Tn.cancel (h : Tn N f) {d : Nat} (hd : d < N) : ∀ i j, i ≤ j → stp f d i = stp f d j → stp f d (j - i) = d
  | 0, j, _, e => by rw [Nat.sub_zero]; exact e.symm
  | i + 1, 0, hij, _ => by omega
  | i + 1, j + 1, hij, e => by
    rw [Nat.add_sub_add_right]
    exact h.cancel hd i j (by omega) (h.inj _ _ (h.stp_lt hd i) (h.stp_lt hd j) e)
theorem Tn.back (h : Tn N f) {d : Nat} (hd : d < N) : ∃ k, 0 < k ∧ stp f d k = d := by
  apply Classical.byContradiction
  intro hno
  have hno' : ∀ k, 0 < k → stp f d k ≠ d := fun k h1 e => hno ⟨k, h1, e⟩
  have hnd : ((List.range (N + 1)).map (stp f d)).Nodup := by
    unfold List.Nodup
    rw [List.pairwise_map]
    refine List.Pairwise.imp_of_mem (fun {a b} ha hb hlt e => ?_) List.pairwise_lt_range
    exact hno' (b - a) (by omega) (h.cancel hd a b (by omega) e)
  have hle := List.Nodup.length_le_of_subset hnd (l₂ := List.range N) (fun x hx => by
    obtain ⟨k, _, rfl⟩ := List.mem_map.1 hx
    exact List.mem_range.2 (h.stp_lt hd k))
  simp at hle
  omega
theorem stp_times {d k : Nat} (h : stp f d k = d) : ∀ t, stp f d (k * t) = d
  | 0 => rfl
  | t + 1 => by rw [Nat.mul_succ, ← stp_add, stp_times h t, h]
/-- One reaches the other. -/
theorem Tn.reach (h : Tn N f) {p q : Nat} (hq : q < N) (c : Conn f p q) : ∃ k, stp f p k = q := by
  obtain ⟨i, j, c⟩ := c
  obtain ⟨k, hk, hb⟩ := h.back hq
  refine ⟨i + (k * j - j), ?_⟩
  have : j ≤ k * j := Nat.le_mul_of_pos_left j hk
  rw [← stp_add, c, stp_add, show j + (k * j - j) = k * j by omega, stp_times hb]
/-- The next of two points, taken for one another. -/
def swp (f : Nat → Nat) (p q : Nat) : Nat → Nat := fun d => if d = p then f q else if d = q then f p else f d
theorem swp_p (f : Nat → Nat) (p q : Nat) : swp f p q p = f q := if_pos rfl
theorem swp_q (f : Nat → Nat) {p q : Nat} (h : p ≠ q) : swp f p q q = f p := by unfold swp; rw [if_neg (Ne.symm h), if_pos rfl]
theorem swp_o (f : Nat → Nat) {p q d : Nat} (h1 : d ≠ p) (h2 : d ≠ q) : swp f p q d = f d := by unfold swp; rw [if_neg h1, if_neg h2]
theorem swp_swp (f : Nat → Nat) {p q : Nat} (h : p ≠ q) : swp (swp f p q) p q = f := by
  funext d
  by_cases h1 : d = p
  · subst h1; rw [swp_p, swp_q f h]
  · by_cases h2 : d = q
    · subst h2; rw [swp_q _ h, swp_p]
    · rw [swp_o _ h1 h2, swp_o _ h1 h2]
theorem Tn.swp (h : Tn N f) {p q : Nat} (hp : p < N) (hq : q < N) (hpq : p ≠ q) : Tn N (swp f p q) := by
  refine ⟨fun d hd => ?_, fun d e hd he k => ?_⟩
  · unfold Proofs.YtdplphhlclhmfaaDoor.swp; split
    · exact h.lt _ hq
    · split
      · exact h.lt _ hp
      · exact h.lt _ hd
  · unfold Proofs.YtdplphhlclhmfaaDoor.swp at k
    repeat' split at k
    all_goals
      first
        | omega
        | (have := h.inj _ _ (by omega) (by omega) k; omega)
/-- Two classes made one. -/
def Mrg (R : Nat → Nat → Prop) (p q d e : Nat) : Prop := R d e ∨ (R d p ∨ R d q) ∧ (R e p ∨ R e q)
theorem conn_mrg (f : Nat → Nat) (p q : Nat) {d e : Nat} (c : Conn (swp f p q) d e) : Mrg (Conn f) p q d e := by
  refine Conn.gen (R := Mrg (Conn f) p q) (fun d => Or.inl (Conn.refl _ _)) (fun d e h => ?_) (fun d e g h k => ?_) (fun d => ?_) c
  · rcases h with h | ⟨h1, h2⟩
    · exact Or.inl h.symm
    · exact Or.inr ⟨h2, h1⟩
  · rcases h with h | ⟨h1, h2⟩
    · rcases k with k | ⟨k1, k2⟩
      · exact Or.inl (h.trans k)
      · exact Or.inr ⟨k1.imp (h.trans ·) (h.trans ·), k2⟩
    · rcases k with k | ⟨k1, k2⟩
      · exact Or.inr ⟨h1, h2.imp (k.symm.trans ·) (k.symm.trans ·)⟩
      · exact Or.inr ⟨h1, k2⟩
  · unfold swp
    split
    · rename_i e; subst e
      exact Or.inr ⟨Or.inl (Conn.refl _ _), Or.inr (Conn.one f q).symm⟩
    · split
      · rename_i e; subst e
        exact Or.inr ⟨Or.inr (Conn.refl _ _), Or.inl (Conn.one f p).symm⟩
      · exact Or.inl (Conn.one f d)
theorem Tn.parts (h : Tn N f) {p q : Nat} (hp : p < N) (hq : q < N) (hpq : p ≠ q) (c : Conn f p q) : ¬ Conn (Proofs.YtdplphhlclhmfaaDoor.swp f p q) p q := by
  intro c2
  obtain ⟨m, hm⟩ := (h.swp hp hq hpq).reach hp c2.symm
  obtain ⟨k0, hk0⟩ := h.reach hq c
  obtain ⟨k, hk, hmin⟩ := least_nat (P := fun k => stp f p k = q) k0 hk0
  have hk1 : 1 ≤ k := by
    rcases Nat.eq_zero_or_pos k with e | e
    · subst e; exact absurd hk hpq
    · exact e
  have hnp : ∀ i, 1 ≤ i → i ≤ k → stp f p i ≠ p := by
    intro i h1 h2 e
    by_cases hik : i = k
    · subst hik; exact hpq (e.symm.trans hk)
    · refine hmin (k - i) (by omega) ?_
      show stp f p (k - i) = q
      have := stp_add f p i (k - i)
      rw [e, show i + (k - i) = k by omega, hk] at this
      exact this
  have hall : ∀ j, ∃ i, 1 ≤ i ∧ i ≤ k ∧ stp (Proofs.YtdplphhlclhmfaaDoor.swp f p q) q j = stp f p i := by
    intro j
    induction j with
    | zero => exact ⟨k, hk1, Nat.le_refl _, hk.symm⟩
    | succ j ih =>
      obtain ⟨i, h1, h2, e⟩ := ih
      by_cases hik : i = k
      · refine ⟨1, Nat.le_refl _, hk1, ?_⟩
        rw [stp, e, hik, hk, swp_q f hpq]; rfl
      · refine ⟨i + 1, by omega, by omega, ?_⟩
        rw [stp, e, swp_o f (hnp i h1 h2) (hmin i (by omega))]; rfl
  obtain ⟨i, h1, h2, e⟩ := hall m
  rw [hm] at e
  exact hnp i h1 h2 e.symm
theorem Tn.joins (h : Tn N f) {p q : Nat} (hq : q < N) (c : ¬ Conn f p q) : Conn (Proofs.YtdplphhlclhmfaaDoor.swp f p q) p q := by
  obtain ⟨k0, hk0, hb⟩ := h.back hq
  obtain ⟨k, ⟨hk, hkb⟩, hmin⟩ := least_nat (P := fun k => 0 < k ∧ stp f q k = q) k0 ⟨hk0, hb⟩
  have hall : ∀ i, i + 1 ≤ k → stp (Proofs.YtdplphhlclhmfaaDoor.swp f p q) p (i + 1) = stp f q (i + 1) := by
    intro i
    induction i with
    | zero => intro _; show Proofs.YtdplphhlclhmfaaDoor.swp f p q p = f q; exact swp_p f p q
    | succ i ih =>
      intro hi
      rw [stp, ih (by omega), swp_o]
      · rfl
      · intro e; exact c ⟨0, i + 1, e.symm⟩
      · intro e; exact hmin (i + 1) (by omega) ⟨by omega, e⟩
  refine ⟨k, 0, ?_⟩
  have := hall (k - 1) (by omega)
  rw [show k - 1 + 1 = k by omega, hkb] at this
  exact this
theorem mrg_of {f : Nat → Nat} {p q : Nat} (hpq : p ≠ q) (c : Conn (swp f p q) p q) {d e : Nat} : Conn (swp f p q) d e ↔ Mrg (Conn f) p q d e := by
  have hrev : ∀ {d e}, Conn f d e → Conn (swp f p q) d e := by
    intro d e k
    rw [← swp_swp f hpq] at k
    rcases conn_mrg _ _ _ k with k | ⟨k1, k2⟩
    · exact k
    · have a : Conn (swp f p q) d p := k1.elim id (fun k => k.trans c.symm)
      have b : Conn (swp f p q) e p := k2.elim id (fun k => k.trans c.symm)
      exact a.trans b.symm
  refine ⟨conn_mrg f p q, ?_⟩
  rintro (k | ⟨k1, k2⟩)
  · exact hrev k
  · have a : Conn (swp f p q) d p := k1.elim hrev (fun k => (hrev k).trans c.symm)
    have b : Conn (swp f p q) e p := k2.elim hrev (fun k => (hrev k).trans c.symm)
    exact a.trans b.symm
end
open Classical in
/-- How many classes. -/
noncomputable def cls (R : Nat → Nat → Prop) : List Nat → Nat
  | [] => 0
  | d :: S => cls R S + if (∃ s ∈ S, R d s) then 0 else 1
theorem cls_congr {R Q : Nat → Nat → Prop} (h : ∀ d e, R d e ↔ Q d e) (S : List Nat) : cls R S = cls Q S := by
  have : R = Q := by funext d e; exact propext (h d e)
  rw [this]
open Classical in
theorem cls_mrg {R Q : Nat → Nat → Prop} {p q : Nat} (hr : ∀ d, R d d) (hs : ∀ d e, R d e → R e d) (ht : ∀ d e g, R d e → R e g → R d g) (hpq : ¬ R p q) (h : ∀ d e, Q d e ↔ Mrg R p q d e) :
    ∀ S, cls R S = cls Q S + if ((∃ s ∈ S, R s p) ∧ ∃ s ∈ S, R s q) then 1 else 0
  | [] => by
    rw [if_neg]
    · rfl
    · rintro ⟨⟨s, hs, _⟩, _⟩; cases hs
  | d :: S => by
    have ih := cls_mrg hr hs ht hpq h S
    unfold cls
    rw [ih]
    have eP : (∃ s ∈ d :: S, R s p) ↔ R d p ∨ ∃ s ∈ S, R s p := by simp
    have eQ : (∃ s ∈ d :: S, R s q) ↔ R d q ∨ ∃ s ∈ S, R s q := by simp
    have xP : R d p → ((∃ s ∈ S, R d s) ↔ ∃ s ∈ S, R s p) := fun k => ⟨fun ⟨s, a, b⟩ => ⟨s, a, ht _ _ _ (hs _ _ b) k⟩, fun ⟨s, a, b⟩ => ⟨s, a, ht _ _ _ k (hs _ _ b)⟩⟩
    have xQ : R d q → ((∃ s ∈ S, R d s) ↔ ∃ s ∈ S, R s q) := fun k => ⟨fun ⟨s, a, b⟩ => ⟨s, a, ht _ _ _ (hs _ _ b) k⟩, fun ⟨s, a, b⟩ => ⟨s, a, ht _ _ _ k (hs _ _ b)⟩⟩
    have xB : R d p → ¬ R d q := fun k1 k2 => hpq (ht _ _ _ (hs _ _ k1) k2)
    have xJ : (R d p ∨ R d q) → ((∃ s ∈ S, Q d s) ↔ (∃ s ∈ S, R s p) ∨ ∃ s ∈ S, R s q) := by
      intro k
      constructor
      · rintro ⟨s, a, b⟩
        rcases (h d s).1 b with b | ⟨_, b | b⟩
        · rcases k with k | k
          · exact Or.inl ⟨s, a, ht _ _ _ (hs _ _ b) k⟩
          · exact Or.inr ⟨s, a, ht _ _ _ (hs _ _ b) k⟩
        · exact Or.inl ⟨s, a, b⟩
        · exact Or.inr ⟨s, a, b⟩
      · rintro (⟨s, a, b⟩ | ⟨s, a, b⟩)
        · exact ⟨s, a, (h d s).2 (Or.inr ⟨k, Or.inl b⟩)⟩
        · exact ⟨s, a, (h d s).2 (Or.inr ⟨k, Or.inr b⟩)⟩
    have xN : ¬ (R d p ∨ R d q) → ((∃ s ∈ S, Q d s) ↔ ∃ s ∈ S, R d s) := by
      intro k
      constructor
      · rintro ⟨s, a, b⟩
        rcases (h d s).1 b with b | ⟨b, _⟩
        · exact ⟨s, a, b⟩
        · exact absurd b k
      · rintro ⟨s, a, b⟩
        exact ⟨s, a, (h d s).2 (Or.inl b)⟩
    simp only [eP, eQ]
    clear eP eQ ih h hr hs ht
    by_cases hX : R d p
    · have hY := xB hX
      simp only [hX, hY, xP hX, xJ (Or.inl hX), true_or, false_or, true_and]
      by_cases hA : ∃ s ∈ S, R s p <;> by_cases hB : ∃ s ∈ S, R s q <;> simp only [hA, hB, if_true, if_false, true_and, false_and, or_true, true_or, or_false, false_or] <;> omega
    · by_cases hY : R d q
      · simp only [hX, hY, xQ hY, xJ (Or.inr hY), true_or, false_or, and_true]
        by_cases hA : ∃ s ∈ S, R s p <;> by_cases hB : ∃ s ∈ S, R s q <;> simp only [hA, hB, if_true, if_false, true_and, false_and, or_true, true_or, or_false, false_or, and_true, and_false] <;> omega
      · simp only [hX, hY, xN (fun k => k.elim hX hY), false_or]
        omega
theorem Tn.cls_joins {N : Nat} {f : Nat → Nat} (h : Tn N f) {p q : Nat} {S : List Nat} (hq : q < N) (hpq : p ≠ q) (c : ¬ Conn f p q) (hpS : p ∈ S) (hqS : q ∈ S) : cls (Conn f) S = cls (Conn (Proofs.YtdplphhlclhmfaaDoor.swp f p q)) S + 1 := by
  have := cls_mrg (Conn.refl f) (fun _ _ => Conn.symm) (fun _ _ _ => Conn.trans) c (fun d e => mrg_of hpq (h.joins hq c) (d := d) (e := e)) S
  rw [this, if_pos]
  exact ⟨⟨p, hpS, Conn.refl _ _⟩, ⟨q, hqS, Conn.refl _ _⟩⟩
theorem Tn.cls_parts {N : Nat} {f : Nat → Nat} (h : Tn N f) {p q : Nat} {S : List Nat} (hp : p < N) (hq : q < N) (hpq : p ≠ q) (c : Conn f p q) (hpS : p ∈ S) (hqS : q ∈ S) : cls (Conn (Proofs.YtdplphhlclhmfaaDoor.swp f p q)) S = cls (Conn f) S + 1 := by
  have := (h.swp hp hq hpq).cls_joins (S := S) hq hpq (h.parts hp hq hpq c) hpS hqS
  rwa [swp_swp f hpq] at this
/-- The next round a vertex; what stands nowhere, itself. -/
def gnx (L : List (List Nat)) (d : Nat) : Nat := if Stands L d then nxt L d else d
theorem gnx_s {L : List (List Nat)} {d : Nat} (h : Stands L d) : gnx L d = nxt L d := if_pos h
theorem gnx_n {L : List (List Nat)} {d : Nat} (h : ¬ Stands L d) : gnx L d = d := if_neg h
section
variable {E : Nat} {L : List (List Nat)}
theorem gnx_at (h : WF E L) {v i : Nat} {l : List Nat} (hv : L[v]? = some l) (hi : i < l.length) : gnx L (l.getD i 0) = l.getD (sc l.length i) 0 := by
  rw [gnx_s (stands_at hv (getD_mem hi)), (h.at_ hv hi).2.2.1]
theorem gnx_put (h : WF E L) {d v i : Nat} {b : Int} {l : List Nat} (hd : d < 2 * E) (hn : ¬ Stands L d) (hv : L[v]? = some l) (hi : i < l.length) (hins : insB b d l = l.take (i + 1) ++ d :: l.drop (i + 1)) :
    gnx (putL L d v b) = swp (gnx L) (l.getD i 0) d := by
  have hvl := (List.getElem?_eq_some_iff.1 hv).1
  have h' := putL_wf (b := b) h hd hn hvl
  have hv' : (putL L d v b)[v]? = some (l.take (i + 1) ++ d :: l.drop (i + 1)) := by rw [putL_get hv, if_pos rfl, hins]
  have hlen : (l.take (i + 1) ++ d :: l.drop (i + 1)).length = l.length + 1 := by simp; omega
  have hget := fun j => getD_ins l i d j hi
  have hm : l.getD i 0 ≠ d := fun e => hn (e ▸ stands_at hv (getD_mem hi))
  have hat := fun j (hj : j < l.length + 1) => gnx_at h' hv' (i := j) (by rw [hlen]; exact hj)
  rw [hlen] at hat
  simp only [hget] at hat
  funext x
  by_cases e1 : x = l.getD i 0
  · rw [e1, swp_p, gnx_n hn]
    have := hat i (by omega)
    rw [if_pos (Nat.le_refl _), show sc (l.length + 1) i = i + 1 from sc_in (by omega), if_neg (by omega), if_pos rfl] at this
    exact this
  · by_cases e2 : x = d
    · rw [e2, swp_q _ hm, gnx_at h hv hi]
      have := hat (i + 1) (by omega)
      rw [if_neg (by omega), if_pos rfl] at this
      rw [this]
      by_cases e : i + 1 = l.length
      · rw [sc_last (by omega), sc_last e, if_pos (Nat.zero_le _)]
      · rw [sc_in (by omega), sc_in e, if_neg (by omega), if_neg (by omega)]; rfl
    · rw [swp_o _ e1 e2]
      by_cases hs : Stands L x
      · obtain ⟨u, m, j, hu, hj, rfl⟩ := stands_ex hs
        rw [gnx_at h hu hj]
        by_cases euv : u = v
        · subst euv
          rw [hv] at hu
          cases hu
          have hji : j ≠ i := fun e => e1 (by rw [e])
          by_cases hlt : j < i
          · have := hat j (by omega)
            rw [if_pos (by omega), sc_in (by omega), if_pos (by omega)] at this
            rw [this, sc_in (by omega)]
          · have := hat (j + 1) (by omega)
            rw [if_neg (by omega), if_neg (by omega), Nat.add_sub_cancel] at this
            rw [this]
            by_cases e : j + 1 = l.length
            · rw [sc_last (by omega), sc_last e, if_pos (Nat.zero_le _)]
            · rw [sc_in (by omega), sc_in e, if_neg (by omega), if_neg (by omega)]; rfl
        · have hu' : (putL L d v b)[u]? = some m := by rw [putL_get hv, if_neg euv]; exact hu
          exact gnx_at h' hu' hj
      · rw [gnx_n hs, gnx_n]
        rw [putL_stands hvl]
        rintro (k | k)
        · exact e2 k
        · exact hs k
theorem gnx_put0 (h : WF E L) {d v : Nat} {b : Int} (hd : d < 2 * E) (hn : ¬ Stands L d) (hv : L[v]? = some []) : gnx (putL L d v b) = gnx L := by
  have hvl := (List.getElem?_eq_some_iff.1 hv).1
  have h' := putL_wf (b := b) h hd hn hvl
  have hv' : (putL L d v b)[v]? = some [d] := by rw [putL_get hv, if_pos rfl]; rfl
  funext x
  by_cases e2 : x = d
  · subst e2
    rw [gnx_n hn]
    exact gnx_at h' hv' (i := 0) (by simp)
  · by_cases hs : Stands L x
    · obtain ⟨u, m, j, hu, hj, rfl⟩ := stands_ex hs
      have euv : u ≠ v := by
        rintro rfl
        rw [hv] at hu
        cases hu
        simp at hj
      have hu' : (putL L d v b)[u]? = some m := by rw [putL_get hv, if_neg euv]; exact hu
      rw [gnx_at h hu hj, gnx_at h' hu' hj]
    · rw [gnx_n hs, gnx_n]
      rw [putL_stands hvl]
      rintro (k | k)
      · exact e2 k
      · exact hs k
end
/-- The next round a face; what stands nowhere, its twin. -/
def frot (L : List (List Nat)) (d : Nat) : Nat := gnx L (tw d)
theorem tw_flip {d e : Nat} : tw d = e ↔ d = tw e := ⟨fun h => by rw [← h, tw_tw], fun h => by rw [h, tw_tw]⟩
section
variable {E : Nat} {L : List (List Nat)}
theorem frot_swp {g : Nat → Nat} {m d : Nat} (x : Nat) : swp g m d (tw x) = swp (fun y => g (tw y)) (tw m) (tw d) x := by
  unfold swp
  simp only [tw_flip, tw_tw]
theorem frot_put (h : WF E L) {d v i : Nat} {b : Int} {l : List Nat} (hd : d < 2 * E) (hn : ¬ Stands L d) (hv : L[v]? = some l) (hi : i < l.length) (hins : insB b d l = l.take (i + 1) ++ d :: l.drop (i + 1)) :
    frot (putL L d v b) = swp (frot L) (tw (l.getD i 0)) (tw d) := by
  funext x
  unfold frot
  rw [gnx_put h hd hn hv hi hins, frot_swp]
theorem frot_put0 (h : WF E L) {d v : Nat} {b : Int} (hd : d < 2 * E) (hn : ¬ Stands L d) (hv : L[v]? = some []) : frot (putL L d v b) = frot L := by
  funext x
  unfold frot
  rw [gnx_put0 h hd hn hv]
theorem WF.frot (h : WF E L) : Tn (2 * E) (frot L) := by
  refine ⟨fun d hd => ?_, fun d e hd he k => ?_⟩
  · unfold Proofs.YtdplphhlclhmfaaDoor.frot gnx
    split
    · rename_i hs
      exact h.bdS (h.nxt_stands hs)
    · exact tw_lt hd
  · have key : tw d = tw e := by
      unfold Proofs.YtdplphhlclhmfaaDoor.frot gnx at k
      split at k
      · rename_i h1
        split at k
        · rename_i h2
          have := congrArg (prv L) k
          rwa [h.prv_nxt h1, h.prv_nxt h2] at this
        · rename_i h2
          exact absurd (k ▸ h.nxt_stands h1) h2
      · rename_i h1
        split at k
        · rename_i h2
          exact absurd (k ▸ h.nxt_stands h2) h1
        · exact k
    have := congrArg tw key
    rwa [tw_tw, tw_tw] at this
theorem stp_itf (h : Good E L) {d : Nat} (hd : Stands L d) : ∀ k, stp (frot L) d k = itf L d k
  | 0 => rfl
  | k + 1 => by
    rw [stp, stp_itf h hd k, frot, gnx_s (h.twin _ (itf_stands h hd k))]
    rfl
theorem itf_add (L : List (List Nat)) (d i : Nat) : ∀ j, itf L (itf L d i) j = itf L d (i + j)
  | 0 => rfl
  | j + 1 => by rw [itf, itf_add L d i j]; rfl
theorem itf_orb (h : Good E L) {d : Nat} (hd : Stands L d) (k : Nat) : itf L d k ∈ orb L E d := by
  induction k using Nat.strongRecOn with
  | ind k ih =>
    by_cases hk : k < per L E d
    · exact List.mem_map.2 ⟨k, List.mem_range.2 hk, rfl⟩
    · have hp : 0 < per L E d := Nat.succ_pos _
      have := itf_add L d (per L E d) (k - per L E d)
      rw [(per_le h hd).2, show per L E d + (k - per L E d) = k by omega] at this
      rw [← this]
      exact ih _ (by omega)
theorem conn_orb (h : Good E L) {d e : Nat} (hd : Stands L d) : Conn (frot L) d e ↔ e ∈ orb L E d := by
  constructor
  · intro c
    obtain ⟨i, j, c⟩ := id c
    have hs : Stands L (stp (frot L) e j) := c ▸ (stp_itf h hd i).symm ▸ itf_stands h hd i
    have he : ∀ j, Stands L (stp (frot L) e j) → Stands L e := by
      intro j
      induction j with
      | zero => exact id
      | succ j ih =>
        intro q
        apply ih
        by_cases hq : Stands L (tw (stp (frot L) e j))
        · exact (h.twin_iff _).1 hq
        · rw [stp, frot, gnx_n hq] at q
          exact absurd q hq
    have hse := he j hs
    obtain ⟨k, hk⟩ := h.toWF.frot.reach (h.toWF.bdS hse) ⟨i, j, c⟩
    rw [stp_itf h hd] at hk
    rw [← hk]
    exact itf_orb h hd k
  · intro c
    obtain ⟨k, _, rfl⟩ := List.mem_map.1 c
    rw [← stp_itf h hd]
    exact Conn.many _ _ _
theorem orb_self (d : Nat) : d ∈ orb L E d := List.mem_map.2 ⟨0, List.mem_range.2 (Nat.succ_pos _), rfl⟩
theorem orb_symm (h : Good E L) {d e : Nat} (hd : Stands L d) (he : e ∈ orb L E d) : d ∈ orb L E e := (conn_orb h (orb_stands h hd he)).1 ((conn_orb h hd).2 he).symm
theorem orb_trans (h : Good E L) {d e g : Nat} (hd : Stands L d) (he : e ∈ orb L E d) (hg : g ∈ orb L E e) : g ∈ orb L E d := (conn_orb h hd).1 (((conn_orb h hd).2 he).trans ((conn_orb h (orb_stands h hd he)).2 hg))
/-- Is it the least round its face? -/
def least (L : List (List Nat)) (E d : Nat) : Bool := decide (Stands L d) && (orb L E d).all fun x => decide (d ≤ x)
theorem least_iff {d : Nat} : least L E d = true ↔ Stands L d ∧ ∀ x ∈ orb L E d, d ≤ x := by simp [least]
/-- The faces whose least dart is below a bound. -/
def facesN (L : List (List Nat)) (E n : Nat) : List (List Nat) := ((List.range n).filter (least L E)).map (orb L E)
theorem facesN_zero : facesN L E 0 = [] := rfl
theorem facesN_step (n : Nat) : facesN L E (n + 1) = facesN L E n ++ if least L E n = true then [orb L E n] else [] := by
  unfold facesN
  rw [List.range_succ, List.filter_append, List.map_append]
  congr 1
  by_cases h : least L E n = true
  · simp [h]
  · simp [h]
/-- All faces. -/
def faces (L : List (List Nat)) (E : Nat) : List (List Nat) := facesN L E (2 * E)
end
open Classical in
/-- How many below a bound. -/
noncomputable def cnt (P : Nat → Prop) : Nat → Nat
  | 0 => 0
  | n + 1 => cnt P n + if P n then 1 else 0
theorem cnt_congr {P Q : Nat → Prop} : ∀ {n : Nat}, (∀ d, d < n → (P d ↔ Q d)) → cnt P n = cnt Q n
  | 0, _ => rfl
  | n + 1, h => by
    unfold cnt
    rw [cnt_congr fun d hd => h d (by omega)]
    by_cases hp : P n
    · rw [if_pos hp, if_pos ((h n (by omega)).1 hp)]
    · rw [if_neg hp, if_neg fun q => hp ((h n (by omega)).2 q)]
theorem cnt_less {P Q : Nat → Prop} {x : Nat} : ∀ {n : Nat}, x < n → P x → (∀ d, d < n → (Q d ↔ P d ∧ d ≠ x)) → cnt P n = cnt Q n + 1
  | 0, hx, _, _ => by omega
  | n + 1, hx, hp, h => by
    unfold cnt
    by_cases e : x = n
    · subst e
      rw [if_pos hp, if_neg fun q => ((h x (by omega)).1 q).2 rfl, Nat.add_zero]
      rw [cnt_congr (P := P) (Q := Q) fun d hd => ⟨fun q => (h d (by omega)).2 ⟨q, by omega⟩, fun q => ((h d (by omega)).1 q).1⟩]
    · rw [cnt_less (Q := Q) (show x < n by omega) hp fun d hd => h d (by omega)]
      by_cases hp : P n
      · rw [if_pos hp, if_pos ((h n (by omega)).2 ⟨hp, fun q => e q.symm⟩)]
      · rw [if_neg hp, if_neg fun q => hp ((h n (by omega)).1 q).1]
theorem cnt_or {P Q : Nat → Prop} : ∀ {n : Nat}, (∀ d, d < n → ¬ (P d ∧ Q d)) → cnt (fun d => P d ∨ Q d) n = cnt P n + cnt Q n
  | 0, _ => rfl
  | n + 1, h => by
    have ih := cnt_or (P := P) (Q := Q) fun d (hd : d < n) => h d (by omega)
    have := h n (by omega)
    unfold cnt
    rw [ih]
    by_cases hp : P n
    · have hq : ¬ Q n := fun q => this ⟨hp, q⟩
      rw [if_pos (Or.inl hp), if_pos hp, if_neg hq]; omega
    · by_cases hq : Q n
      · rw [if_pos (Or.inr hq), if_neg hp, if_pos hq]; omega
      · rw [if_neg (fun q => q.elim hp hq), if_neg hp, if_neg hq]; omega
theorem cls_cnt (R : Nat → Nat → Prop) : ∀ n, cls R (List.range n).reverse = cnt (fun d => ∀ s, s < d → ¬ R d s) n
  | 0 => rfl
  | n + 1 => by
    rw [List.range_succ, List.reverse_append]
    show cls R (n :: (List.range n).reverse) = _
    unfold cls cnt
    rw [cls_cnt R n]
    congr 1
    by_cases h : ∃ s ∈ (List.range n).reverse, R n s
    · rw [if_pos h, if_neg]
      intro q
      obtain ⟨s, hs, hr⟩ := h
      exact q s (List.mem_range.1 (List.mem_reverse.1 hs)) hr
    · rw [if_neg h, if_pos]
      intro s hs hr
      exact h ⟨s, List.mem_reverse.2 (List.mem_range.2 hs), hr⟩
section
variable {E : Nat} {L : List (List Nat)}
theorem facesN_len : ∀ n, (facesN L E n).length = cnt (fun d => least L E d = true) n
  | 0 => rfl
  | n + 1 => by
    unfold cnt
    rw [facesN_step, List.length_append, facesN_len n]
    by_cases h : least L E n = true
    · rw [if_pos h, if_pos h]; rfl
    · rw [if_neg h, if_neg h]; rfl
theorem lone {d : Nat} (h : Good E L) (hd : ¬ Stands L d) (k : Nat) : stp (frot L) d k = d ∨ stp (frot L) d k = tw d := by
  have ht : ¬ Stands L (tw d) := fun q => hd ((h.twin_iff _).1 q)
  induction k with
  | zero => exact Or.inl rfl
  | succ k ih =>
    rw [stp]
    rcases ih with e | e
    · rw [e, frot, gnx_n ht]; exact Or.inr rfl
    · rw [e, frot, tw_tw, gnx_n hd]; exact Or.inl rfl
theorem minimal_iff (h : Good E L) {d : Nat} (hd : d < 2 * E) : (∀ s, s < d → ¬ Conn (frot L) d s) ↔ least L E d = true ∨ (¬ Stands L d ∧ d % 2 = 0) := by
  rw [least_iff]
  by_cases hs : Stands L d
  · constructor
    · intro k
      refine Or.inl ⟨hs, fun x hx => ?_⟩
      apply Classical.byContradiction
      intro hlt
      exact k x (by omega) ((conn_orb h hs).2 hx)
    · rintro (⟨_, k⟩ | ⟨k, _⟩)
      · intro s hlt c
        have := k s ((conn_orb h hs).1 c)
        omega
      · exact absurd hs k
  · have ht : ¬ Stands L (tw d) := fun q => hs ((h.twin_iff _).1 q)
    constructor
    · intro k
      refine Or.inr ⟨hs, ?_⟩
      apply Classical.byContradiction
      intro ho
      refine k (tw d) (by unfold tw; rw [if_pos (by omega)]; omega) ⟨1, 0, ?_⟩
      show frot L d = tw d
      rw [frot, gnx_n ht]
    · rintro (⟨k, _⟩ | ⟨_, k⟩)
      · exact absurd k hs
      · intro s hlt c
        obtain ⟨j, hj⟩ := h.toWF.frot.reach (show s < 2 * E by omega) c
        have := lone h hs j
        rw [hj] at this
        have : tw d = d + 1 := by unfold tw; rw [if_neg (by omega)]
        omega
/-- Edges that are free. -/
noncomputable def freeN (E : Nat) (L : List (List Nat)) : Nat := cnt (fun d => ¬ Stands L d ∧ d % 2 = 0) (2 * E)
theorem cls_faces (h : Good E L) : cls (Conn (frot L)) (List.range (2 * E)).reverse = (faces L E).length + freeN E L := by
  rw [cls_cnt, cnt_congr fun d hd => minimal_iff h hd, cnt_or, faces, facesN_len]
  · rfl
  · rintro d _ ⟨h1, h2, _⟩
    exact h2 (least_iff.1 h1).1
/-- Vertices without darts. -/
noncomputable def empN (L : List (List Nat)) (n : Nat) : Nat := cnt (fun v => L.getD v [] = []) n
noncomputable def emp (L : List (List Nat)) : Nat := empN L L.length
theorem emp_put {d v : Nat} {b : Int} {l : List Nat} (hv : L[v]? = some l) : emp L = emp (putL L d v b) + if l = [] then 1 else 0 := by
  have hvl := (List.getElem?_eq_some_iff.1 hv).1
  unfold emp empN
  rw [putL_length]
  have hne : insB b d l ≠ [] := fun e => by have := congrArg List.length e; rw [insB_length] at this; simp at this
  have hg : ∀ u, u < L.length → ((putL L d v b).getD u [] = [] ↔ L.getD u [] = [] ∧ u ≠ v) := by
    intro u hu
    by_cases e : u = v
    · subst e
      have : (putL L d u b)[u]? = some (insB b d l) := by rw [putL_get hv, if_pos rfl]
      rw [getD_some this]
      exact ⟨fun q => absurd q hne, fun q => absurd rfl q.2⟩
    · have : (putL L d v b)[u]? = some (L.getD u []) := by rw [putL_get hv, if_neg e]; exact some_getD hu
      rw [getD_some this]
      exact ⟨fun q => ⟨q, e⟩, fun q => q.1⟩
  by_cases hl : l = []
  · rw [if_pos hl]
    exact cnt_less hvl (by rw [getD_some hv, hl]) hg
  · rw [if_neg hl, Nat.add_zero]
    refine cnt_congr fun u hu => ⟨fun q => (hg u hu).2 ⟨q, ?_⟩, fun q => ((hg u hu).1 q).1⟩
    rintro rfl
    rw [getD_some hv] at q
    exact hl q
/-- The dart whose face a corner looks into; whether two look into one. -/
def atC (L : List (List Nat)) (c : Int × Int) : Int := if c.2 = -1 then -1 else (nxt L c.2.toNat : Int)
def sameC (L : List (List Nat)) (E : Nat) (a b : Int × Int) : Prop := if atC L a = -1 ∨ atC L b = -1 then a = b else (atC L b).toNat ∈ orb L E (atC L a).toNat
instance (L : List (List Nat)) (E : Nat) (a b : Int × Int) : Decidable (sameC L E a b) := by unfold sameC; infer_instance
theorem atC_nat (L : List (List Nat)) (v : Int) (m : Nat) : atC L (v, (m : Int)) = (nxt L m : Int) := by
  unfold atC
  rw [if_neg (by simp only; omega)]
  simp
theorem ins_mem {l : List Nat} (h : l.Nodup) {m : Nat} (hm : m ∈ l) (d : Nat) : ∃ i, i < l.length ∧ l.getD i 0 = m ∧ insB (m : Int) d l = l.take (i + 1) ++ d :: l.drop (i + 1) := by
  obtain ⟨i, hi, e⟩ := mem_getD hm
  refine ⟨i, hi, e, ?_⟩
  have := insB_at (d := d) h hi
  rw [← getD_at hi, e] at this
  exact this
theorem split_cls (h : Good E L) {e : Nat} (he : e < E) (hn : ¬ Stands L (2 * e)) {a b : Int × Int} (ha : chkErr L a.1 a.2 = 0) (hb : chkErr L b.1 b.2 = 0) :
    (sameC L E a b ∧ cls (Conn (frot (layL L e a b))) (List.range (2 * E)).reverse + emp (layL L e a b) = cls (Conn (frot L)) (List.range (2 * E)).reverse + emp L) ∨
    (¬ sameC L E a b ∧ cls (Conn (frot (layL L e a b))) (List.range (2 * E)).reverse + emp (layL L e a b) + 2 = cls (Conn (frot L)) (List.range (2 * E)).reverse + emp L) := by
  have hn1 : ¬ Stands L (2 * e + 1) := fun q => hn ((h.pair e).1 q)
  obtain ⟨a1, a2⟩ := a
  obtain ⟨b1, b2⟩ := b
  obtain ⟨na, ea, la, hla, hca⟩ := chk_ok ha
  obtain ⟨nb, eb, lb, hlb, hcb⟩ := chk_ok hb
  simp only at ea eb hca hcb
  subst ea eb
  have hna := (List.getElem?_eq_some_iff.1 hla).1
  have hnb := (List.getElem?_eq_some_iff.1 hlb).1
  have hmem : ∀ x, x < 2 * E → x ∈ (List.range (2 * E)).reverse := fun x hx => List.mem_reverse.2 (List.mem_range.2 hx)
  have hx : 2 * e < 2 * E := by omega
  have hy : 2 * e + 1 < 2 * E := by omega
  have hW1 := putL_wf (b := a2) h.toWF hx hn hna
  have hn2 : ¬ Stands (putL L (2 * e) na a2) (2 * e + 1) := by
    rw [putL_stands hna]
    rintro (q | q)
    · omega
    · exact hn1 q
  have hT := h.toWF.frot
  have hT1 := hW1.frot
  have hlay : layL L e ((na : Int), a2) ((nb : Int), b2) = putL (putL L (2 * e) na a2) (2 * e + 1) nb b2 := by
    unfold layL; simp only [Int.toNat_natCast]
  rw [hlay]
  have hget1 := putL_get (d := 2 * e) (b := a2) hla
  have hemp1 := emp_put (d := 2 * e) (b := a2) hla
  have hfar : ∀ m, Stands L m → ∀ z, ¬ Stands L z → ¬ Conn (frot L) (tw m) z := fun m hm z hz c => hz (orb_stands h (h.twin _ hm) ((conn_orb h (h.twin _ hm)).1 c))
  have hxy : Conn (frot L) (2 * e) (2 * e + 1) := by
    have := Conn.one (frot L) (2 * e)
    rwa [frot, tw_even, gnx_n hn1] at this
  rcases hca with ⟨rfl, rfl⟩ | ⟨m, rfl, hm⟩
  · have hf1 := frot_put0 (b := -1) h.toWF hx hn hla
    rw [if_pos rfl] at hemp1
    rcases hcb with ⟨rfl, rfl⟩ | ⟨mb, rfl, hmb⟩
    · by_cases hab : nb = na
      · subst hab
        have hg := hget1 nb
        rw [if_pos rfl] at hg
        have hf2 := frot_put (b := -1) hW1 hy hn2 hg (i := 0) (by simp [insB]) (by rw [insB_not (by intro x _; omega)]; simp [insB])
        have h0 : (insB (-1) (2 * e) []).getD 0 0 = 2 * e := rfl
        rw [h0, tw_even, tw_odd] at hf2
        have hemp2 := emp_put (d := 2 * e + 1) (b := -1) hg
        rw [if_neg (by simp [insB])] at hemp2
        have hc : Conn (frot (putL L (2 * e) nb (-1))) (2 * e + 1) (2 * e) := by rw [hf1]; exact hxy.symm
        have hk := hT1.cls_parts hy hx (by omega) hc (hmem _ hy) (hmem _ hx)
        rw [← hf2, hf1] at hk
        refine Or.inl ⟨?_, by omega⟩
        unfold sameC
        rw [if_pos (Or.inl (by simp [atC]))]
      · have hg : (putL L (2 * e) na (-1))[nb]? = some [] := by rw [hget1, if_neg hab, hlb]
        have hf2 := frot_put0 (b := -1) hW1 hy hn2 hg
        have hemp2 := emp_put (d := 2 * e + 1) (b := -1) hg
        rw [if_pos rfl] at hemp2
        rw [hf2, hf1]
        refine Or.inr ⟨?_, by omega⟩
        unfold sameC
        rw [if_pos (Or.inl (by simp [atC]))]
        intro q
        cases q
        exact hab rfl
    · have hab : nb ≠ na := by
        rintro rfl
        rw [hla] at hlb
        cases hlb
        cases hmb
      have hg : (putL L (2 * e) na (-1))[nb]? = some lb := by rw [hget1, if_neg hab, hlb]
      obtain ⟨i, hi, hgi, hins⟩ := ins_mem (hW1.nd hg) hmb (2 * e + 1)
      have hf2 := frot_put hW1 hy hn2 hg hi hins
      rw [hgi, tw_odd] at hf2
      have hsm : Stands L mb := stands_at hlb hmb
      have hemp2 := emp_put (d := 2 * e + 1) (b := (mb : Int)) hg
      rw [if_neg (by rintro rfl; cases hmb)] at hemp2
      have hc : ¬ Conn (frot (putL L (2 * e) na (-1))) (tw mb) (2 * e) := by rw [hf1]; exact hfar mb hsm _ hn
      have hne : tw mb ≠ 2 * e := fun q => hn (q ▸ h.twin _ hsm)
      have hk := hT1.cls_joins hx hne hc (hmem _ (tw_lt (h.toWF.bdS hsm))) (hmem _ hx)
      rw [← hf2, hf1] at hk
      refine Or.inr ⟨?_, by omega⟩
      unfold sameC
      rw [if_pos (Or.inl (by simp [atC]))]
      intro q
      have := congrArg Prod.snd q
      simp only at this
      omega
  · have hsa : Stands L m := stands_at hla hm
    obtain ⟨i, hi, hgi, hins⟩ := ins_mem (h.toWF.nd hla) hm (2 * e)
    have hf1 := frot_put h.toWF hx hn hla hi hins
    rw [hgi, tw_even] at hf1
    have hne1 : tw m ≠ 2 * e + 1 := fun q => hn1 (q ▸ h.twin _ hsa)
    have hc1 := hfar m hsa _ hn1
    have hk1 := hT.cls_joins hy hne1 hc1 (hmem _ (tw_lt (h.toWF.bdS hsa))) (hmem _ hy)
    rw [← hf1] at hk1
    rw [if_neg (by rintro rfl; cases hm)] at hemp1
    rcases hcb with ⟨rfl, rfl⟩ | ⟨mb, rfl, hmb⟩
    · have hab : nb ≠ na := by
        rintro rfl
        rw [hla] at hlb
        cases hlb
        cases hm
      have hg : (putL L (2 * e) na (m : Int))[nb]? = some [] := by rw [hget1, if_neg hab, hlb]
      have hf2 := frot_put0 (b := -1) hW1 hy hn2 hg
      have hemp2 := emp_put (d := 2 * e + 1) (b := -1) hg
      rw [if_pos rfl] at hemp2
      rw [hf2]
      refine Or.inr ⟨?_, by omega⟩
      unfold sameC
      rw [if_pos (Or.inr (by simp [atC]))]
      intro q
      have := congrArg Prod.snd q
      simp only at this
      omega
    · obtain ⟨l1, hg, hm1⟩ : ∃ l1, (putL L (2 * e) na (m : Int))[nb]? = some l1 ∧ mb ∈ l1 := by
        rw [hget1]
        split
        · rename_i q
          subst q
          rw [hla] at hlb
          cases hlb
          exact ⟨_, rfl, mem_insB.2 (Or.inr hmb)⟩
        · exact ⟨_, hlb, hmb⟩
      obtain ⟨j, hj, hgj, hins2⟩ := ins_mem (hW1.nd hg) hm1 (2 * e + 1)
      have hf2 := frot_put hW1 hy hn2 hg hj hins2
      rw [hgj, tw_odd] at hf2
      have hsm : Stands L mb := stands_at hlb hmb
      have hne : tw mb ≠ 2 * e := fun q => hn (q ▸ h.twin _ hsm)
      have hemp2 := emp_put (d := 2 * e + 1) (b := (mb : Int)) hg
      rw [if_neg (by rintro rfl; cases hm1)] at hemp2
      have hiff : Conn (frot (putL L (2 * e) na (m : Int))) (tw mb) (2 * e) ↔ Conn (frot L) (tw m) (tw mb) := by
        rw [hf1, mrg_of hne1 (hT.joins hy hc1)]
        constructor
        · rintro (q | ⟨q | q, _⟩)
          · exact absurd q (hfar mb hsm _ hn)
          · exact q.symm
          · exact absurd q (hfar mb hsm _ hn1)
        · intro q
          exact Or.inr ⟨Or.inl q.symm, Or.inr hxy⟩
      have hfm : ∀ m, Stands L m → frot L (tw m) = nxt L m := fun m q => by rw [frot, tw_tw, gnx_s q]
      have hsame : sameC L E ((na : Int), (m : Int)) ((nb : Int), (mb : Int)) ↔ Conn (frot L) (tw m) (tw mb) := by
        unfold sameC
        rw [atC_nat, atC_nat, if_neg (by omega), Int.toNat_natCast, Int.toNat_natCast, ← conn_orb h (h.toWF.nxt_stands hsa), ← hfm m hsa, ← hfm mb hsm]
        exact ⟨fun q => (Conn.one _ _).trans (q.trans (Conn.one _ _).symm), fun q => (Conn.one _ _).symm.trans (q.trans (Conn.one _ _))⟩
      by_cases hq : Conn (frot L) (tw m) (tw mb)
      · have hk := hT1.cls_parts (tw_lt (h.toWF.bdS hsm)) hx hne (hiff.2 hq) (hmem _ (tw_lt (h.toWF.bdS hsm))) (hmem _ hx)
        rw [← hf2] at hk
        exact Or.inl ⟨hsame.2 hq, by omega⟩
      · have hk := hT1.cls_joins hx hne (fun q => hq (hiff.1 q)) (hmem _ (tw_lt (h.toWF.bdS hsm))) (hmem _ hx)
        rw [← hf2] at hk
        exact Or.inr ⟨fun q => hq (hsame.1 q), by omega⟩
theorem splits (h : Good E L) {e : Nat} (he : e < E) (hn : ¬ Stands L (2 * e)) {a b : Int × Int} (ha : chkErr L a.1 a.2 = 0) (hb : chkErr L b.1 b.2 = 0) (h' : Good E (layL L e a b)) :
    (sameC L E a b → (faces (layL L e a b) E).length + emp (layL L e a b) = (faces L E).length + emp L + 1) ∧
    (¬ sameC L E a b → (faces (layL L e a b) E).length + emp (layL L e a b) + 1 = (faces L E).length + emp L) := by
  have hf : freeN E L = freeN E (layL L e a b) + 1 := by
    refine cnt_less (x := 2 * e) (by omega) ⟨hn, by omega⟩ fun d hd => ?_
    rw [lay_stands ha hb]
    constructor
    · rintro ⟨h1, h2⟩
      exact ⟨⟨fun q => h1 (Or.inr q), h2⟩, fun q => h1 (Or.inl (by omega))⟩
    · rintro ⟨⟨h1, h2⟩, h3⟩
      refine ⟨?_, h2⟩
      rintro (q | q)
      · omega
      · exact h1 q
  have h1 := cls_faces h
  have h2 := cls_faces h'
  rcases split_cls h he hn ha hb with ⟨hs, hc⟩ | ⟨hs, hc⟩
  · exact ⟨fun _ => by omega, fun q => absurd hs q⟩
  · exact ⟨fun q => absurd q hs, fun _ => by omega⟩
end
/-- Of each member its group's least one. -/
structure GOk (n : Nat) (g : List Nat) : Prop where
  len : g.length = n
  le : ∀ v, v < n → g.getD v 0 ≤ v
  fix : ∀ v, v < n → g.getD (g.getD v 0) 0 = g.getD v 0
/-- Each alone. -/
def aloneG (n : Nat) : List Nat := List.range n
/-- Two groups made one. -/
def joinG (g : List Nat) (a b : Nat) : List Nat := if g.getD a 0 = g.getD b 0 then g else g.map fun x => if x = max (g.getD a 0) (g.getD b 0) then min (g.getD a 0) (g.getD b 0) else x
theorem getD_map {f : Nat → Nat} {l : List Nat} {i : Nat} (hi : i < l.length) : (l.map f).getD i 0 = f (l.getD i 0) := by
  rw [List.getD_eq_getElem?_getD, List.getD_eq_getElem?_getD, List.getElem?_map, List.getElem?_eq_getElem hi]; rfl
theorem alone_get {n v : Nat} (h : v < n) : (aloneG n).getD v 0 = v := by unfold aloneG; rw [List.getD_eq_getElem?_getD, List.getElem?_range h]; rfl
theorem alone_ok (n : Nat) : GOk n (aloneG n) := ⟨by simp [aloneG], fun v h => by rw [alone_get h]; exact Nat.le_refl _, fun v h => by rw [alone_get h, alone_get h]⟩
theorem join_length (g : List Nat) (a b : Nat) : (joinG g a b).length = g.length := by unfold joinG; split <;> simp
section
variable {n : Nat} {g : List Nat}
theorem GOk.lt (h : GOk n g) {v : Nat} (hv : v < n) : g.getD v 0 < n := Nat.lt_of_le_of_lt (h.le v hv) hv
theorem join_get (h : GOk n g) {a b : Nat} {v : Nat} (hv : v < n) : (joinG g a b).getD v 0 = if g.getD v 0 = g.getD a 0 ∨ g.getD v 0 = g.getD b 0 then min (g.getD a 0) (g.getD b 0) else g.getD v 0 := by
  unfold joinG
  by_cases e : g.getD a 0 = g.getD b 0
  · rw [if_pos e]
    split
    · rename_i q
      rw [e] at q ⊢
      rw [Nat.min_self]
      omega
    · rfl
  · rw [if_neg e, getD_map (by rw [h.len]; exact hv)]
    by_cases q : g.getD v 0 = g.getD a 0 ∨ g.getD v 0 = g.getD b 0
    · rw [if_pos q]
      split
      · rfl
      · omega
    · rw [if_neg q, if_neg (by omega)]
theorem join_ok (h : GOk n g) {a b : Nat} (ha : a < n) (hb : b < n) : GOk n (joinG g a b) := by
  have hmn : min (g.getD a 0) (g.getD b 0) < n := Nat.lt_of_le_of_lt (Nat.min_le_left _ _) (h.lt ha)
  have hfm : g.getD (min (g.getD a 0) (g.getD b 0)) 0 = min (g.getD a 0) (g.getD b 0) := by
    rcases Nat.le_total (g.getD a 0) (g.getD b 0) with q | q
    · rw [Nat.min_eq_left q, h.fix a ha]
    · rw [Nat.min_eq_right q, h.fix b hb]
  refine ⟨by rw [join_length]; exact h.len, fun v hv => ?_, fun v hv => ?_⟩
  · rw [join_get h hv]
    have := h.le v hv
    split
    · omega
    · exact this
  · rw [join_get h hv]
    by_cases q : g.getD v 0 = g.getD a 0 ∨ g.getD v 0 = g.getD b 0
    · rw [if_pos q, join_get h hmn, hfm]
      split
      · rfl
      · omega
    · rw [if_neg q, join_get h (h.lt hv), h.fix v hv, if_neg q]
theorem join_same (h : GOk n g) {a b u v : Nat} (hu : u < n) (hv : v < n) : (joinG g a b).getD u 0 = (joinG g a b).getD v 0 ↔ g.getD u 0 = g.getD v 0 ∨ (g.getD u 0 = g.getD a 0 ∨ g.getD u 0 = g.getD b 0) ∧ (g.getD v 0 = g.getD a 0 ∨ g.getD v 0 = g.getD b 0) := by
  rw [join_get h hu, join_get h hv]
  split <;> split <;> omega
end
/-- Trees that tell groups: above, sizes, least ones. -/
structure URel (n : Nat) (A S T g : List Nat) (rt hgt : Nat → Nat) (H : Nat) : Prop where
  la : A.length = n
  ls : S.length = n
  lt : T.length = n
  ok : GOk n g
  up : ∀ v, v < n → A.getD v 0 < n
  rlt : ∀ v, v < n → rt v < n
  top : ∀ v, v < n → A.getD (rt v) 0 = rt v
  self : ∀ v, v < n → A.getD v 0 = v → rt v = v
  step : ∀ v, v < n → A.getD v 0 ≠ v → rt (A.getD v 0) = rt v ∧ hgt v < hgt (A.getD v 0)
  bound : ∀ v, v < n → hgt v ≤ H
  same : ∀ u v, u < n → v < n → (rt u = rt v ↔ g.getD u 0 = g.getD v 0)
  least : ∀ v, v < n → T.getD (rt v) 0 = g.getD v 0
  size : ∀ v, v < n → S.getD (rt v) 0 = cnt (fun u => rt u = rt v) n
section
variable {n : Nat} {A S T g : List Nat} {rt hgt : Nat → Nat} {H : Nat}
theorem URel.root (h : URel n A S T g rt hgt H) {v : Nat} (hv : v < n) : rt (rt v) = rt v := h.self _ (h.rlt v hv) (h.top v hv)
theorem cnt_one {n x : Nat} (hx : x < n) : cnt (fun u => u = x) n = 1 := by
  have h0 : ∀ n, cnt (fun _ => False) n = 0 := by
    intro n
    induction n with
    | zero => rfl
    | succ n ih => rw [cnt, ih, if_neg id]
  have := cnt_less (P := fun u => u = x) (Q := fun _ => False) hx rfl (fun d _ => ⟨fun q => q.elim, fun q => q.2 q.1⟩)
  rw [this, h0]
theorem cnt_top (P : Nat → Prop) : ∀ n, cnt P n ≤ n
  | 0 => Nat.le_refl _
  | n + 1 => by
    have := cnt_top P n
    rw [cnt]
    split <;> omega
theorem cnt_pos {P : Nat → Prop} {n x : Nat} (hx : x < n) (hp : P x) : 1 ≤ cnt P n := by
  have := cnt_less (P := P) (Q := fun d => P d ∧ d ≠ x) hx hp (fun d _ => Iff.rfl)
  omega
theorem URel.alone (n : Nat) : URel n (List.range n) (List.replicate n 1) (List.range n) (aloneG n) id (fun _ => 0) 0 := by
  have hr : ∀ v, v < n → (List.range n).getD v 0 = v := fun v h => alone_get h
  refine ⟨by simp, by simp, by simp, alone_ok n, fun v hv => by rw [hr v hv]; exact hv, fun v hv => hv, fun v hv => hr v hv, fun v hv _ => rfl, fun v hv q => absurd (hr v hv) q, fun v hv => Nat.le_refl _, fun u v hu hv => ?_, fun v hv => ?_, fun v hv => ?_⟩
  · rw [alone_get hu, alone_get hv]; exact Iff.rfl
  · rw [alone_get hv]; exact hr v hv
  · show (List.replicate n 1).getD v 0 = cnt (fun u => u = v) n
    rw [cnt_one hv, List.getD_eq_getElem?_getD, List.getElem?_replicate, if_pos hv]; rfl
theorem getD_set (l : List Nat) (x y v : Nat) (hx : x < l.length) : (l.set x y).getD v 0 = if v = x then y else l.getD v 0 := by
  rw [List.getD_eq_getElem?_getD, List.getD_eq_getElem?_getD, set_get hx]
  split <;> rfl
theorem URel.sum (h : URel n A S T g rt hgt H) {a b : Nat} (ha : a < n) (hb : b < n) (hne : rt a ≠ rt b) : S.getD (rt a) 0 + S.getD (rt b) 0 ≤ n ∧ 1 ≤ S.getD (rt a) 0 ∧ 1 ≤ S.getD (rt b) 0 := by
  rw [h.size a ha, h.size b hb, ← cnt_or]
  · exact ⟨cnt_top _ _, cnt_pos ha rfl, cnt_pos hb rfl⟩
  · rintro d _ ⟨h1, h2⟩
    exact hne (h1.symm.trans h2)
/-- One tree laid beneath another one. -/
theorem URel.join (h : URel n A S T g rt hgt H) {a b : Nat} (ha : a < n) (hb : b < n) (hne : rt a ≠ rt b) :
    URel n (A.set (rt a) (rt b)) (S.set (rt b) (S.getD (rt b) 0 + S.getD (rt a) 0)) (T.set (rt b) (min (T.getD (rt b) 0) (T.getD (rt a) 0))) (joinG g a b) (fun v => if rt v = rt a then rt b else rt v) (fun v => if rt v = rt b then hgt v + H + 1 else hgt v) (2 * H + 1) := by
  have hra := h.rlt a ha
  have hrb := h.rlt b hb
  have gA := fun v => getD_set A (rt a) (rt b) v (by rw [h.la]; exact hra)
  have gS := fun v => getD_set S (rt b) (S.getD (rt b) 0 + S.getD (rt a) 0) v (by rw [h.ls]; exact hrb)
  have gT := fun v => getD_set T (rt b) (min (T.getD (rt b) 0) (T.getD (rt a) 0)) v (by rw [h.lt]; exact hrb)
  have raa := h.root ha
  have rbb := h.root hb
  refine ⟨by rw [List.length_set]; exact h.la, by rw [List.length_set]; exact h.ls, by rw [List.length_set]; exact h.lt, join_ok h.ok ha hb, fun v hv => ?_, fun v hv => ?_, fun v hv => ?_, fun v hv q => ?_, fun v hv q => ?_, fun v hv => ?_, fun u v hu hv => ?_, fun v hv => ?_, fun v hv => ?_⟩
  · rw [gA]; split
    · exact hrb
    · exact h.up v hv
  · show (if rt v = rt a then rt b else rt v) < n
    split
    · exact hrb
    · exact h.rlt v hv
  · show (A.set (rt a) (rt b)).getD (if rt v = rt a then rt b else rt v) 0 = if rt v = rt a then rt b else rt v
    rw [gA]
    by_cases e : rt v = rt a
    · rw [if_pos e, if_neg (Ne.symm hne), h.top b hb]
    · rw [if_neg e, if_neg e, h.top v hv]
  · show (if rt v = rt a then rt b else rt v) = v
    rw [gA] at q
    by_cases e : v = rt a
    · rw [if_pos e] at q
      exact absurd (e.symm.trans q.symm) hne
    · rw [if_neg e] at q
      have := h.self v hv q
      rw [if_neg (by rw [this]; exact e), this]
  · rw [gA] at q
    rw [gA]
    by_cases e : v = rt a
    · subst e
      rw [if_pos rfl]
      show (if rt (rt b) = rt a then rt b else rt (rt b)) = (if rt (rt a) = rt a then rt b else rt (rt a)) ∧ (if rt (rt a) = rt b then hgt (rt a) + H + 1 else hgt (rt a)) < (if rt (rt b) = rt b then hgt (rt b) + H + 1 else hgt (rt b))
      rw [rbb, raa, if_neg (Ne.symm hne), if_pos rfl, if_neg hne, if_pos rfl]
      have := h.bound _ hra
      exact ⟨rfl, by omega⟩
    · rw [if_neg e] at q ⊢
      obtain ⟨h1, h2⟩ := h.step v hv q
      show (if rt (A.getD v 0) = rt a then rt b else rt (A.getD v 0)) = (if rt v = rt a then rt b else rt v) ∧ (if rt v = rt b then hgt v + H + 1 else hgt v) < (if rt (A.getD v 0) = rt b then hgt (A.getD v 0) + H + 1 else hgt (A.getD v 0))
      rw [h1]
      refine ⟨rfl, ?_⟩
      split <;> omega
  · show (if rt v = rt b then hgt v + H + 1 else hgt v) ≤ 2 * H + 1
    have := h.bound v hv
    split <;> omega
  · show (if rt u = rt a then rt b else rt u) = (if rt v = rt a then rt b else rt v) ↔ _
    rw [join_same h.ok hu hv, ← h.same u v hu hv, ← h.same u a hu ha, ← h.same u b hu hb, ← h.same v a hv ha, ← h.same v b hv hb]
    by_cases e1 : rt u = rt a <;> by_cases e2 : rt v = rt a
    · rw [if_pos e1, if_pos e2]; exact ⟨fun _ => Or.inl (e1.trans e2.symm), fun _ => rfl⟩
    · rw [if_pos e1, if_neg e2]
      constructor
      · intro q; exact Or.inr ⟨Or.inl e1, Or.inr q.symm⟩
      · rintro (q | ⟨_, q | q⟩)
        · exact absurd (q.symm.trans e1) e2
        · exact absurd q e2
        · exact q.symm
    · rw [if_neg e1, if_pos e2]
      constructor
      · intro q; exact Or.inr ⟨Or.inr q, Or.inl e2⟩
      · rintro (q | ⟨q | q, _⟩)
        · exact absurd (q.trans e2) e1
        · exact absurd q e1
        · exact q
    · rw [if_neg e1, if_neg e2]
      constructor
      · intro q; exact Or.inl q
      · rintro (q | ⟨q1 | q1, q2 | q2⟩)
        · exact q
        · exact absurd q1 e1
        · exact absurd q1 e1
        · exact absurd q2 e2
        · exact q1.trans q2.symm
  · show (T.set (rt b) (min (T.getD (rt b) 0) (T.getD (rt a) 0))).getD (if rt v = rt a then rt b else rt v) 0 = _
    rw [gT, join_get h.ok hv]
    have sa := h.same v a hv ha
    have sb := h.same v b hv hb
    by_cases e1 : rt v = rt a
    · rw [if_pos e1, if_pos rfl, if_pos (Or.inl (sa.1 e1)), h.least a ha, h.least b hb, Nat.min_comm]
    · rw [if_neg e1]
      by_cases e2 : rt v = rt b
      · rw [if_pos e2, if_pos (Or.inr (sb.1 e2)), h.least a ha, h.least b hb, Nat.min_comm]
      · rw [if_neg e2, if_neg (fun q => q.elim (fun q => e1 (sa.2 q)) (fun q => e2 (sb.2 q))), h.least v hv]
  · show (S.set (rt b) (S.getD (rt b) 0 + S.getD (rt a) 0)).getD (if rt v = rt a then rt b else rt v) 0 = cnt (fun u => (if rt u = rt a then rt b else rt u) = (if rt v = rt a then rt b else rt v)) n
    rw [gS]
    have hAB : cnt (fun u => (if rt u = rt a then rt b else rt u) = rt b) n = S.getD (rt b) 0 + S.getD (rt a) 0 := by
      rw [h.size a ha, h.size b hb, ← cnt_or (by rintro d _ ⟨h1, h2⟩; exact hne (h2.symm.trans h1))]
      refine cnt_congr fun d _ => ?_
      by_cases e : rt d = rt a
      · rw [if_pos e]; exact ⟨fun _ => Or.inr e, fun _ => rfl⟩
      · rw [if_neg e]; exact ⟨fun q => Or.inl q, fun q => q.resolve_right e⟩
    by_cases e1 : rt v = rt a
    · simp only [if_pos e1, if_true]
      exact hAB.symm
    · simp only [if_neg e1]
      by_cases e2 : rt v = rt b
      · rw [if_pos e2, e2]
        exact hAB.symm
      · rw [if_neg e2, h.size v hv]
        refine cnt_congr fun d _ => ?_
        by_cases e : rt d = rt a
        · rw [if_pos e]; exact ⟨fun q => absurd (q.symm.trans e) e1, fun q => absurd q.symm e2⟩
        · rw [if_neg e]
end
theorem join_comm {n : Nat} {g : List Nat} (h : GOk n g) (a b : Nat) : joinG g a b = joinG g b a := by
  apply List.ext_getElem?
  intro v
  by_cases hv : v < n
  · have h1 := join_get h (a := a) (b := b) hv
    have h2 := join_get h (a := b) (b := a) hv
    have e : (joinG g a b).getD v 0 = (joinG g b a).getD v 0 := by rw [h1, h2, Nat.min_comm]; simp only [or_comm]
    rw [List.getD_eq_getElem?_getD, List.getD_eq_getElem?_getD] at e
    rw [List.getElem?_eq_getElem (by rw [join_length, h.len]; exact hv), List.getElem?_eq_getElem (by rw [join_length, h.len]; exact hv)] at e ⊢
    simpa using e
  · rw [List.getElem?_eq_none (by rw [join_length, h.len]; omega), List.getElem?_eq_none (by rw [join_length, h.len]; omega)]
end Go.Proofs.YtdplphhlclhmfaaDoor
