/- Plain: a depth-first walk that finds the bridges. -/
import Derived.Test.YtdplphhlclhmfaaDoorSpT
namespace Go.Proofs.YtdplphhlclhmfaaDoor
open Go Go.RowKit
set_option linter.unusedVariables false
set_option linter.unusedSimpArgs false

/-- Where a dart leads to. -/
def De (L : List (List Nat)) (d : Nat) : Nat := vtx L (tw d)
theorem De_tw (L : List (List Nat)) (d : Nat) : De L (tw d) = vtx L d := by unfold De; rw [tw_tw]
/-- Roads over darts of a kind. -/
inductive HangD (L : List (List Nat)) (R : Nat → Prop) : Nat → Nat → Prop
  | refl (v : Nat) : HangD L R v v
  | step {u : Nat} (d : Nat) : Stands L d → R d → HangD L R u (vtx L d) → HangD L R u (De L d)
section
variable {L : List (List Nat)} {R Q : Nat → Prop} {E : Nat}
theorem HangD.mono {u v : Nat} (k : HangD L R u v) (h : ∀ d, Stands L d → R d → Q d) : HangD L Q u v := by
  induction k with
  | refl => exact .refl _
  | step d hs hr _ ih => exact .step d hs (h d hs hr) ih
theorem HangD.trans {u v x : Nat} (h : HangD L R u v) (k : HangD L R v x) : HangD L R u x := by
  induction k with
  | refl => exact h
  | step d hs hr _ ih => exact .step d hs hr ih
theorem HangD.symm (hg : Good E L) (hr : ∀ d, R d → R (tw d)) {u v : Nat} (h : HangD L R u v) : HangD L R v u := by
  induction h with
  | refl => exact .refl _
  | step d hs hd _ ih =>
    have h1 : HangD L R (vtx L (tw d)) (vtx L d) := by
      have := HangD.step (L := L) (R := R) (u := vtx L (tw d)) (tw d) (hg.twin _ hs) (hr d hd) (.refl _)
      rwa [De_tw] at this
    exact h1.trans ih
/-- A place on the road. -/
structure Pl where
  v : Nat
  bd : Int
  left : List Nat
def On (road : List Pl) (x : Nat) : Prop := ∃ p ∈ road, p.v = x
def Chain (L : List (List Nat)) (num : Nat → Nat) (rt : Nat) : List Pl → Prop
  | [] => True
  | [p] => p.bd = -1 ∧ num p.v = rt
  | p :: q :: r => (∃ d : Nat, p.bd = d ∧ Stands L d ∧ vtx L d = q.v ∧ De L d = p.v) ∧ num q.v < num p.v ∧ Chain L num rt (q :: r)
theorem Chain.top {num : Nat → Nat} {rt : Nat} : ∀ {r : List Pl} {p : Pl}, Chain L num rt (p :: r) → ∀ q ∈ r, num q.v < num p.v
  | [], _, _, q, hq => by cases hq
  | q0 :: r, p, h, q, hq => by
    rcases List.mem_cons.1 hq with e | hq
    · rw [e]; exact h.2.1
    · exact Nat.lt_trans (Chain.top h.2.2 q hq) h.2.1
structure DInv (L : List (List Nat)) (num low : Nat → Nat) (met : Nat) (br : List Nat) (road : List Pl) (par : Nat → Int) (tr : Nat → Nat) (rt : Nat) : Prop where
  lt : ∀ x, num x ≠ 0 → x < L.length
  le : ∀ x, num x ≤ met
  inj : ∀ x y, num x ≠ 0 → num x = num y → x = y
  on : ∀ p ∈ road, num p.v ≠ 0 ∧ rt ≤ num p.v ∧ p.bd = par p.v ∧ ∀ d, d ∈ p.left → Stands L d ∧ vtx L d = p.v
  chain : Chain L num rt road
  cur : ∀ x, num x ≠ 0 → (rt ≤ num x ↔ tr x = rt)
  trle : ∀ x, num x ≠ 0 → tr x ≤ num x
  parD : ∀ x, num x ≠ 0 → par x = -1 ∨ ∃ d : Nat, par x = d ∧ Stands L d ∧ De L d = x ∧ num (vtx L d) ≠ 0 ∧ num (vtx L d) < num x
  fin : ∀ x, num x ≠ 0 → ¬ On road x → ∀ d, Stands L d → vtx L d = x → num (De L d) ≠ 0 ∧ tr (De L d) = tr x
  pro : ∀ p ∈ road, ∀ d, Stands L d → vtx L d = p.v → d ∉ p.left → num (De L d) ≠ 0 ∧ rt ≤ num (De L d)
  low0 : ∀ x, num x ≠ 0 → ¬ On road x → True
  I : ∀ p ∈ road, ∀ x, num x ≠ 0 → ¬ On road x → num x < num p.v → ∀ d, Stands L d → vtx L d = x → num (De L d) < num p.v
  D : ∀ p ∈ road, ∀ x, num p.v < num x → ∃ d : Nat, par x = d ∧ num p.v ≤ num (vtx L d)
  L0 : ∀ p ∈ road, low p.v ≤ num p.v
  L1 : ∀ p ∈ road, ∀ x, num p.v ≤ num x → (∀ q ∈ road, num p.v < num q.v → num x < num q.v) → ∀ d, Stands L d → vtx L d = x → (x = p.v → d ∉ p.left) → (∀ e : Nat, par x = e → d ≠ tw e) → low p.v ≤ num (De L d)
  L2 : ∀ p ∈ road, low p.v = num p.v ∨ ∃ d, HangD L (fun d => num p.v ≤ num (vtx L d) ∧ num p.v ≤ num (De L d)) p.v (vtx L d) ∧ num p.v ≤ num (vtx L d) ∧ Stands L d ∧ (∀ e : Nat, p.bd = e → d / 2 ≠ e / 2) ∧ num (De L d) = low p.v ∧ num (De L d) ≠ 0 ∧ rt ≤ num (De L d)
  T : ∀ p ∈ road, ∀ e : Nat, p.bd = e → ∀ x y, num x ≠ 0 → rt ≤ num x → num x < num p.v → num y ≠ 0 → rt ≤ num y → num y < num p.v → HangD L (fun d => d / 2 ≠ e / 2) x y
  T0 : ∀ x y, num x ≠ 0 → num y ≠ 0 → tr x = tr y → HangD L (fun d => ∃ z, num z ≠ 0 ∧ ∃ e : Nat, par z = e ∧ d / 2 = e / 2) x y
  B : ∀ x, num x ≠ 0 → ¬ On road x → ∀ e : Nat, par x = e → (e / 2 ∈ br ↔ ¬ HangD L (fun d => d / 2 ≠ e / 2) (vtx L e) x)
  Bs : ∀ f ∈ br, ∃ x, num x ≠ 0 ∧ ¬ On road x ∧ ∃ e : Nat, par x = e ∧ f = e / 2
  Bn : br.Nodup
def upd (f : Nat → Nat) (x y : Nat) : Nat → Nat := fun z => if z = x then y else f z
theorem upd_same (f : Nat → Nat) (x y : Nat) : upd f x y x = y := if_pos rfl
theorem upd_other (f : Nat → Nat) {x z : Nat} (y : Nat) (h : z ≠ x) : upd f x y z = f z := if_neg h
section
variable {num low : Nat → Nat} {met rt : Nat} {br : List Nat} {road : List Pl} {par : Nat → Int} {tr : Nat → Nat}
theorem half_two {d e : Nat} (h : d / 2 = e / 2) : d = e ∨ d = tw e := by unfold tw; split <;> omega
theorem tw_half (d : Nat) : tw d / 2 = d / 2 := tw_div d
/-- Tree edges tell their lower ends. -/
theorem DInv.parInj (h : DInv L num low met br road par tr rt) {x y e f : Nat} (hx : num x ≠ 0) (hy : num y ≠ 0) (he : par x = (e : Int)) (hf : par y = (f : Int)) (q : e / 2 = f / 2) : x = y := by
  rcases h.parD x hx with k | ⟨d, k1, k2, k3, k4, k5⟩
  · omega
  · rcases h.parD y hy with k | ⟨d', j1, j2, j3, j4, j5⟩
    · omega
    · have e1 : d = e := by omega
      have e2 : d' = f := by omega
      subst e1 e2
      rcases half_two q with rfl | q
      · rw [← k3, ← j3]
      · exfalso
        have h1 : De L d = vtx L d' := by rw [q, De_tw]
        have h2 : vtx L d = De L d' := by rw [q]; rfl
        rw [k3] at h1
        rw [j3] at h2
        rw [← h1] at j5
        rw [h2] at k5
        omega
/-- A dart of a stack's place that leads to what is met leads into this tree. -/
theorem DInv.into (h : DInv L num low met br road par tr rt) (hg : Good E L) {p : Pl} (hp : p ∈ road) {d : Nat} (hs : Stands L d) (hv : vtx L d = p.v) (hy : num (De L d) ≠ 0) : rt ≤ num (De L d) := by
  obtain ⟨n1, n2, _, _⟩ := h.on p hp
  by_cases ho : On road (De L d)
  · obtain ⟨q, hq, e⟩ := ho
    rw [← e]
    exact (h.on q hq).2.1
  · have := (h.fin _ hy ho (tw d) (hg.twin _ hs) rfl).2
    rw [De_tw, hv, (h.cur p.v n1).1 n2] at this
    exact (h.cur _ hy).2 this.symm
theorem DInv.below {p : Pl} (h : DInv L num low met br (p :: road) par tr rt) {q : Pl} (hq : q ∈ road) : num q.v < num p.v := h.chain.top q hq
/-- The top's next dart leads to what is met. -/
theorem DInv.eat {v : Nat} {bd : Int} {d : Nat} {l : List Nat} (h : DInv L num low met br (⟨v, bd, d :: l⟩ :: road) par tr rt) (hg : Good E L) (hy : num (De L d) ≠ 0) {lv : Nat} (hlv : lv ≤ low v)
    (hA : (∀ e : Nat, bd = e → d ≠ tw e) → lv ≤ num (De L d)) (hB : lv = low v ∨ lv = num (De L d) ∧ ∀ e : Nat, bd = e → d ≠ tw e) :
    DInv L num (upd low v lv) met br (⟨v, bd, l⟩ :: road) par tr rt := by
  have hon : ∀ x, On (⟨v, bd, l⟩ :: road) x ↔ On (⟨v, bd, d :: l⟩ :: road) x := fun x => by
    unfold On
    simp only [List.mem_cons, exists_eq_or_imp]
  obtain ⟨n1, n2, n3, n4⟩ := h.on _ (List.mem_cons_self ..)
  simp only at n1 n2 n3 n4
  obtain ⟨hds, hdv⟩ := n4 d (List.mem_cons_self ..)
  have hin := h.into hg (List.mem_cons_self ..) hds hdv hy
  have hne : ∀ q ∈ road, q.v ≠ v := fun q hq e => by
    have := h.below hq
    simp only [e] at this
    omega
  have hlo : ∀ q ∈ road, upd low v lv q.v = low q.v := fun q hq => upd_other _ _ (hne q hq)
  have hq1 : ∀ {k x : Nat}, (∀ q ∈ (⟨v, bd, l⟩ :: road : List Pl), k < num q.v → num x < num q.v) → ∀ q ∈ (⟨v, bd, d :: l⟩ :: road : List Pl), k < num q.v → num x < num q.v := fun hq q hm => by
    rcases List.mem_cons.1 hm with e | hm
    · rw [e]; exact hq ⟨v, bd, l⟩ (List.mem_cons_self ..)
    · exact hq q (List.mem_cons_of_mem _ hm)
  have hch : Chain L num rt (⟨v, bd, l⟩ :: road) := by
    have := h.chain
    cases road with
    | nil => exact this
    | cons q r => exact this
  refine ⟨h.lt, h.le, h.inj, ?_, hch, h.cur, h.trle, h.parD, fun x hx ho => h.fin x hx (fun q => ho ((hon x).2 q)), ?_, fun _ _ _ => trivial, ?_, ?_, ?_, ?_, ?_, ?_, h.T0, fun x hx ho => h.B x hx (fun q => ho ((hon x).2 q)), fun f hf => ?_, h.Bn⟩
  · intro p hp
    rcases List.mem_cons.1 hp with e | hp
    · rw [e]
      exact ⟨n1, n2, n3, fun d' hd' => n4 d' (List.mem_cons_of_mem _ hd')⟩
    · exact h.on p (List.mem_cons_of_mem _ hp)
  · intro p hp d' hs hv hn
    rcases List.mem_cons.1 hp with e | hp
    · rw [e] at hv hn
      simp only at hv hn
      by_cases hd : d' = d
      · rw [hd]; exact ⟨hy, hin⟩
      · exact h.pro _ (List.mem_cons_self ..) d' hs hv (fun q => (List.mem_cons.1 q).elim hd hn)
    · exact h.pro p (List.mem_cons_of_mem _ hp) d' hs hv hn
  · intro p hp x hx ho
    rcases List.mem_cons.1 hp with e | hp
    · rw [e]; exact h.I _ (List.mem_cons_self ..) x hx (fun q => ho ((hon x).2 q))
    · exact h.I p (List.mem_cons_of_mem _ hp) x hx (fun q => ho ((hon x).2 q))
  · intro p hp x
    rcases List.mem_cons.1 hp with e | hp
    · rw [e]; exact h.D _ (List.mem_cons_self ..) x
    · exact h.D p (List.mem_cons_of_mem _ hp) x
  · intro p hp
    rcases List.mem_cons.1 hp with e | hp
    · rw [e]
      simp only [upd_same]
      have := h.L0 _ (List.mem_cons_self ..)
      simp only at this
      omega
    · rw [hlo p hp]; exact h.L0 p (List.mem_cons_of_mem _ hp)
  · intro p hp x hx hq d' hs hv hl hpar
    rcases List.mem_cons.1 hp with e | hp
    · rw [e] at hx hq hl ⊢
      simp only at hx hq hl
      simp only [upd_same]
      by_cases hd : d' = d ∧ x = v
      · obtain ⟨rfl, rfl⟩ := hd
        exact hA fun e' he' => hpar e' (by rw [← n3]; exact he')
      · have := h.L1 _ (List.mem_cons_self ..) x hx (hq1 hq) d' hs hv (fun e' q => (List.mem_cons.1 q).elim (fun z => hd ⟨z, e'⟩) (hl e')) hpar
        simp only at this
        omega
    · rw [hlo p hp]
      refine h.L1 p (List.mem_cons_of_mem _ hp) x hx (hq1 hq) d' hs hv hl hpar
  · intro p hp
    rcases List.mem_cons.1 hp with e | hp
    · rw [e]
      simp only [upd_same]
      rcases hB with hB | ⟨hB1, hB2⟩
      · rw [hB]; exact h.L2 _ (List.mem_cons_self ..)
      · refine Or.inr ⟨d, ?_, ?_, hds, fun e' he' q => ?_, hB1.symm, hy, hin⟩
        · rw [hdv]; exact .refl _
        · rw [hdv]; exact Nat.le_refl _
        · rcases half_two q with q | q
          · rcases h.parD v n1 with k | ⟨f, k1, k2, k3, k4, k5⟩
            · rw [n3, k] at he'; omega
            · have : f = e' := by rw [n3, k1] at he'; omega
              subst this
              rw [← q, hdv] at k5
              omega
          · exact hB2 e' he' q
    · rw [hlo p hp]; exact h.L2 p (List.mem_cons_of_mem _ hp)
  · intro p hp
    rcases List.mem_cons.1 hp with e | hp
    · rw [e]; exact h.T ⟨v, bd, d :: l⟩ (List.mem_cons_self ..)
    · exact h.T p (List.mem_cons_of_mem _ hp)
  · obtain ⟨x, h1, h2, h3⟩ := h.Bs f hf
    exact ⟨x, h1, fun q => h2 ((hon x).1 q), h3⟩
/-- A vertex met by the top's next dart. -/
theorem DInv.push {v : Nat} {bd : Int} {d : Nat} {l : List Nat} (h : DInv L num low met br (⟨v, bd, d :: l⟩ :: road) par tr rt) (hg : Good E L) (hy : num (De L d) = 0) {al : List Nat} (hal : ∀ d', d' ∈ al ↔ Stands L d' ∧ vtx L d' = De L d) :
    DInv L (upd num (De L d) (met + 1)) (upd low (De L d) (met + 1)) (met + 1) br (⟨De L d, (d : Int), al⟩ :: ⟨v, bd, l⟩ :: road) (fun z => if z = De L d then (d : Int) else par z) (upd tr (De L d) rt) rt := by
  obtain ⟨n1, n2, n3, n4⟩ := h.on _ (List.mem_cons_self ..)
  simp only at n1 n2 n3 n4
  obtain ⟨hds, hdv⟩ := n4 d (List.mem_cons_self ..)
  have hyl : De L d < L.length := hg.toWF.vtx_lt (hg.twin _ hds)
  generalize hY : De L d = y at *
  have num_y : upd num y (met + 1) y = met + 1 := upd_same _ _ _
  have num_o : ∀ x, x ≠ y → upd num y (met + 1) x = num x := fun x hx => upd_other _ _ hx
  have ne_y : ∀ x, num x ≠ 0 → x ≠ y := fun x hx e => hx (e ▸ hy)
  have hvy : v ≠ y := ne_y v n1
  have num_pos : ∀ x, x ≠ y → upd num y (met + 1) x ≠ 0 → num x ≠ 0 := fun x hx q => by rwa [num_o x hx] at q
  have hry : ∀ q ∈ road, q.v ≠ y := fun q hq => ne_y _ (h.on q (List.mem_cons_of_mem _ hq)).1
  have hon : ∀ x, On (⟨y, (d : Int), al⟩ :: ⟨v, bd, l⟩ :: road) x ↔ x = y ∨ On (⟨v, bd, d :: l⟩ :: road) x := fun x => by
    unfold On
    simp only [List.mem_cons, exists_eq_or_imp]
    constructor
    · rintro (q | q)
      · exact Or.inl q.symm
      · exact Or.inr q
    · rintro (q | q)
      · exact Or.inl q.symm
      · exact Or.inr q
  have hfin : ∀ x, upd num y (met + 1) x ≠ 0 → ¬ On (⟨y, (d : Int), al⟩ :: ⟨v, bd, l⟩ :: road) x → x ≠ y ∧ num x ≠ 0 ∧ ¬ On (⟨v, bd, d :: l⟩ :: road) x := fun x hx ho => by
    have hxy : x ≠ y := fun e => ho ((hon x).2 (Or.inl e))
    exact ⟨hxy, num_pos x hxy hx, fun q => ho ((hon x).2 (Or.inr q))⟩
  have hrt : rt ≤ met + 1 := by have := h.le v; omega
  have hchain : Chain L (upd num y (met + 1)) rt (⟨v, bd, l⟩ :: road) := by
    have hc := h.chain
    have gen : ∀ (r : List Pl), (∀ q ∈ r, q.v ≠ y) → Chain L num rt r → Chain L (upd num y (met + 1)) rt r := by
      intro r
      induction r with
      | nil => intro _ _; trivial
      | cons p r ih =>
        intro hne hc
        cases r with
        | nil =>
          refine ⟨hc.1, ?_⟩
          rw [num_o _ (hne p (List.mem_cons_self ..))]
          exact hc.2
        | cons q r =>
          refine ⟨hc.1, ?_, ih (fun z hz => hne z (List.mem_cons_of_mem _ hz)) hc.2.2⟩
          rw [num_o _ (hne p (List.mem_cons_self ..)), num_o _ (hne q (List.mem_cons_of_mem _ (List.mem_cons_self ..)))]
          exact hc.2.1
    refine gen _ (fun q hq => ?_) (by cases road with
      | nil => exact hc
      | cons q r => exact hc)
    rcases List.mem_cons.1 hq with e | hq
    · rw [e]; exact hvy
    · exact hry q hq
  have old : ∀ p ∈ (⟨v, bd, l⟩ :: road : List Pl), ∃ p0 ∈ (⟨v, bd, d :: l⟩ :: road : List Pl), p0.v = p.v ∧ p0.bd = p.bd ∧ p.v ≠ y ∧ (∀ d', d' ∈ p.left → d' ∈ p0.left) ∧ ∀ d', d' ∈ p0.left → d' ∈ p.left ∨ d' = d ∧ p.v = v := fun p hp => by
    rcases List.mem_cons.1 hp with e | hp
    · subst e
      refine ⟨_, List.mem_cons_self .., rfl, rfl, hvy, fun d' hd' => List.mem_cons_of_mem _ hd', fun d' hd' => ?_⟩
      rcases List.mem_cons.1 hd' with q | q
      · exact Or.inr ⟨q, rfl⟩
      · exact Or.inl q
    · exact ⟨p, List.mem_cons_of_mem _ hp, rfl, rfl, hry p hp, fun _ q => q, fun _ q => Or.inl q⟩
  have hTE : ∀ d', (∃ z, num z ≠ 0 ∧ ∃ e : Nat, par z = e ∧ d' / 2 = e / 2) → d' / 2 ≠ d / 2 := by
    rintro d' ⟨z, hz, e, he, q⟩ k
    rcases h.parD z hz with j | ⟨f, j1, j2, j3, j4, j5⟩
    · omega
    · have : f = e := by omega
      subst this
      rcases half_two (k.symm.trans q) with e2 | e2
      · rw [← e2, hY] at j3
        rw [← j3, hy] at hz
        exact hz rfl
      · have : De L d = vtx L f := by rw [e2, De_tw]
        rw [hY] at this
        rw [← this] at j4
        exact j4 hy
  refine ⟨?_, ?_, ?_, ?_, ?_, ?_, ?_, ?_, ?_, ?_, fun _ _ _ => trivial, ?_, ?_, ?_, ?_, ?_, ?_, ?_, ?_, ?_, h.Bn⟩
  · -- lt
    intro x hx
    by_cases e : x = y
    · rw [e]; exact hyl
    · exact h.lt x (num_pos x e hx)
  · intro x
    by_cases e : x = y
    · rw [e, num_y]; exact Nat.le_refl _
    · rw [num_o x e]; have := h.le x; omega
  · intro x z hx hxz
    by_cases e : x = y
    · by_cases e2 : z = y
      · rw [e, e2]
      · rw [e, num_y, num_o z e2] at hxz
        have := h.le z
        omega
    · by_cases e2 : z = y
      · rw [e2, num_y, num_o x e] at hxz
        have := h.le x
        omega
      · rw [num_o x e, num_o z e2] at hxz
        exact h.inj x z (num_pos x e hx) hxz
  · -- on
    intro p hp
    rcases List.mem_cons.1 hp with e | hp
    · rw [e]
      simp only
      rw [num_y]
      refine ⟨by omega, hrt, by simp, fun d' hd' => (hal d').1 hd'⟩
    · obtain ⟨p0, hp0, e1, e2, e3, e4, e5⟩ := old p hp
      obtain ⟨m1, m2, m3, m4⟩ := h.on p0 hp0
      rw [e1] at m1 m2 m3 m4
      rw [num_o _ e3, if_neg e3, ← e2]
      exact ⟨m1, m2, m3, fun d' hd' => m4 d' (e4 d' hd')⟩
  · refine ⟨⟨d, rfl, hds, hdv, hY⟩, ?_, hchain⟩
    simp only
    rw [num_y, num_o v hvy]
    have := h.le v
    omega
  · -- cur
    intro x hx
    by_cases e : x = y
    · rw [e, num_y, upd_same]
      exact ⟨fun _ => rfl, fun _ => hrt⟩
    · rw [num_o x e, upd_other _ _ e]
      exact h.cur x (num_pos x e hx)
  · intro x hx
    by_cases e : x = y
    · rw [e, num_y, upd_same]; exact hrt
    · rw [num_o x e, upd_other _ _ e]
      exact h.trle x (num_pos x e hx)
  · -- parD
    intro x hx
    by_cases e : x = y
    · rw [if_pos e]
      refine Or.inr ⟨d, rfl, hds, by rw [hY, e], ?_, ?_⟩
      · rw [hdv, num_o v hvy]; exact n1
      · rw [hdv, num_o v hvy, e, num_y]; have := h.le v; omega
    · rw [if_neg e]
      rcases h.parD x (num_pos x e hx) with k | ⟨f, k1, k2, k3, k4, k5⟩
      · exact Or.inl k
      · refine Or.inr ⟨f, k1, k2, k3, ?_, ?_⟩
        · rw [num_o _ (ne_y _ k4)]; exact k4
        · rw [num_o _ (ne_y _ k4), num_o x e]; exact k5
  · -- fin
    intro x hx ho d' hs hv
    obtain ⟨e, hx0, ho0⟩ := hfin x hx ho
    obtain ⟨k1, k2⟩ := h.fin x hx0 ho0 d' hs hv
    rw [num_o _ (ne_y _ k1), upd_other _ _ (ne_y _ k1), upd_other _ _ e]
    exact ⟨k1, k2⟩
  · -- pro
    intro p hp d' hs hv hn
    rcases List.mem_cons.1 hp with e | hp
    · rw [e] at hv hn
      simp only at hv hn
      exact absurd ((hal d').2 ⟨hs, hv⟩) hn
    · obtain ⟨p0, hp0, e1, e2, e3, e4, e5⟩ := old p hp
      by_cases hd : d' ∈ p0.left
      · rcases e5 d' hd with q | ⟨q, _⟩
        · exact absurd q hn
        · rw [q, hY, num_y]; exact ⟨by omega, hrt⟩
      · obtain ⟨k1, k2⟩ := h.pro p0 hp0 d' hs (by rw [hv, e1]) hd
        rw [num_o _ (ne_y _ k1)]
        exact ⟨k1, k2⟩
  · -- I
    intro p hp x hx ho hlt d' hs hv
    obtain ⟨e, hx0, ho0⟩ := hfin x hx ho
    have k1 := (h.fin x hx0 ho0 d' hs hv).1
    rw [num_o _ (ne_y _ k1)]
    rcases List.mem_cons.1 hp with e0 | hp
    · rw [e0]
      simp only
      rw [num_y]
      have := h.le (De L d')
      omega
    · obtain ⟨p0, hp0, e1, e2, e3, e4, e5⟩ := old p hp
      rw [num_o _ e3, ← e1] at hlt ⊢
      rw [num_o x e] at hlt
      exact h.I p0 hp0 x hx0 ho0 hlt d' hs hv
  · -- D
    intro p hp x hlt
    rcases List.mem_cons.1 hp with e0 | hp
    · rw [e0] at hlt
      simp only at hlt
      rw [num_y] at hlt
      by_cases e : x = y
      · rw [e, num_y] at hlt; omega
      · rw [num_o x e] at hlt
        have := h.le x
        omega
    · obtain ⟨p0, hp0, e1, e2, e3, e4, e5⟩ := old p hp
      rw [num_o _ e3, ← e1] at hlt ⊢
      by_cases e : x = y
      · refine ⟨d, by rw [if_pos e], ?_⟩
        rw [hdv, num_o v hvy]
        rcases List.mem_cons.1 hp0 with z | z
        · rw [z]; exact Nat.le_refl _
        · exact Nat.le_of_lt (h.below z)
      · rw [num_o x e] at hlt
        obtain ⟨f, k1, k2⟩ := h.D p0 hp0 x hlt
        refine ⟨f, by rw [if_neg e]; exact k1, ?_⟩
        have : num (vtx L f) ≠ 0 := by
          have := (h.on p0 hp0).1
          omega
        rw [num_o _ (ne_y _ this)]
        exact k2
  · -- L0
    intro p hp
    rcases List.mem_cons.1 hp with e0 | hp
    · rw [e0]
      simp only
      rw [num_y, upd_same]
      exact Nat.le_refl _
    · obtain ⟨p0, hp0, e1, e2, e3, e4, e5⟩ := old p hp
      rw [num_o _ e3, upd_other _ _ e3, ← e1]
      exact h.L0 p0 hp0
  · -- L1
    intro p hp x hx hq d' hs hv hl hpar
    rcases List.mem_cons.1 hp with e0 | hp
    · rw [e0] at hx hl ⊢
      simp only at hx hl ⊢
      rw [num_y] at hx
      have e : x = y := by
        by_cases e : x = y
        · exact e
        · rw [num_o x e] at hx
          have := h.le x
          omega
      exact absurd ((hal d').2 ⟨hs, by rw [hv, e]⟩) (hl e)
    · obtain ⟨p0, hp0, e1, e2, e3, e4, e5⟩ := old p hp
      rw [num_o _ e3, ← e1] at hx hq
      rw [upd_other _ _ e3, ← e1]
      have e : x ≠ y := fun e => by
        have h1 := hq ⟨y, (d : Int), al⟩ (List.mem_cons_self ..) (by
          simp only
          rw [num_y]
          have := h.le p0.v
          omega)
        simp only at h1
        rw [e] at h1
        omega
      rw [if_neg e] at hpar
      rw [num_o x e] at hx
      by_cases hyd : De L d' = y
      · rw [hyd, num_y]
        have h1 := h.L0 p0 hp0
        have h2 := h.le p0.v
        omega
      · rw [num_o _ hyd]
        refine h.L1 p0 hp0 x hx (fun q hm hlt => ?_) d' hs hv (fun ex hd => ?_) hpar
        · rcases List.mem_cons.1 hm with z | z
          · rw [z]
            have := hq ⟨v, bd, l⟩ (List.mem_cons_of_mem _ (List.mem_cons_self ..))
            simp only at this
            rw [num_o v hvy, num_o x e] at this
            rw [z] at hlt
            exact this hlt
          · have := hq q (List.mem_cons_of_mem _ (List.mem_cons_of_mem _ z))
            rw [num_o _ (hry q z), num_o x e] at this
            exact this hlt
        · rcases e5 d' hd with q | ⟨q, _⟩
          · exact hl (by rw [ex, e1]) q
          · exact hyd (by rw [q, hY])
  · -- L2
    intro p hp
    rcases List.mem_cons.1 hp with e0 | hp
    · rw [e0]
      simp only
      rw [num_y, upd_same]
      exact Or.inl rfl
    · obtain ⟨p0, hp0, e1, e2, e3, e4, e5⟩ := old p hp
      have hp00 := (h.on p0 hp0).1
      rw [upd_other _ _ e3, num_o _ e3, ← e1, ← e2]
      rcases h.L2 p0 hp0 with k | ⟨f, k1, k2, k3, k4, k5, k6, k7⟩
      · exact Or.inl k
      · have hfv : num (vtx L f) ≠ 0 := by omega
        refine Or.inr ⟨f, k1.mono fun d' _ hd' => ?_, ?_, k3, k4, ?_, ?_, ?_⟩
        · have g1 : num (vtx L d') ≠ 0 := by omega
          have g2 : num (De L d') ≠ 0 := by omega
          rw [num_o _ (ne_y _ g1), num_o _ (ne_y _ g2)]
          exact hd'
        · rw [num_o _ (ne_y _ hfv)]; exact k2
        · rw [num_o _ (ne_y _ k6)]; exact k5
        · rw [num_o _ (ne_y _ k6)]; exact k6
        · rw [num_o _ (ne_y _ k6)]; exact k7
  · -- T
    intro p hp e he x z hx0 hx1 hx2 hz0 hz1 hz2
    rcases List.mem_cons.1 hp with e0 | hp
    · rw [e0] at he hx2 hz2
      simp only at he hx2 hz2
      have hde : d = e := by omega
      subst hde
      rw [num_y] at hx2 hz2
      have ex : x ≠ y := fun q => by rw [q, num_y] at hx2; omega
      have ez : z ≠ y := fun q => by rw [q, num_y] at hz2; omega
      rw [num_o x ex] at hx0 hx1
      rw [num_o z ez] at hz0 hz1
      refine (h.T0 x z hx0 hz0 ?_).mono fun d' _ hd' => hTE d' hd'
      rw [(h.cur x hx0).1 hx1, (h.cur z hz0).1 hz1]
    · obtain ⟨p0, hp0, e1, e2, e3, e4, e5⟩ := old p hp
      rw [num_o _ e3, ← e1] at hx2 hz2
      have hle := h.le p0.v
      have ex : x ≠ y := fun q => by rw [q, num_y] at hx2; omega
      have ez : z ≠ y := fun q => by rw [q, num_y] at hz2; omega
      rw [num_o x ex] at hx0 hx1 hx2
      rw [num_o z ez] at hz0 hz1 hz2
      exact h.T p0 hp0 e (by rw [e2]; exact he) x z hx0 hx1 hx2 hz0 hz1 hz2
  · -- T0
    have hmono : ∀ {x z}, HangD L (fun d' => ∃ z, num z ≠ 0 ∧ ∃ e : Nat, par z = e ∧ d' / 2 = e / 2) x z → HangD L (fun d' => ∃ z, upd num y (met + 1) z ≠ 0 ∧ ∃ e : Nat, (if z = y then (d : Int) else par z) = e ∧ d' / 2 = e / 2) x z := fun k => k.mono fun d' _ ⟨z, h1, e, h2, h3⟩ => ⟨z, by rw [num_o _ (ne_y _ h1)]; exact h1, e, by rw [if_neg (ne_y _ h1)]; exact h2, h3⟩
    have hvyH : HangD L (fun d' => ∃ z, upd num y (met + 1) z ≠ 0 ∧ ∃ e : Nat, (if z = y then (d : Int) else par z) = e ∧ d' / 2 = e / 2) v y := by
      have := HangD.step (L := L) (R := fun d' => ∃ z, upd num y (met + 1) z ≠ 0 ∧ ∃ e : Nat, (if z = y then (d : Int) else par z) = e ∧ d' / 2 = e / 2) (u := v) d hds ⟨y, by rw [num_y]; omega, d, by rw [if_pos rfl], rfl⟩ (by rw [hdv]; exact .refl _)
      rwa [hY] at this
    have hsym : ∀ d', (∃ z, upd num y (met + 1) z ≠ 0 ∧ ∃ e : Nat, (if z = y then (d : Int) else par z) = e ∧ d' / 2 = e / 2) → (∃ z, upd num y (met + 1) z ≠ 0 ∧ ∃ e : Nat, (if z = y then (d : Int) else par z) = e ∧ tw d' / 2 = e / 2) := fun d' ⟨z, h1, e, h2, h3⟩ => ⟨z, h1, e, h2, by rw [tw_half]; exact h3⟩
    intro x z hx hz ht
    by_cases ex : x = y
    · by_cases ez : z = y
      · rw [ex, ez]; exact .refl _
      · rw [ex, upd_same, upd_other _ _ ez] at ht
        have hz0 := num_pos z ez hz
        rw [ex]
        exact (hvyH.symm hg hsym).trans (hmono (h.T0 v z n1 hz0 (by rw [(h.cur v n1).1 n2]; exact ht)))
    · have hx0 := num_pos x ex hx
      by_cases ez : z = y
      · rw [ez, upd_same, upd_other _ _ ex] at ht
        rw [ez]
        exact (hmono (h.T0 x v hx0 n1 (by rw [(h.cur v n1).1 n2]; exact ht))).trans hvyH
      · rw [upd_other _ _ ex, upd_other _ _ ez] at ht
        exact hmono (h.T0 x z hx0 (num_pos z ez hz) ht)
  · -- B
    intro x hx ho e he
    obtain ⟨exy, hx0, ho0⟩ := hfin x hx ho
    rw [if_neg exy] at he
    exact h.B x hx0 ho0 e he
  · -- Bs
    intro f hf
    obtain ⟨x, h1, h2, e, h3, h4⟩ := h.Bs f hf
    have exy := ne_y x h1
    refine ⟨x, by rw [num_o x exy]; exact h1, fun q => ?_, e, by rw [if_neg exy]; exact h3, h4⟩
    rcases (hon x).1 q with q | q
    · exact exy q
    · exact h2 q
end
end
end Go.Proofs.YtdplphhlclhmfaaDoor
