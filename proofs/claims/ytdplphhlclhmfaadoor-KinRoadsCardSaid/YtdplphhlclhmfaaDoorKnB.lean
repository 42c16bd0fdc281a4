/- kin: roads of fewest edges (plain). A row that is taken off at its head and laid on at its end. kin: steps: how far each vertex is. -/
import Derived.Test.YtdplphhlclhmfaaDoorKiH
import Derived.Test.YtdplphhlclhmfaaDoorKiQ
namespace Go.Proofs.YtdplphhlclhmfaaDoor
open Go Go.RowKit
set_option linter.unusedVariables false
set_option linter.unusedSimpArgs false
set_option maxRecDepth 100000

/-! kin: roads of fewest edges (plain). -/
/-- A road of so many edges from a vertex to b. -/
inductive Way (L : List (List Nat)) (b : Nat) : Nat → Nat → Prop
  | stay : Way L b 0 b
  | step {n d : Nat} (h : Stands L d) (k : Way L b n (De L d)) : Way L b (n + 1) (vtx L d)
/-- How far each vertex is from b. -/
structure FarOk (L : List (List Nat)) (b : Nat) (f : List Int) : Prop where
  len : f.length = L.length
  way : ∀ a, a < L.length → (f.getD a 0 = -1 ∧ ∀ n, ¬ Way L b n a) ∨ ∃ n : Nat, f.getD a 0 = (n : Int) ∧ Way L b n a ∧ ∀ m, Way L b m a → n ≤ m
section
variable {L : List (List Nat)} {E b x d : Nat} {f : List Int} {q todo : List Nat} {hd : Int}
theorem Way.lt (hg : Good E L) (hb : b < L.length) {n a : Nat} (h : Way L b n a) : a < L.length := by
  cases h with
  | stay => exact hb
  | step h _ => exact hg.toWF.vtx_lt h
theorem Way.zero {a : Nat} (h : Way L b 0 a) : a = b := by cases h; rfl
theorem Way.hang (hg : Good E L) {n a : Nat} (h : Way L b n a) : Hang L a b := by
  induction h with
  | stay => exact Hang.refl _
  | step h _ ih => exact (hang_tw hg h).trans ih
theorem Way.trans {a c : Nat} {n m : Nat} (h : Way L c n a) (k : Way L b m c) : Way L b (n + m) a := by
  induction h with
  | stay => rw [Nat.zero_add]; exact k
  | step h _ ih => rw [Nat.add_right_comm]; exact Way.step h ih
theorem Way.of_hang (hg : Good E L) {a : Nat} (h : Hang L b a) : ∃ n, Way L b n a := by
  induction h with
  | refl => exact ⟨0, Way.stay⟩
  | edge e hs _ ih =>
    obtain ⟨n, hn⟩ := ih
    refine ⟨n + 1, Way.step ((hg.pair e).2 hs) ?_⟩
    rwa [show De L (2 * e + 1) = vtx L (2 * e) by unfold De tw; rw [if_pos (by omega)]; rfl]
  | back e hs _ ih =>
    obtain ⟨n, hn⟩ := ih
    refine ⟨n + 1, Way.step hs ?_⟩
    rwa [show De L (2 * e) = vtx L (2 * e + 1) by unfold De tw; rw [if_neg (by omega)]]
theorem fget_set (l : List Int) (i : Nat) (x : Int) (j : Nat) (hi : i < l.length) : (l.set i x).getD j 0 = if j = i then x else l.getD j 0 := by
  rw [List.getD_eq_getElem?_getD, List.getElem?_set, List.getD_eq_getElem?_getD]
  by_cases h : j = i
  · rw [if_pos h.symm, if_pos h, if_pos hi]; rfl
  · rw [if_neg (Ne.symm h), if_neg h]
theorem far_ext {f g : List Int} (hf : FarOk L b f) (hg : FarOk L b g) : f = g := by
  apply List.ext_getElem (hf.len.trans hg.len.symm)
  intro i h1 h2
  have hi : i < L.length := by rw [← hf.len]; exact h1
  have e : f.getD i 0 = g.getD i 0 := by
    rcases hf.way i hi with ⟨e1, n1⟩ | ⟨n, e1, w1, m1⟩
    · rcases hg.way i hi with ⟨e2, _⟩ | ⟨m, _, w2, _⟩
      · rw [e1, e2]
      · exact absurd w2 (n1 m)
    · rcases hg.way i hi with ⟨_, n2⟩ | ⟨m, e2, w2, m2⟩
      · exact absurd w1 (n2 n)
      · have := m1 m w2
        have := m2 n w1
        omega
  simpa [List.getD_eq_getElem?_getD, h1, h2] using e
/-- Going over what waits: all has been gone over but the rest. -/
structure BfI (L : List (List Nat)) (b : Nat) (f : List Int) (q : List Nat) (x : Nat) (todo : List Nat) (hd : Int) : Prop where
  len : f.length = L.length
  zero : f.getD b 0 = 0
  way : ∀ a, a < L.length → f.getD a 0 = -1 ∨ ∃ n : Nat, f.getD a 0 = (n : Int) ∧ Way L b n a
  srt : q.Pairwise fun y z => f.getD y 0 ≤ f.getD z 0
  qin : ∀ y ∈ q, y < L.length ∧ hd ≤ f.getD y 0 ∧ 0 ≤ f.getD y 0
  top : ∀ a, a < L.length → f.getD a 0 ≤ hd + 1
  chn : ∀ a, a < L.length → ∀ m : Nat, f.getD a 0 = (m : Int) + 1 → ∃ c, c < L.length ∧ f.getD c 0 = (m : Int)
  clo : ∀ a, a < L.length → 0 ≤ f.getD a 0 → a ∈ q ∨ ∀ d, Stands L d → vtx L d = a → (a = x → d ∉ todo) → 0 ≤ f.getD (De L d) 0 ∧ f.getD (De L d) 0 ≤ f.getD a 0 + 1
/-- Whoever is closed is the document's. -/
theorem far_closed (hg : Good E L) (hb : b < L.length) (hl : f.length = L.length) (h0 : f.getD b 0 = 0) (hw : ∀ a, a < L.length → f.getD a 0 = -1 ∨ ∃ n : Nat, f.getD a 0 = (n : Int) ∧ Way L b n a)
    (hc : ∀ a, a < L.length → 0 ≤ f.getD a 0 → ∀ d, Stands L d → vtx L d = a → 0 ≤ f.getD (De L d) 0 ∧ f.getD (De L d) 0 ≤ f.getD a 0 + 1) : FarOk L b f := by
  have key : ∀ m a, Way L b m a → 0 ≤ f.getD a 0 ∧ f.getD a 0 ≤ (m : Int) := fun m a h => by
    induction h with
    | stay => rw [h0]; exact ⟨Int.le_refl _, Int.le_refl _⟩
    | step h k ih =>
      rename_i n d
      have ht := hg.twin _ h
      have := hc (De L d) (hg.toWF.vtx_lt ht) ih.1 (tw d) ht rfl
      rw [De_tw] at this
      omega
  refine ⟨hl, fun a ha => ?_⟩
  rcases hw a ha with e | ⟨n, e, w⟩
  · refine Or.inl ⟨e, fun n hn => ?_⟩
    have := key n a hn
    omega
  · refine Or.inr ⟨n, e, w, fun m hm => ?_⟩
    have := key m a hm
    omega
theorem mones_get (n a : Nat) (ha : a < n) : (List.replicate n (-1 : Int)).getD a 0 = -1 := by simp [List.getD_eq_getElem?_getD, ha]
theorem BfI.begin (hb : b < L.length) (x : Nat) : BfI L b ((List.replicate L.length (-1)).set b 0) [b] x [] 0 := by
  have hset : ∀ a, a < L.length → ((List.replicate L.length (-1 : Int)).set b 0).getD a 0 = if a = b then 0 else -1 := fun a ha => by
    rw [fget_set _ _ _ _ (by simpa using hb)]
    split
    · rfl
    · exact mones_get _ _ ha
  refine ⟨by simp, by rw [hset b hb, if_pos rfl], fun a ha => ?_, by simp, fun y hy => ?_, fun a ha => ?_, fun a ha m e => ?_, fun a ha h0 => ?_⟩
  · rw [hset a ha]
    split
    · rename_i e; subst e; exact Or.inr ⟨0, rfl, Way.stay⟩
    · exact Or.inl rfl
  · rw [List.mem_singleton.1 hy, hset b hb, if_pos rfl]
    exact ⟨hb, Int.le_refl _, Int.le_refl _⟩
  · rw [hset a ha]; split <;> omega
  · rw [hset a ha] at e
    split at e <;> omega
  · rw [hset a ha] at h0
    split at h0
    · rename_i e; exact Or.inl (List.mem_singleton.2 e)
    · omega
/-- The first that waits. -/
theorem BfI.take (h : BfI L b f (x :: q) d [] hd) (hg : Good E L) : BfI L b f q x (arL L x) (f.getD x 0) ∧ x < L.length ∧ 0 ≤ f.getD x 0 := by
  have hx := h.qin x (List.mem_cons_self ..)
  have hs := List.pairwise_cons.1 h.srt
  refine ⟨⟨h.len, h.zero, h.way, hs.2, fun y hy => ?_, fun a ha => ?_, h.chn, fun a ha h0 => ?_⟩, hx.1, hx.2.2⟩
  · have := h.qin y (List.mem_cons_of_mem _ hy)
    exact ⟨this.1, hs.1 y hy, this.2.2⟩
  · have := h.top a ha
    omega
  · rcases h.clo a ha h0 with k | k
    · rcases List.mem_cons.1 k with e | k
      · refine Or.inr fun d' hs' hv' hn => ?_
        subst e
        exact absurd ((arL_iff hg.toWF ha).2 ⟨hs', hv'⟩) (hn rfl)
      · exact Or.inl k
    · exact Or.inr fun d' hs' hv' _ => k d' hs' hv' fun _ => by simp
/-- A dart leads to what is told. -/
theorem BfI.seen (h : BfI L b f q x (d :: todo) (f.getD x 0)) (hg : Good E L) (hs : Stands L d) (hx : vtx L d = x) (hne : 0 ≤ f.getD (De L d) 0) : BfI L b f q x todo (f.getD x 0) := by
  have hy : De L d < L.length := hg.toWF.vtx_lt (hg.twin _ hs)
  refine ⟨h.len, h.zero, h.way, h.srt, h.qin, h.top, h.chn, fun a ha h0 => ?_⟩
  rcases h.clo a ha h0 with k | k
  · exact Or.inl k
  · refine Or.inr fun d' hs' hv' hn => ?_
    by_cases e2 : a = x ∧ d' = d
    · rw [e2.2, e2.1]; exact ⟨hne, h.top _ hy⟩
    · exact k d' hs' hv' fun e3 hm => by
        rcases List.mem_cons.1 hm with e4 | e4
        · exact e2 ⟨e3, e4⟩
        · exact hn e3 e4
/-- A dart leads to a new one. -/
theorem BfI.found (h : BfI L b f q x (d :: todo) (f.getD x 0)) (hg : Good E L) (hx0 : 0 ≤ f.getD x 0) (hs : Stands L d) (hx : vtx L d = x) (hne : f.getD (De L d) 0 < 0) :
    BfI L b (f.set (De L d) (f.getD x 0 + 1)) (q ++ [De L d]) x todo ((f.set (De L d) (f.getD x 0 + 1)).getD x 0) ∧ (f.set (De L d) (f.getD x 0 + 1)).getD x 0 = f.getD x 0 ∧ f.getD (De L d) 0 = -1 := by
  have hy : De L d < L.length := hg.toWF.vtx_lt (hg.twin _ hs)
  have hxl : x < L.length := by rw [← hx]; exact hg.toWF.vtx_lt hs
  have hset : ∀ z, (f.set (De L d) (f.getD x 0 + 1)).getD z 0 = if z = De L d then f.getD x 0 + 1 else f.getD z 0 := fun z => fget_set _ _ _ _ (by rw [h.len]; exact hy)
  have hxe : (f.set (De L d) (f.getD x 0 + 1)).getD x 0 = f.getD x 0 := by
    rw [hset, if_neg]
    intro e
    rw [← e] at hne
    omega
  have hold : ∀ z, 0 ≤ f.getD z 0 → (f.set (De L d) (f.getD x 0 + 1)).getD z 0 = f.getD z 0 := fun z hz => by
    rw [hset, if_neg]
    intro e
    rw [← e] at hne
    omega
  have hm1 : f.getD (De L d) 0 = -1 := by
    rcases h.way _ hy with e | ⟨n, e, _⟩
    · exact e
    · omega
  refine ⟨⟨by rw [List.length_set]; exact h.len, by rw [hold b (by rw [h.zero]; exact Int.le_refl _)]; exact h.zero, fun a ha => ?_, ?_, fun y hy' => ?_, fun a ha => ?_, fun a ha m e => ?_, fun a ha h0 => ?_⟩, hxe, hm1⟩
  · rw [hset]
    split
    · rename_i e
      refine Or.inr ?_
      rcases h.way x hxl with e1 | ⟨n, e1, w⟩
      · omega
      · refine ⟨n + 1, by rw [e1]; rfl, ?_⟩
        rw [e]
        have := Way.step (hg.twin _ hs) (n := n) (b := b) (by rw [De_tw, hx]; exact w)
        exact this
    · exact h.way a ha
  · rw [List.pairwise_append]
    refine ⟨?_, by simp, fun y hy1 z hz => ?_⟩
    · refine h.srt.imp_of_mem fun {y z} h1 h2 h3 => ?_
      rw [hold y (h.qin y h1).2.2, hold z (h.qin z h2).2.2]
      exact h3
    · rw [List.mem_singleton.1 hz, hold y (h.qin y hy1).2.2, hset, if_pos rfl]
      exact h.top y (h.qin y hy1).1
  · rw [hxe]
    rcases List.mem_append.1 hy' with k | k
    · have := h.qin y k
      rw [hold y this.2.2]
      exact this
    · rw [List.mem_singleton.1 k, hset, if_pos rfl]
      exact ⟨hy, by omega, by omega⟩
  · rw [hxe, hset]
    split
    · exact Int.le_refl _
    · exact h.top a ha
  · rw [hset] at e
    split at e
    · exact ⟨x, hxl, by rw [hxe]; omega⟩
    · obtain ⟨c, hc, e2⟩ := h.chn a ha m e
      exact ⟨c, hc, by rw [hold c (by omega)]; exact e2⟩
  · by_cases e2 : a = De L d
    · exact Or.inl (List.mem_append_right _ (List.mem_singleton.2 e2))
    · rw [hset, if_neg e2] at h0
      rcases h.clo a ha h0 with k | k
      · exact Or.inl (List.mem_append_left _ k)
      · refine Or.inr fun d' hs' hv' hn => ?_
        rw [hold a h0]
        by_cases e3 : a = x ∧ d' = d
        · rw [e3.2, e3.1, hset, if_pos rfl]
          exact ⟨by omega, Int.le_refl _⟩
        · have := k d' hs' hv' fun e4 hm => by
            rcases List.mem_cons.1 hm with e5 | e5
            · exact e3 ⟨e4, e5⟩
            · exact hn e4 e5
          rw [hold _ this.1]
          exact this
/-- Nobody waits. -/
theorem BfI.done (h : BfI L b f [] x [] hd) (hg : Good E L) (hb : b < L.length) : FarOk L b f :=
  far_closed hg hb h.len h.zero h.way fun a ha h0 => by
    rcases h.clo a ha h0 with k | k
    · cases k
    · exact fun d hs hv => k d hs hv fun _ => by simp
/-- One more told. -/
theorem count_setI {o : List Int} {y : Nat} {v : Int} (hy : y < o.length) (h : o.getD y 0 = -1) (hv : v ≠ -1) : (o.set y v).count (-1) + 1 = o.count (-1) := by
  have e : o[y] = -1 := by rw [List.getD_eq_getElem?_getD, List.getElem?_eq_getElem hy] at h; exact h
  have hpos : 0 < o.count (-1) := List.count_pos_iff.2 (by rw [← e]; exact List.getElem_mem hy)
  rw [List.count_set hy, e]
  simp [hv]
  omega
/-- The document's rounds: those of less than n gone over, of n those ahead of v. -/
structure RfI (L : List (List Nat)) (b : Nat) (f : List Int) (n v : Nat) (todo : List Nat) : Prop where
  len : f.length = L.length
  zero : f.getD b 0 = 0
  way : ∀ a, a < L.length → f.getD a 0 = -1 ∨ ∃ n : Nat, f.getD a 0 = (n : Int) ∧ Way L b n a
  top : ∀ a, a < L.length → f.getD a 0 ≤ (n : Int) + 1
  chn : ∀ a, a < L.length → ∀ m : Nat, f.getD a 0 = (m : Int) + 1 → ∃ c, c < L.length ∧ f.getD c 0 = (m : Int)
  clo : ∀ a, a < L.length → 0 ≤ f.getD a 0 → f.getD a 0 < (n : Int) ∨ f.getD a 0 = (n : Int) ∧ a ≤ v → ∀ d, Stands L d → vtx L d = a → (a = v → f.getD a 0 = (n : Int) → d ∉ todo) → 0 ≤ f.getD (De L d) 0 ∧ f.getD (De L d) 0 ≤ f.getD a 0 + 1
theorem RfI.begin (hg : Good E L) (hb : b < L.length) : RfI L b ((List.replicate L.length (-1)).set b 0) 0 0 (L.getD 0 []) := by
  have hset : ∀ a, a < L.length → ((List.replicate L.length (-1 : Int)).set b 0).getD a 0 = if a = b then 0 else -1 := fun a ha => by
    rw [fget_set _ _ _ _ (by simpa using hb)]
    split
    · rfl
    · exact mones_get _ _ ha
  refine ⟨by simp, by rw [hset b hb, if_pos rfl], fun a ha => ?_, fun a ha => ?_, fun a ha m e => ?_, fun a ha h0 h1 d hs hv hn => ?_⟩
  · rw [hset a ha]
    split
    · rename_i e; subst e; exact Or.inr ⟨0, rfl, Way.stay⟩
    · exact Or.inl rfl
  · rw [hset a ha]; split <;> simp
  · rw [hset a ha] at e
    split at e <;> omega
  · rcases h1 with h1 | ⟨h1, h2⟩
    · have : ((0 : Nat) : Int) = 0 := rfl
      omega
    · obtain rfl : a = 0 := by omega
      refine absurd ?_ (hn rfl h1)
      exact arL_mem.1 ((arL_iff hg.toWF ha).2 ⟨hs, hv⟩)
theorem RfI.nextV {n v : Nat} (h : RfI L b f n v todo) (hg : Good E L) (ht : f.getD v 0 ≠ (n : Int) ∨ todo = []) : RfI L b f n (v + 1) (L.getD (v + 1) []) := by
  refine ⟨h.len, h.zero, h.way, h.top, h.chn, fun a ha h0 h1 d hs hv hn => ?_⟩
  by_cases e : a = v + 1
  · rcases h1 with h1 | ⟨h1, _⟩
    · exact h.clo a ha h0 (Or.inl h1) d hs hv fun e2 _ => by omega
    · refine absurd ?_ (hn e h1)
      rw [← e]
      exact arL_mem.1 ((arL_iff hg.toWF ha).2 ⟨hs, hv⟩)
  · refine h.clo a ha h0 (h1.imp id fun q => ⟨q.1, by omega⟩) d hs hv fun e2 e3 hm => ?_
    rcases ht with ht | ht
    · rw [e2] at e3; exact ht e3
    · rw [ht] at hm; cases hm
theorem RfI.nextN {n v : Nat} (h : RfI L b f n v todo) (hg : Good E L) (hv : L.length ≤ v) : RfI L b f (n + 1) 0 (L.getD 0 []) := by
  refine ⟨h.len, h.zero, h.way, fun a ha => by have := h.top a ha; omega, h.chn, fun a ha h0 h1 d hs hv' hn => ?_⟩
  by_cases e : f.getD a 0 = ((n + 1 : Nat) : Int)
  · rcases h1 with h1 | ⟨_, h1⟩
    · omega
    · obtain rfl : a = 0 := by omega
      exact absurd (arL_mem.1 ((arL_iff hg.toWF ha).2 ⟨hs, hv'⟩)) (hn rfl e)
  · refine h.clo a ha h0 ?_ d hs hv' fun e2 => by omega
    by_cases q : f.getD a 0 < (n : Int)
    · exact Or.inl q
    · refine Or.inr ⟨?_, by omega⟩
      rcases h1 with h1 | h1 <;> omega
theorem RfI.seen {n v : Nat} (h : RfI L b f n v (d :: todo)) (hg : Good E L) (hfv : f.getD v 0 = (n : Int)) (hs : Stands L d) (hv : vtx L d = v) (hne : 0 ≤ f.getD (De L d) 0) : RfI L b f n v todo := by
  have hy : De L d < L.length := hg.toWF.vtx_lt (hg.twin _ hs)
  refine ⟨h.len, h.zero, h.way, h.top, h.chn, fun a ha h0 h1 d' hs' hv' hn => ?_⟩
  by_cases e2 : a = v ∧ d' = d
  · rw [e2.2, e2.1, hfv]; exact ⟨hne, h.top _ hy⟩
  · exact h.clo a ha h0 h1 d' hs' hv' fun e3 e4 hm => by
      rcases List.mem_cons.1 hm with e5 | e5
      · exact e2 ⟨e3, e5⟩
      · exact hn e3 e4 e5
theorem RfI.found {n v : Nat} (h : RfI L b f n v (d :: todo)) (hg : Good E L) (hfv : f.getD v 0 = (n : Int)) (hs : Stands L d) (hv : vtx L d = v) (hne : f.getD (De L d) 0 < 0) :
    RfI L b (f.set (De L d) ((n : Int) + 1)) n v todo ∧ (f.set (De L d) ((n : Int) + 1)).getD v 0 = (n : Int) := by
  have hy : De L d < L.length := hg.toWF.vtx_lt (hg.twin _ hs)
  have hvl : v < L.length := by rw [← hv]; exact hg.toWF.vtx_lt hs
  have hset : ∀ z, (f.set (De L d) ((n : Int) + 1)).getD z 0 = if z = De L d then (n : Int) + 1 else f.getD z 0 := fun z => fget_set _ _ _ _ (by rw [h.len]; exact hy)
  have hold : ∀ z, 0 ≤ f.getD z 0 → (f.set (De L d) ((n : Int) + 1)).getD z 0 = f.getD z 0 := fun z hz => by
    rw [hset, if_neg]
    intro e
    rw [← e] at hne
    omega
  have hve : (f.set (De L d) ((n : Int) + 1)).getD v 0 = (n : Int) := by rw [hold v (by omega)]; exact hfv
  refine ⟨⟨by rw [List.length_set]; exact h.len, by rw [hold b (by rw [h.zero]; exact Int.le_refl _)]; exact h.zero, fun a ha => ?_, fun a ha => ?_, fun a ha m e => ?_, fun a ha h0 h1 d' hs' hv' hn => ?_⟩, hve⟩
  · rw [hset]
    split
    · rename_i e
      refine Or.inr ?_
      rcases h.way v hvl with e1 | ⟨k, e1, w⟩
      · omega
      · refine ⟨k + 1, by omega, ?_⟩
        rw [e]
        exact Way.step (hg.twin _ hs) (n := k) (b := b) (by rw [De_tw, hv]; exact w)
    · exact h.way a ha
  · rw [hset]
    split
    · exact Int.le_refl _
    · exact h.top a ha
  · rw [hset] at e
    split at e
    · exact ⟨v, hvl, by rw [hve]; omega⟩
    · obtain ⟨c, hc, e2⟩ := h.chn a ha m e
      exact ⟨c, hc, by rw [hold c (by omega)]; exact e2⟩
  · by_cases e2 : a = De L d
    · rw [hset, if_pos e2] at h1
      omega
    · have ea : (f.set (De L d) ((n : Int) + 1)).getD a 0 = f.getD a 0 := by rw [hset, if_neg e2]
      rw [ea] at h0 h1 ⊢
      by_cases e3 : a = v ∧ d' = d
      · rw [e3.2, e3.1, hset, if_pos rfl, hfv]
        exact ⟨by omega, Int.le_refl _⟩
      · have := h.clo a ha h0 h1 d' hs' hv' fun e4 e5 hm => by
          rcases List.mem_cons.1 hm with e6 | e6
          · exact e3 ⟨e4, e6⟩
          · exact hn e4 (by rw [ea]; exact e5) e6
        rw [hold _ this.1]
        exact this
/-- As many are told as how far the farthest is. -/
theorem far_chain (hl : f.length = L.length) (hc : ∀ a, a < L.length → ∀ m : Nat, f.getD a 0 = (m : Int) + 1 → ∃ c, c < L.length ∧ f.getD c 0 = (m : Int)) :
    ∀ (m a : Nat), a < L.length → f.getD a 0 = (m : Int) → ∃ l : List Nat, l.length = m + 1 ∧ (∀ x ∈ l, x < L.length ∧ 0 ≤ f.getD x 0 ∧ f.getD x 0 ≤ (m : Int)) ∧ l.Nodup
  | 0, a, ha, e => ⟨[a], rfl, fun x hx => by rw [List.mem_singleton.1 hx, e]; exact ⟨ha, Int.le_refl _, Int.le_refl _⟩, by simp⟩
  | m + 1, a, ha, e => by
    obtain ⟨c, hcl, ec⟩ := hc a ha m (by omega)
    obtain ⟨l, h1, h2, h3⟩ := far_chain hl hc m c hcl ec
    refine ⟨a :: l, by simp [h1], fun x hx => ?_, List.nodup_cons.2 ⟨fun hm => ?_, h3⟩⟩
    · rcases List.mem_cons.1 hx with q | q
      · rw [q, e]; exact ⟨ha, by omega, Int.le_refl _⟩
      · have := h2 x q
        exact ⟨this.1, this.2.1, by omega⟩
    · have := h2 a hm
      omega
theorem far_lt (hl : f.length = L.length) (hc : ∀ a, a < L.length → ∀ m : Nat, f.getD a 0 = (m : Int) + 1 → ∃ c, c < L.length ∧ f.getD c 0 = (m : Int)) {m a : Nat} (ha : a < L.length) (e : f.getD a 0 = (m : Int)) : m < L.length := by
  obtain ⟨l, h1, h2, h3⟩ := far_chain hl hc m a ha e
  have := nodup_few h3 fun x hx => (h2 x hx).1
  omega
theorem RfI.done {v : Nat} (h : RfI L b f L.length v todo) (hg : Good E L) (hb : b < L.length) : FarOk L b f :=
  far_closed hg hb h.len h.zero h.way fun a ha h0 d hs hv => by
    obtain ⟨n, e⟩ := Int.eq_ofNat_of_zero_le h0
    have := far_lt h.len h.chn ha e
    exact h.clo a ha h0 (Or.inl (by omega)) d hs hv fun _ e2 => by omega
theorem RfI.bound {n v : Nat} (h : RfI L b f n v todo) {a : Nat} (ha : a < L.length) : -1 ≤ f.getD a 0 ∧ f.getD a 0 < (L.length : Int) := by
  rcases h.way a ha with e | ⟨k, e, _⟩
  · rw [e]; omega
  · have := far_lt h.len h.chn ha e
    omega
theorem BfI.bound (h : BfI L b f q x todo hd) {a : Nat} (ha : a < L.length) : -1 ≤ f.getD a 0 ∧ f.getD a 0 < (L.length : Int) := by
  rcases h.way a ha with e | ⟨k, e, _⟩
  · rw [e]; omega
  · have := far_lt h.len h.chn ha e
    omega
/-- The dart that leads nearer, the least one. -/
def stepD (L : List (List Nat)) (f : List Int) (a : Nat) : Nat := ((arL L a).find? fun d => decide (f.getD (De L d) 0 = f.getD a 0 - 1)).getD 0
def roadL (L : List (List Nat)) (f : List Int) : Nat → Nat → List Nat
  | 0, _ => []
  | n + 1, a => stepD L f a :: roadL L f n (De L (stepD L f a))
theorem roadL_length : ∀ n a, (roadL L f n a).length = n
  | 0, _ => rfl
  | n + 1, a => by unfold roadL; rw [List.length_cons, roadL_length n]
/-- There is one. -/
theorem FarOk.near (h : FarOk L b f) (hg : Good E L) {a n : Nat} (ha : a < L.length) (e : f.getD a 0 = ((n + 1 : Nat) : Int)) : ∃ d ∈ arL L a, f.getD (De L d) 0 = f.getD a 0 - 1 := by
  rcases h.way a ha with ⟨e1, _⟩ | ⟨m, e1, w, hm⟩
  · omega
  · obtain rfl : m = n + 1 := by omega
    cases w with
    | step hs k =>
      rename_i d
      refine ⟨d, (arL_iff hg.toWF ha).2 ⟨hs, rfl⟩, ?_⟩
      rcases h.way (De L d) (hg.toWF.vtx_lt (hg.twin _ hs)) with ⟨_, e2⟩ | ⟨j, e2, w2, hj⟩
      · exact absurd k (e2 n)
      · have h1 := hj n k
        have h2 := hm (j + 1) (Way.step hs w2)
        rw [e1, e2]
        omega
theorem FarOk.stepD (h : FarOk L b f) (hg : Good E L) {a n : Nat} (ha : a < L.length) (e : f.getD a 0 = ((n + 1 : Nat) : Int)) :
    stepD L f a ∈ arL L a ∧ Stands L (stepD L f a) ∧ vtx L (stepD L f a) = a ∧ f.getD (De L (stepD L f a)) 0 = (n : Int) ∧ De L (stepD L f a) < L.length ∧ (arL L a).find? (fun d => decide (f.getD (De L d) 0 = f.getD a 0 - 1)) = some (stepD L f a) := by
  obtain ⟨d0, hd0, e0⟩ := h.near hg ha e
  obtain ⟨x, hx⟩ : ∃ x, (arL L a).find? (fun d => decide (f.getD (De L d) 0 = f.getD a 0 - 1)) = some x := by
    cases hf : (arL L a).find? (fun d => decide (f.getD (De L d) 0 = f.getD a 0 - 1)) with
    | some x => exact ⟨x, rfl⟩
    | none =>
      have := List.find?_eq_none.1 hf d0 hd0
      rw [decide_eq_true e0] at this
      exact absurd rfl this
  have hs : Proofs.YtdplphhlclhmfaaDoor.stepD L f a = x := by unfold Proofs.YtdplphhlclhmfaaDoor.stepD; rw [hx]; rfl
  have h1 := List.mem_of_find?_eq_some hx
  have h2 := of_decide_eq_true (List.find?_some (p := fun d => decide (f.getD (De L d) 0 = f.getD a 0 - 1)) hx)
  have h3 := (arL_iff hg.toWF ha).1 h1
  rw [hs]
  exact ⟨h1, h3.1, h3.2, by omega, hg.toWF.vtx_lt (hg.twin _ h3.1), hx⟩
theorem FarOk.zero_iff (h : FarOk L b f) (hb : b < L.length) {a : Nat} (ha : a < L.length) : f.getD a 0 = 0 ↔ a = b := by
  constructor
  · intro e
    rcases h.way a ha with ⟨e1, _⟩ | ⟨m, e1, w, _⟩
    · omega
    · obtain rfl : m = 0 := by omega
      exact w.zero
  · rintro rfl
    rcases h.way a ha with ⟨_, n1⟩ | ⟨m, e1, _, hm⟩
    · exact absurd Way.stay (n1 0)
    · have := hm 0 Way.stay
      omega
theorem FarOk.is_iff (h : FarOk L b f) (hg : Good E L) (hb : b < L.length) {a : Nat} (ha : a < L.length) : 0 ≤ f.getD a 0 ↔ (grp L E).getD a 0 = (grp L E).getD b 0 := by
  rw [grp_iff hg ha hb]
  constructor
  · intro e
    rcases h.way a ha with ⟨e1, _⟩ | ⟨m, _, w, _⟩
    · omega
    · exact w.hang hg
  · intro k
    obtain ⟨n, w⟩ := Way.of_hang hg k.symm
    rcases h.way a ha with ⟨_, n1⟩ | ⟨m, e1, _, _⟩
    · exact absurd w (n1 n)
    · omega
theorem FarOk.le (h : FarOk L b f) {a n : Nat} (ha : a < L.length) (w : Way L b n a) : 0 ≤ f.getD a 0 ∧ f.getD a 0 ≤ (n : Int) := by
  rcases h.way a ha with ⟨_, n1⟩ | ⟨m, e1, _, hm⟩
  · exact absurd w (n1 n)
  · have := hm n w
    omega
theorem FarOk.lt (h : FarOk L b f) (hg : Good E L) {a : Nat} (ha : a < L.length) : -1 ≤ f.getD a 0 ∧ f.getD a 0 < (L.length : Int) := by
  have hc : ∀ a, a < L.length → ∀ m : Nat, f.getD a 0 = (m : Int) + 1 → ∃ c, c < L.length ∧ f.getD c 0 = (m : Int) := fun a ha m e => by
    have := h.stepD hg ha (n := m) (by omega)
    exact ⟨_, this.2.2.2.2.1, this.2.2.2.1⟩
  rcases h.way a ha with ⟨e1, _⟩ | ⟨m, e1, _, _⟩
  · omega
  · have := far_lt h.len hc ha e1
    omega
end
/-! A row that is taken off at its head and laid on at its end. -/
/-- What waits: a row whose head was cut off. -/
structure QRow (w : World) (B g off n c : Nat) (xs : List Nat) : Prop where
  ln : xs.length = n
  lo : B ≤ g
  ex : ∃ cur : Array Value, Blk w g cur 3 ∧ n ≤ c ∧ c ≤ maxLen ∧ off + c ≤ cur.size ∧ (cur.toList.drop off).take n = nats xs
section
variable {w w1 : World} {B g off n c x : Nat} {xs : List Nat}
theorem QRow.lit (w : World) (x : Nat) (hB : B ≤ w.heap.size) : QRow (w.alloc (.cells #[.int .i64 (x : Int)] 3)) B w.heap.size 0 1 1 [x] :=
  ⟨rfl, hB, _, Blk.new w _ _, Nat.le_refl _, by decide, Nat.le_refl _, rfl⟩
theorem QRow.lt (h : QRow w B g off n c xs) : g < w.heap.size := by
  obtain ⟨cur, hb, _⟩ := h.ex
  exact hb.lt
theorem QRow.cap (h : QRow w B g off n c xs) : n ≤ c := by
  obtain ⟨_, _, hc, _⟩ := h.ex
  exact hc
theorem QRow.kept {fp : Nat → Prop} (h : QRow w B g off n c xs) (hk : Keeps fp w w1) (hn : ¬ fp g) : QRow w1 B g off n c xs := by
  obtain ⟨cur, hb, hr⟩ := h.ex
  exact ⟨h.ln, h.lo, cur, hb.kept hk hn, hr⟩
theorem QRow.keep (h : QRow w B g off n c xs) (hk : Keeps (fun _ => False) w w1) : QRow w1 B g off n c xs := h.kept hk id
theorem QRow.cell (h : QRow w B g off n c xs) (j : Nat) (hj : j < n) : w.cell? ⟨g, off + j, none⟩ = (nats xs)[j]? := by
  obtain ⟨cur, hb, _, _, _, ht⟩ := h.ex
  rw [hb.cell, ← ht, List.getElem?_take, if_pos hj, List.getElem?_drop, Array.getElem?_toList]
theorem QRow.head (h : QRow w B g off (n + 1) c (x :: xs)) : w.cell? ⟨g, off, none⟩ = some (.int .i64 (x : Int)) := by
  have := h.cell 0 (Nat.succ_pos _)
  rw [Nat.add_zero] at this
  rw [this]
  rfl
theorem QRow.tail (h : QRow w B g off (n + 1) c (x :: xs)) : QRow w B g (off + 1) n (c - 1) xs := by
  obtain ⟨cur, hb, hc, hm, hs, ht⟩ := h.ex
  refine ⟨by have := h.ln; simpa using this, h.lo, cur, hb, by omega, by omega, by omega, ?_⟩
  have h1 : cur.toList.drop (off + 1) = (cur.toList.drop off).drop 1 := by rw [List.drop_drop]
  rw [h1]
  have h2 : ((cur.toList.drop off).take (n + 1)).drop 1 = (nats (x :: xs)).drop 1 := by rw [ht]
  rw [List.drop_take] at h2
  simpa [nats] using h2
theorem QRow.gone (h : QRow w B g off n c xs) (o k : Nat) (hk : o + k ≤ off + c) (hm : k ≤ c) : QRow w B g o 0 k [] := by
  obtain ⟨cur, hb, hc, hmx, hs, ht⟩ := h.ex
  exact ⟨rfl, h.lo, cur, hb, Nat.zero_le _, Nat.le_trans hm hmx, Nat.le_trans hk hs, rfl⟩
/-- Laid on at its end. -/
theorem QRow.push {P : Program} (h : QRow w B g off n c xs) (i : TypeInfo) (t ty : TypeId) (ht : P.underlying t = some (.slice 3)) (hi : P.info? 3 = some i) (hz : i.zero = some (.int .i64 0)) (h1 : i.size = 1) (h8 : i.bytes = 8)
    (a : Addr) (y : Nat) (hy : w.cell? a = some (.int .i64 (y : Int))) (hn : n ≤ 4294967296) (hB : B ≤ w.heap.size) :
    ∃ g' off' c' w', (Builtin.append_ #[t, t] ty #[.slice (some ⟨g, off, none⟩) n c, .slice (some a) 1 1]).run P w = .ok (.slice (some ⟨g', off', none⟩) (n + 1) c') w' ∧ QRow w' B g' off' (n + 1) c' (xs ++ [y]) ∧ Keeps (fun k => k = g) w w' ∧ (g' = g ∨ g' = w.heap.size) := by
  obtain ⟨cur, hb, hc, hm, hs, htk⟩ := h.ex
  have hl : ([Value.int .i64 (y : Int)]).length = 1 * i.size := by rw [h1]; rfl
  have hnews : ∀ j u, [Value.int .i64 (y : Int)][j]? = some u → w.cell? (a.add j) = some u := fun j u hu => by
    cases j with
    | zero => rw [Addr.add_zero', hy]; exact hu
    | succ j => simp at hu
  have hln : (xs ++ [y]).length = n + 1 := by rw [List.length_append, h.ln]; rfl
  by_cases hroom : n + 1 ≤ c
  · have hf := run_firstCells_some (P := P) w i.size 1 a 1 1 [Value.int .i64 (y : Int)] hl hnews
    have hst := run_storeCells_at P g (off + n * i.size) 3 [Value.int .i64 (y : Int)] 0 cur w hb (by rw [h1]; simp; omega) (by simp [Value.oneCell'])
    simp only [List.length_singleton, Nat.add_zero] at hst
    obtain ⟨nc, hnc⟩ : ∃ nc : Array Value, nc = (cur.toList.take (off + n * i.size) ++ [Value.int .i64 (y : Int)] ++ cur.toList.drop (off + n * i.size + 1)).toArray := ⟨_, rfl⟩
    rw [← hnc] at hst
    have hsz : off + c ≤ nc.size := by
      rw [hnc]
      simp only [List.size_toArray, List.length_append, List.length_take, List.length_drop, Array.length_toList, List.length_singleton, h1]
      omega
    have htn : (nc.toList.drop off).take (n + 1) = nats (xs ++ [y]) := by
      rw [hnc, h1, Nat.mul_one, List.toList_toArray, List.append_assoc, List.drop_append_of_le_length (by simp; omega), List.drop_take]
      rw [show off + n - off = n by omega, htk]
      rw [List.take_append, List.take_of_length_le (by unfold nats; rw [List.length_map, h.ln]; omega), nats_append]
      congr 1
      unfold nats
      rw [List.length_map, h.ln]
      simp
    refine ⟨g, off, c, w.setRow g nc, ?_, ⟨hln, h.lo, nc, setRow_heap w g cur nc 3 _ hb, hroom, hm, hsz, htn⟩, ⟨rfl, rfl, rfl, by simp, fun k _ hk => setRow_other w g k _ hk⟩, Or.inl rfl⟩
    simp [Builtin.append_, run_underlying ht, sizeOf, typeInfo, hi, Builtin.lenOf, hroom, hf, Addr.add_lit, hst]
  · have holds : ∀ j u, (nats xs)[j]? = some u → w.cell? ((⟨g, off, none⟩ : Addr).add j) = some u := fun j u hu => by
      have hj : j < n := by
        have := (List.getElem?_eq_some_iff.1 hu).1
        unfold nats at this
        rw [List.length_map, h.ln] at this
        exact this
      rw [Addr.add_lit, h.cell j hj]
      exact hu
    have hr := run_append_grow (P := P) w t ty 3 i (.int .i64 0) ht hi hz ⟨g, off, none⟩ n c (nats xs) (by unfold nats; rw [List.length_map, h.ln, h1, Nat.mul_one]) holds a 1 1 [Value.int .i64 (y : Int)] hl hnews (by omega) (by omega) (growslice_fits (by omega) (by rw [h8]; omega))
    have hge := grownCap_ge w (n + 1) c 3
    have hcm : grownCap w (n + 1) c 3 ≤ maxLen := grownCap_le_maxLen w (n + 1) c 3 (by unfold maxLen; omega)
    refine ⟨w.heap.size, 0, _, _, hr, ⟨hln, hB, _, heap_alloc_new w.drew _, hge, hcm, ?_, ?_⟩, ⟨rfl, rfl, rfl, by simp, fun k hk _ => heap_alloc_old w.drew _ hk⟩, Or.inr rfl⟩
    · simp only [Array.size_append, List.size_toArray, size_zeroCells, Value.cells, nats, List.length_map, h.ln, List.length_singleton]
      simp
      omega
    · simp only [Array.toList_append, List.append_assoc, List.drop_zero]
      rw [← List.append_assoc, nats_append]
      refine List.take_left' ?_
      unfold nats
      simp [h.ln]
theorem wpList_qpush {P : Program} {ops : Array Oper} {rest : List Oper} {o : Oper} {a : Act} {Q : Exit → Act → World → Prop} (hgd : o.guard = none) (s x : Operand) (t : TypeId)
    (ho : o.op = .call { callee := .builtin .append, args := #[s, x], argTypes := #[t, t] })
    (i : TypeInfo) (ht : P.underlying t = some (.slice 3)) (hi : P.info? 3 = some i) (hz : i.zero = some (.int .i64 0)) (h1 : i.size = 1) (h8 : i.bytes = 8)
    (hs : a.eval s = .slice (some ⟨g, off, none⟩) n c) (hq : QRow w B g off n c xs) (b y : Nat) (tn : TypeId) (hx : a.eval x = .slice (some ⟨b, 0, none⟩) 1 1) (hb : b = w.heap.size) (hn : n ≤ 4294967296) (hB : B ≤ w.heap.size)
    (h : ∀ g' off' c' w', QRow w' B g' off' (n + 1) c' (xs ++ [y]) → Keeps (fun k => k = g) w w' → (g' = g ∨ w.heap.size < g') → w.heap.size < w'.heap.size → wpList P ops Q rest (a.put o.dst (.slice (some ⟨g', off', none⟩) (n + 1) c')) w') :
    wpList P ops Q (o :: rest) a (w.alloc (.cells #[.int .i64 (y : Int)] tn)) := by
  subst hb
  have hal : Keeps (fun k => k = g) w (w.alloc (.cells #[.int .i64 (y : Int)] tn)) := (Keeps.refl _ _).alloc _
  obtain ⟨g', off', c', w', hr, h2, h3, h4⟩ := (hq.keep ((Keeps.refl _ _).alloc (.cells #[.int .i64 (y : Int)] tn))).push (P := P) i t o.type ht hi hz h1 h8 ⟨w.heap.size, 0, none⟩ y (by rw [(Blk.new w _ _).cell]; rfl) hn (by simp; omega)
  refine wpList_plain hgd fun K hK => ?_
  unfold Oper.wp execOp
  simp only [ho, resolve, invoke, builtin, Sem.run_bind, Sem.run_pure, Result.andThen_ok, List.map_toArray, List.map_cons, List.map_nil, hs, hx, hr]
  exact hK _ _ (h g' off' c' w' h2 (hal.trans' h3) (h4.imp id fun e => by rw [e]; simp) (by have := h3.size; simp at this; omega))
end
/-! kin: steps: how far each vertex is. -/
theorem i64s_set (l : List Int) (i : Nat) (x : Int) : (i64s l).toArray.setIfInBounds i (.int .i64 x) = (i64s (l.set i x)).toArray := by
  rw [List.setIfInBounds_toArray]
  congr 1
  unfold i64s
  rw [List.map_set]
/-- What is told and what waits, in memory. -/
structure FrW (B fb V : Nat) (w : World) (f : List Int) (q : List Nat) (g off n c k : Nat) (wr : World) : Prop where
  bl : Blk wr fb (i64s f).toArray 3
  ow : QRow wr B g off n c q
  fl : f.length = V
  kp : Keeps (fun _ => False) w wr
  cnt : q.length + f.count (-1) ≤ k
  lo : fb < B
  hw : w.heap.size ≤ fb
  hB : B ≤ wr.heap.size
section
variable {B fb V g off n c k : Nat} {w wr w1 : World} {f : List Int} {q : List Nat}
theorem FrW.keep (h : FrW B fb V w f q g off n c k wr) (hk : Keeps (fun _ => False) wr w1) : FrW B fb V w f q g off n c k w1 :=
  ⟨h.bl.kept hk id, h.ow.keep hk, h.fl, h.kp.trans' hk, h.cnt, h.lo, h.hw, Nat.le_trans h.hB hk.size⟩
theorem FrW.cell (h : FrW B fb V w f q g off n c k wr) {y : Nat} (hy : y < V) : wr.cell? ⟨fb, y, none⟩ = some (.int .i64 (f.getD y 0)) := by
  rw [h.bl.cell, List.getElem?_toArray, i64s_get (by rw [h.fl]; exact hy)]
theorem FrW.ne (h : FrW B fb V w f q g off n c k wr) : fb ≠ g := by
  have := h.lo
  have := h.ow.lo
  omega
/-- One more told. -/
theorem FrW.tell {y : Nat} {v : Int} (h : FrW B fb V w f q g off n c k wr) (hy : y < V) (h0 : f.getD y 0 = -1) (hv : v ≠ -1) : FrW B fb V w (f.set y v) q g off n c (k - 1) (wr.setCell ⟨fb, y, none⟩ (.int .i64 v)) ∧ 1 ≤ k := by
  have hc := count_setI (by rw [h.fl]; exact hy) h0 hv
  have hk : Keeps (fun q => q = fb) wr (wr.setCell ⟨fb, y, none⟩ (.int .i64 v)) := (Keeps.refl (fun q => q = fb) wr).setIn fb y _ rfl
  have hct := h.cnt
  refine ⟨⟨?_, h.ow.kept hk fun e => h.ne e.symm, by rw [List.length_set]; exact h.fl, h.kp.setNew h.hw _ _, by omega, h.lo, h.hw, Nat.le_trans h.hB hk.size⟩, by omega⟩
  have := h.bl.set y (.int .i64 v)
  rwa [i64s_set] at this
/-- .. and waits. -/
theorem FrW.more {y g' off' c' : Nat} (h : FrW B fb V w f q g off n c k wr) (ho : QRow w1 B g' off' (n + 1) c' (q ++ [y])) (hk : Keeps (fun k => k = g) wr w1) : FrW B fb V w f (q ++ [y]) g' off' (n + 1) c' (k + 1) w1 := by
  have hct := h.cnt
  refine ⟨h.bl.kept hk h.ne, ho, h.fl, h.kp.thin hk fun q e => ?_, by rw [List.length_append, List.length_singleton]; omega, h.lo, h.hw, Nat.le_trans h.hB hk.size⟩
  have := h.ow.lo
  have := h.lo
  have := h.hw
  omega
/-- The first is done. -/
theorem FrW.pop {x o2 c2 : Nat} (h : FrW B fb V w f (x :: q) g off (n + 1) c k wr) (hq : QRow wr B g o2 n c2 q) : FrW B fb V w f q g o2 n c2 (k - 1) wr ∧ 1 ≤ k := by
  have hct := h.cnt
  rw [List.length_cons] at hct
  exact ⟨⟨h.bl, hq, h.fl, h.kp, by omega, h.lo, h.hw, h.hB⟩, by omega⟩
end
/-- A list of the call's own, of any numbers. -/
def FarPost (L : List (List Nat)) (b : Nat) (w : World) (e : Ending) (w' : World) : Prop :=
  ∃ fb f, e = .returned (.slice (some ⟨fb, 0, none⟩) L.length L.length) ∧ FarOk L b f ∧ Blk w' fb (i64s f).toArray 3 ∧ w.heap.size ≤ fb ∧ Keeps (fun _ => False) w w'
def mfill (V k : Nat) : List Int := List.replicate k (-1) ++ List.replicate (V - k) 0
theorem mfill_length (V k : Nat) (h : k ≤ V) : (mfill V k).length = V := by simp [mfill]; omega
theorem mfill_set {V k : Nat} (h : k < V) : (mfill V k).set k (-1) = mfill V (k + 1) := by
  unfold mfill
  rw [List.set_append_right _ _ (by simp)]
  simp only [List.length_replicate, Nat.sub_self]
  rw [show V - k = (V - (k + 1)) + 1 by omega, List.replicate_succ, List.set_cons_zero, List.replicate_succ']
  simp
section
variable {w : World} {own : Nat → Prop} {p E : Nat} {L : List (List Nat)}
set_option maxHeartbeats 8000000 in
theorem ksteps (h : Tu w own p E L) (hg : Good E L) {b : Nat} (hb : b < L.length) : Calls Tryd.prog 64 #[tptr p, .int .i64 (b : Int)] w (FarPost L b w) := by
  have hV := h.v2
  have HT := Lib.hid h
  have HG := Lib.hid hg
  have HS := Lib.hid (tsizes h)
  obtain ⟨ib, hib, hb0, hb1, hb2⟩ := info_parts infoI
  obtain ⟨i0, hi, hz0, hz1, hz2⟩ := info_parts infoI
  have hmkI : ∀ W, (Instr.makeSlice 23 (.int .i64 (L.length : Int)) (.int .i64 (L.length : Int))).run Tryd.prog W = .ok (.slice (some ⟨W.heap.size, 0, none⟩) L.length L.length) (W.alloc (.cells (i64s (mfill L.length 0)).toArray 3)) := fun W => by
    have := run_make (P := Tryd.prog) W 23 3 ib _ Tryd.underlying23 hib hb0 .i64 .i64 (L.length : Int) (L.length : Int) (by omega) (Int.le_refl _) (by rw [hb2]; omega) (by omega)
    rw [this, hb1, show (Value.int .i64 0).cells = #[.int .i64 0] from rfl, Int.toNat_natCast, Nat.mul_one, madeCells_one]
    unfold mfill i64s
    simp
  clear hib hb0 hb1 hb2 h hg
  unfold RetPost tptr at HS
  unfold FarPost tptr
  have hbI : (b : Int) < (L.length : Int) := Int.ofNat_lt.2 hb
  go_enter Tryd.func64, Tryd.ntmps64
  go_wp2_with fail
  with_reducible refine HS.out.mono ?_
  rintro e w1 ⟨rfl, hk⟩
  have HK1 := Lib.hid hk
  clear hk HS
  go_upto_region 3 with fail
  have HB0 : Hid (Blk (w1.alloc (.cells (i64s (mfill L.length 0)).toArray 3)) w1.heap.size (i64s (mfill L.length 0)).toArray 3 ∧ Keeps (fun _ => False) w (w1.alloc (.cells (i64s (mfill L.length 0)).toArray 3))) := Lib.hid ⟨Blk.new _ _ _, HK1.out.alloc _⟩
  have HOB : Hid (w.heap.size ≤ w1.heap.size) := Lib.hid HK1.out.size
  clear hmkI HK1
  generalize w1.alloc _ = w2 at *
  generalize w1.heap.size = fb at *
  have HBX : Hid (fb < w2.heap.size) := Lib.hid HB0.out.1.lt
  go_upto_region 4 with fail
  go_loopw [22] (fun i wr => ∃ (k : Nat), k ≤ L.length ∧ i = .int .i64 (k : Int) ∧ Hid (Blk wr fb (i64s (mfill L.length k)).toArray 3 ∧ Keeps (fun _ => False) w wr ∧ w2.heap.size ≤ wr.heap.size)) (fun i _ => L.length - (intOf i).toNat)
  case atStart => exact ⟨0, Nat.zero_le _, rfl, Lib.hid ⟨HB0.out.1, HB0.out.2, Nat.le_refl _⟩⟩
  case round =>
    obtain ⟨k, hk, rfl, HR⟩ := hrel
    clear HB0
    have f0 := HR.out.1.free k
    by_cases hkV : k < L.length
    · have hkI : (k : Int) < (L.length : Int) := Int.ofNat_lt.2 hkV
      have q0 := HR.out.1.cell k
      rw [List.getElem?_toArray, i64s_get (by rw [mfill_length _ _ hk]; exact hkV)] at q0
      have HN : Hid (Blk (wr.setCell ⟨fb, k, none⟩ (.int .i64 (-1))) fb (i64s (mfill L.length (k + 1))).toArray 3 ∧ Keeps (fun _ => False) w (wr.setCell ⟨fb, k, none⟩ (.int .i64 (-1))) ∧ w2.heap.size ≤ (wr.setCell ⟨fb, k, none⟩ (.int .i64 (-1))).heap.size) := Lib.hid ⟨by
        have := HR.out.1.set k (.int .i64 (-1))
        rwa [i64s_set, mfill_set hkV] at this, HR.out.2.1.setNew HOB.out _ _, by have := HR.out.2.2; simpa using this⟩
      generalize (mfill L.length k).getD k 0 = z at *
      clear HR
      go_wp2_with fail
      exact ⟨⟨k + 1, by omega, by simp, HN⟩, by simp [intOf]; omega⟩
    · obtain rfl : k = L.length := by omega
      have HO : Hid (Blk wr fb (i64s (List.replicate L.length (-1))).toArray 3 ∧ Keeps (fun _ => False) w wr ∧ w2.heap.size ≤ wr.heap.size) := Lib.hid ⟨by
        have := HR.out.1
        rwa [show mfill L.length L.length = List.replicate L.length (-1) by unfold mfill; simp] at this, HR.out.2⟩
      clear HR f0
      have q0 := HO.out.1.cell b
      rw [List.getElem?_toArray, i64s_get (by simpa using hb), mones_get _ _ hb] at q0
      have f0 := HO.out.1.free b
      go_upto_region 9 with fail
      have HFW : Hid (∀ W B, W = wr.setCell ⟨fb, b, none⟩ (.int .i64 0) → w2.heap.size = B → FrW B fb L.length w ((List.replicate L.length (-1)).set b 0) [b] W.heap.size 0 1 1 (L.length + 1) (W.alloc (.cells #[.int .i64 (b : Int)] 3))) := Lib.hid fun W B hW hB => by
        have hbl : Blk W fb (i64s ((List.replicate L.length (-1)).set b 0)).toArray 3 := by
          rw [hW]
          have := HO.out.1.set b (.int .i64 0)
          rwa [i64s_set] at this
        have hsz : W.heap.size = wr.heap.size := by rw [hW]; simp
        have h3 := HO.out.2.2
        have hBX := HBX.out
        refine ⟨hbl.alloc _, QRow.lit W b (by omega), by simp, ?_, ?_, by omega, HOB.out, by rw [size_alloc]; omega⟩
        · rw [hW]
          exact (HO.out.2.1.setNew HOB.out _ _).alloc _
        · have := List.count_le_length (a := (-1 : Int)) (l := (List.replicate L.length (-1 : Int)).set b 0)
          simp at this
          simp
          omega
      obtain ⟨B, hB⟩ : ∃ B, w2.heap.size = B := ⟨_, rfl⟩
      rw [hB] at HFW
      have HFW2 := Lib.hid fun W hW => HFW.out W B hW rfl
      clear HFW HO q0 f0
      generalize hW3 : World.setCell wr _ _ = w3 at *
      have HIN : Hid (∃ f q x0 hd, BfI L b f q x0 [] hd ∧ FrW B fb L.length w f q w3.heap.size 0 1 1 (L.length + 1) (w3.alloc (.cells #[.int .i64 (b : Int)] 3))) := Lib.hid ⟨_, _, 0, _, BfI.begin hb 0, HFW2.out _ rfl⟩
      clear HFW2 hW3
      go_upto_region 10 with fail
      go_loopg [9] (L.length + 1) (fun k x wx => ∃ (n g off c : Nat), k ≤ L.length + 1 ∧ x = .slice (some ⟨g, off, none⟩) n c ∧ Hid (∃ f q x0 hd, BfI L b f q x0 [] hd ∧ FrW B fb L.length w f q g off n c k wx))
      case atStart => exact ⟨1, _, 0, 1, Nat.le_refl _, rfl, HIN⟩
      case round =>
        obtain ⟨n, g, off, c, hgq, rfl, HX⟩ := hrel
        clear HIN
        cases n with
        | zero =>
          have HF : Hid (∀ wz, Keeps (fun _ => False) wr wz → ∃ f, FarOk L b f ∧ Blk wz fb (i64s f).toArray 3 ∧ w.heap.size ≤ fb ∧ Keeps (fun _ => False) w wz) := Lib.hid (by
            intro wz hkz
            obtain ⟨f, q, x0, hd, h1, h2⟩ := HX.out
            have hq0 : q = [] := List.eq_nil_of_length_eq_zero h2.ow.ln
            subst hq0
            have h3 := h2.keep hkz
            exact ⟨f, h1.done HG.out hb, h3.bl, h3.hw, h3.kp⟩)
          clear HX
          go_wp2_with fail
          go_ret
          obtain ⟨f, h1, h2, h3, h4⟩ := HF.out _ (Keeps.refl _ _)
          exact ⟨fb, rfl, f, h1, h2, h3, h4⟩
        | succ n =>
          obtain ⟨f, q, x0, hd, h1, h2⟩ := HX.out
          clear HX
          obtain ⟨x, q, rfl⟩ : ∃ x q', q = x :: q' := by
            cases q with
            | nil => have := h2.ow.ln; cases this
            | cons x q' => exact ⟨x, q', rfl⟩
          obtain rfl : q.length = n := by simpa using h2.ow.ln
          obtain ⟨hbt, hxl, hx0⟩ := h1.take HG.out
          have hcx := h2.ow.head
          have hcap := h2.ow.cap
          obtain ⟨g2, rfl⟩ : ∃ g2, gk = g2 + 1 := ⟨gk - 1, by have := h2.cnt; simp at this; omega⟩
          have hql : q.length ≤ L.length := by have := h2.cnt; simp at this; omega
          have HBT := Lib.hid hbt
          have HFR := Lib.hid h2
          have HX0 := Lib.hid hx0
          have HAR := Lib.hid (karound (HT.out.keep h2.kp) hxl)
          have HAI : Hid (∀ d, d ∈ arL L x → Stands L d ∧ vtx L d = x) := Lib.hid fun d hd => (arL_iff HG.out.toWF hxl).1 hd
          have hqI : (0 : Int) < (q.length : Int) + 1 := Int.lt_add_one_of_le (Int.natCast_nonneg _)
          clear h1 h2 hbt hx0
          unfold OwnPost tptr at HAR
          go_wp2_with (go_at_call 61; with_reducible refine HAR.out.mono ?_; rintro e w5 ⟨av, rfl, ho5, hk5⟩; obtain ⟨a5, c5, rfl, hr5, _⟩ := Rd.of_own ho5; have HFS := Lib.hid (Fresh.of_own ho5 rfl (Nat.le_refl _)); have HR5 := Lib.hid hr5; have HW5 := Lib.hid (HFR.out.keep hk5); clear hr5 ho5 hk5 HAR hcx)
          generalize hal : arL L x = al at *
          have hall : al.length ≤ 4194304 := by
            rw [← hal, arL_length]
            have h5 := HT.out.len (some_getD hxl)
            have h6 := HT.out.e2
            omega
          clear hal
          have H4 : Hid (∃ f q2, BfI L b f q2 x (al.drop 0) (f.getD x 0) ∧ FrW B fb L.length w f (x :: q2) g off (q.length + 1) c (g2 + 1) w5 ∧ 0 ≤ f.getD x 0 ∧ Rd w5 a5 (nats al) ∧ ∀ b off, a5 = some ⟨b, off, none⟩ → al ≠ [] → b ≠ fb ∧ b ≠ g) := Lib.hid (by
            refine ⟨f, q, HBT.out, HW5.out, HX0.out, HR5.out, fun b off e hl => ?_⟩
            have h7 := HFS.out b off e
            have h8 := HFR.out.lo
            have h9 := HFR.out.hB
            have h10 := HFR.out.ow.lt
            omega)
          clear HBT HFR HW5 HX0 HR5 HFS
          go_loopg [9, 45] al.length (fun k xw i wx => ∃ (j m g off c : Nat), j + k = al.length ∧ i = .int .i64 (j : Int) ∧ xw = .slice (some ⟨g, off, none⟩) (m + 1) c ∧ Hid (∃ f q, BfI L b f q x (al.drop j) (f.getD x 0) ∧ FrW B fb L.length w f (x :: q) g off (m + 1) c (g2 + 1) wx ∧ 0 ≤ f.getD x 0 ∧ Rd wx a5 (nats al) ∧ ∀ b off, a5 = some ⟨b, off, none⟩ → al ≠ [] → b ≠ fb ∧ b ≠ g))
          case atStart => exact ⟨0, q.length, g, off, c, by omega, rfl, rfl, H4⟩
          case round =>
            obtain ⟨j, m, g, off, c, hj, rfl, rfl, HX⟩ := hrel
            clear H4
            obtain ⟨f, q, h1, h2, h3, h4, h5⟩ := HX.out
            clear HX
            by_cases hjl : j < al.length
            · obtain ⟨g3, rfl⟩ : ∃ g3, gk = g3 + 1 := ⟨gk - 1, by omega⟩
              have hd0 : al.drop j = al.getD j 0 :: al.drop (j + 1) := by
                rw [List.drop_eq_getElem_cons hjl, List.getD_eq_getElem?_getD, List.getElem?_eq_getElem hjl]; rfl
              have hmem : al.getD j 0 ∈ al := getD_mem hjl
              obtain ⟨hds, hdx⟩ := HAI.out _ hmem
              obtain ⟨b5, o5, e5, hcd⟩ := h4.nat hjl
              have hal0 : al ≠ [] := fun e => by rw [e] at hjl; simp at hjl
              have hsep := h5 b5 o5 e5 hal0
              subst e5
              have hb5 := rd_lt h4 hal0 rfl
              have hjI : (j : Int) < (al.length : Int) := by omega
              rw [hd0] at h1
              generalize al.getD j 0 = d at *
              have hyl : De L d < L.length := HG.out.toWF.vtx_lt (HG.out.twin _ hds)
              have hyI : ((De L d : Nat) : Int) < (L.length : Int) := Int.ofNat_lt.2 hyl
              have HKE := Lib.hid (kend (HT.out.keep h2.kp) HG.out hds)
              have q1 := h2.cell hyl
              have q2 := h2.cell hxl
              have q3 := h2.ow.head
              have hxI : (x : Int) < (L.length : Int) := Int.ofNat_lt.2 hxl
              have hmI : (0 : Int) < (m : Int) + 1 := Int.lt_add_one_of_le (Int.natCast_nonneg _)
              have hFb := (h1.bound hxl).2
              have H1 := Lib.hid h1
              have H2 := Lib.hid h2
              have HD := Lib.hid (And.intro hds hdx)
              have H3 := Lib.hid h3
              have H4b := Lib.hid h4
              have HSEP := Lib.hid hsep
              unfold RetPost tptr at HKE
              clear h1 h2 h3 h4 h5 hd0 hmem hds hdx hsep
              generalize hy : De L d = y at *
              have HY := Lib.hid hy
              clear hy
              by_cases hse : f.getD y 0 < 0
              · have HFO := Lib.hid (H1.out.found HG.out H3.out HD.out.1 HD.out.2 (by rw [HY.out]; exact hse))
                rw [HY.out] at HFO
                have hm1 : f.getD y 0 = -1 := HFO.out.2.2
                rw [hm1] at q1
                obtain ⟨F, hF⟩ : ∃ F, f.getD x 0 = F := ⟨_, rfl⟩
                rw [hF] at q2 HFO hFb H3
                have hF0 := H3.out
                have H3b := H3
                have hw1 : wrap64 (F + 1) = F + 1 := by unfold wrap64; omega
                have HTE : Hid (∀ wz, Keeps (fun _ => False) wr wz → FrW B fb L.length w (f.set y (F + 1)) (x :: q) g off (m + 1) c g2 (wz.setCell ⟨fb, y, none⟩ (.int .i64 (F + 1)))) := Lib.hid fun wz hk => ((H2.out.keep hk).tell hyl hm1 (by omega)).1
                have HFZ : Hid (∀ wz, Keeps (fun _ => False) wr wz → wz.frozen? ⟨fb, y, none⟩ = false) := Lib.hid fun wz hk => (H2.out.keep hk).bl.free y
                have hmb : m ≤ L.length + 1 := by have := H2.out.cnt; have := H2.out.ow.ln; simp at *; omega
                clear H1 H2 HD H3 HY hse hm1 hF hF0
                go_upto_region 18 with (go_at_call 62; with_reducible refine HKE.out.mono ?_; rintro e w6 ⟨rfl, hk6⟩; have r1 := hk6.cellF q1; have r2 := hk6.cellF q2; have r3 := hk6.cellF q3; have HTE6 := Lib.hid (HTE.out _ hk6); have fz6 := HFZ.out _ hk6; have HR6 := Lib.hid (H4b.out.keep hk6); have HS6 := Lib.hid hk6.size; clear HKE hk6 q1 q2 q3 hcd HTE H4b HFZ)
                have HR7 : Hid (Rd (World.setCell w6 ⟨fb, y, none⟩ (.int .i64 (F + 1))) (some ⟨b5, o5, none⟩) (nats al) ∧ (World.setCell w6 ⟨fb, y, none⟩ (.int .i64 (F + 1))).heap.size = w6.heap.size) := Lib.hid ⟨HR6.out.kept ((Keeps.refl (fun q => q = fb) w6).setIn fb y _ rfl) (fun b off e k => by cases e; exact HSEP.out.1 k), by simp⟩
                clear HR6 r1 r2 r3 fz6
                generalize World.setCell w6 _ _ = w7 at *
                have hown0 := HTE6.out.ow
                have hB7 := HTE6.out.hB
                have HGT : Hid (g < w7.heap.size ∧ w6.heap.size = w7.heap.size) := Lib.hid ⟨hown0.lt, HR7.out.2.symm⟩
                go_wp2_with (at_builtin; refine wpList_qpush rfl _ _ 23 rfl i0 Tryd.underlying23 hi hz0 hz1 hz2 rfl hown0 _ y 3 rfl rfl ?c1 ?c2 ?_)
                case c1 => omega
                case c2 => exact hB7
                intro g8 off8 c8 w8 ho hk8 hb8 hs8
                have HN : Hid (∃ f q, BfI L b f q x (al.drop (j + 1)) (f.getD x 0) ∧ FrW B fb L.length w f (x :: q) g8 off8 (m + 1 + 1) c8 (g2 + 1) w8 ∧ 0 ≤ f.getD x 0 ∧ Rd w8 (some ⟨b5, o5, none⟩) (nats al) ∧ ∀ b off, some (⟨b5, o5, none⟩ : Addr) = some ⟨b, off, none⟩ → al ≠ [] → b ≠ fb ∧ b ≠ g8) := Lib.hid (by
                  refine ⟨f.set y (F + 1), q ++ [y], HFO.out.1, HTE6.out.more ho hk8, by rw [HFO.out.2.1]; exact H3b.out, HR7.out.1.kept hk8 (fun b off e k => by cases e; exact HSEP.out.2 k), fun b off e hl => ?_⟩
                  cases e
                  refine ⟨HSEP.out.1, fun e2 => ?_⟩
                  rcases hb8 with q | q
                  · exact HSEP.out.2 (e2.trans q)
                  · have h9 := HGT.out.2
                    have h10 := HS6.out
                    omega)
                clear ho hk8 hb8 hs8 hown0 hB7 HGT HR7 HTE6 HFO HSEP HS6 H3b
                go_wp2_with fail
                go_roundg g3
                case measure => omega
                case rel => exact ⟨j + 1, m + 1, g8, off8, c8, by omega, by simp, rfl, HN⟩
              · have HN : Hid (∀ wz, Keeps (fun _ => False) wr wz → ∃ f q, BfI L b f q x (al.drop (j + 1)) (f.getD x 0) ∧ FrW B fb L.length w f (x :: q) g off (m + 1) c (g2 + 1) wz ∧ 0 ≤ f.getD x 0 ∧ Rd wz (some ⟨b5, o5, none⟩) (nats al) ∧ ∀ b off, some (⟨b5, o5, none⟩ : Addr) = some ⟨b, off, none⟩ → al ≠ [] → b ≠ fb ∧ b ≠ g) := Lib.hid fun wz hk => by
                  refine ⟨f, q, H1.out.seen HG.out HD.out.1 HD.out.2 (by rw [HY.out]; omega), H2.out.keep hk, H3.out, H4b.out.keep hk, fun b off e _ => ?_⟩
                  cases e
                  exact HSEP.out
                clear H1 H2 HD H3 H4b HSEP HY q2 q3
                generalize f.getD y 0 = z at *
                go_wp2_with (go_at_call 62; with_reducible refine HKE.out.mono ?_; rintro e w6 ⟨rfl, hk6⟩; have r1 := hk6.cellF q1; have HN6 := Lib.hid (HN.out _ hk6); clear HKE hk6 q1 hcd)
                go_roundg g3
                case measure => omega
                case rel => exact ⟨j + 1, m, g, off, c, by omega, by simp, rfl, HN6⟩
            · have hq2 := h2.ow.ln
              have hcap2 := h2.ow.cap
              have hpop : ∀ o2 c2, QRow wr B g o2 m c2 q → FrW B fb L.length w f q g o2 m c2 g2 wr := fun o2 c2 hq => (h2.pop hq).1
              have HBI := Lib.hid (show BfI L b f q x [] (f.getD x 0) by rw [List.drop_eq_nil_of_le (by omega)] at h1; exact h1)
              have HOW := Lib.hid h2.ow
              have HPO := Lib.hid hpop
              have hg2L : g2 ≤ L.length + 1 := by omega
              simp only [List.length_cons] at hq2
              clear h1 h2 h3 h4 h5 hpop
              have hjI : ¬ ((j : Int) < (al.length : Int)) := by omega
              have h1I : (1 : Int) ≤ (m : Int) + 1 := by omega
              by_cases hc1 : c = 1
              · subst hc1
                obtain rfl : m = 0 := by omega
                obtain rfl : q = [] := List.eq_nil_of_length_eq_zero (by omega)
                have HN : Hid (∀ o2 c2, o2 + c2 ≤ off + 1 → c2 ≤ 1 → ∃ f q x0 hd, BfI L b f q x0 [] hd ∧ FrW B fb L.length w f q g o2 0 c2 g2 wr) := Lib.hid fun o2 c2 ho hc => ⟨f, [], x, _, HBI.out, HPO.out o2 c2 (HOW.out.gone o2 c2 ho hc)⟩
                clear HBI HOW HPO
                go_wp2_with fail
                go_roundg g2
                case measure => omega
                case rel => exact ⟨0, g, _, _, by omega, rfl, Lib.hid (HN.out _ _ (by omega) (by omega))⟩
              · have HN : Hid (∃ f q x0 hd, BfI L b f q x0 [] hd ∧ FrW B fb L.length w f q g (off + 1) m (c - 1) g2 wr) := Lib.hid ⟨f, q, x, _, HBI.out, HPO.out _ _ HOW.out.tail⟩
                have hc2 : 2 ≤ c := by omega
                clear HBI HOW HPO
                go_wp2_with fail
                go_roundg g2
                case measure => omega
                case rel => exact ⟨m, g, off + 1, c - 1, by omega, rfl, HN⟩
end
end Go.Proofs.YtdplphhlclhmfaaDoor
