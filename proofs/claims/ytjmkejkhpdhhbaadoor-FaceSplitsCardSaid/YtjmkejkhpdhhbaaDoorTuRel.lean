/- Plain facts: the rows that hold the turns (of each dart its vertex, the dart behind it, the dart ahead), and what laying and taking do to them. -/
import Derived.Test.YtjmkejkhpdhhbaaDoorTuMath
namespace Go.Proofs.YtjmkejkhpdhhbaaDoor
open Go Go.RowKit
set_option linter.unusedVariables false
set_option linter.unusedSimpArgs false

abbrev Dart := Int × Int × Int
/-- The rows tell the lists. -/
structure Rel (E : Nat) (L : List (List Nat)) (D : List Dart) (ls mn : List Int) : Prop where
  wf : WF E L
  dl : D.length = 2 * E
  ll : ls.length = L.length
  ml : mn.length = L.length
  cyc : ∀ (v : Nat) (l : List Nat), L[v]? = some l → ∀ i, i < l.length → D[l.getD i 0]? = some ((v : Int), ((l.getD (sc l.length i) 0 : Nat) : Int), ((l.getD (pc l.length i) 0 : Nat) : Int))
  off : ∀ d, d < 2 * E → ¬ Stands L d → ∃ x y, D[d]? = some (-1, x, y)
  least0 : ∀ v : Nat, L[v]? = some [] → ls[v]? = some (-1)
  least1 : ∀ (v : Nat) (l : List Nat), L[v]? = some l → l ≠ [] → ∃ d, d ∈ l ∧ ls[v]? = some (d : Int)
  many : ∀ (v : Nat) (l : List Nat), L[v]? = some l → mn[v]? = some (l.length : Int)

theorem sc_last {n i : Nat} (h : i + 1 = n) : sc n i = 0 := if_pos h
theorem sc_in {n i : Nat} (h : ¬ i + 1 = n) : sc n i = i + 1 := if_neg h
theorem pc_in {n i : Nat} (h : ¬ i = 0) : pc n i = i - 1 := if_neg h
theorem getD_mem {l : List Nat} {i : Nat} (hi : i < l.length) : l.getD i 0 ∈ l := by
  rw [List.getD_eq_getElem?_getD, List.getElem?_eq_getElem hi]; exact List.getElem_mem hi
theorem getD_at {l : List Nat} {i : Nat} (hi : i < l.length) : l.getD i 0 = l[i] := by
  rw [List.getD_eq_getElem?_getD, List.getElem?_eq_getElem hi]; rfl
theorem getD_inj {l : List Nat} (h : l.Nodup) {i j : Nat} (hi : i < l.length) (hj : j < l.length) (e : l.getD i 0 = l.getD j 0) : i = j := by
  rw [getD_at hi, getD_at hj] at e
  exact (List.getElem_inj h).1 e
theorem mem_getD {l : List Nat} {x : Nat} (h : x ∈ l) : ∃ i, i < l.length ∧ l.getD i 0 = x := by
  obtain ⟨i, hi, rfl⟩ := List.mem_iff_getElem.1 h
  exact ⟨i, hi, getD_at hi⟩
theorem getD_ins (l : List Nat) (i d j : Nat) (hi : i < l.length) :
    (l.take (i + 1) ++ d :: l.drop (i + 1)).getD j 0 = if j ≤ i then l.getD j 0 else if j = i + 1 then d else l.getD (j - 1) 0 := by
  simp only [List.getD_eq_getElem?_getD, get_ins l i d j hi]
  split
  · rfl
  · split <;> rfl
theorem getD_del (l : List Nat) (i j : Nat) (hi : i < l.length) : (l.take i ++ l.drop (i + 1)).getD j 0 = if j < i then l.getD j 0 else l.getD (j + 1) 0 := by
  simp only [List.getD_eq_getElem?_getD]
  by_cases h : j < i
  · rw [if_pos h, List.getElem?_append_left (by simp; omega), List.getElem?_take, if_pos h]
  · rw [if_neg h, List.getElem?_append_right (by simp; omega), List.length_take, Nat.min_eq_left (by omega), List.getElem?_drop]
    congr 2; omega

/-- The fields of one dart told anew. -/
def setO (D : List Dart) (d : Nat) (x : Int) : List Dart := D.modify d fun q => (x, q.2.1, q.2.2)
def setN (D : List Dart) (d : Nat) (x : Int) : List Dart := D.modify d fun q => (q.1, x, q.2.2)
def setP (D : List Dart) (d : Nat) (x : Int) : List Dart := D.modify d fun q => (q.1, q.2.1, x)
theorem setO_get (D : List Dart) (d : Nat) (x : Int) (j : Nat) : (setO D d x)[j]? = if d = j then (D[j]?).map (fun q => (x, q.2.1, q.2.2)) else D[j]? := by
  unfold setO; rw [List.getElem?_modify]; split <;> simp
theorem setN_get (D : List Dart) (d : Nat) (x : Int) (j : Nat) : (setN D d x)[j]? = if d = j then (D[j]?).map (fun q => (q.1, x, q.2.2)) else D[j]? := by
  unfold setN; rw [List.getElem?_modify]; split <;> simp
theorem setP_get (D : List Dart) (d : Nat) (x : Int) (j : Nat) : (setP D d x)[j]? = if d = j then (D[j]?).map (fun q => (q.1, q.2.1, x)) else D[j]? := by
  unfold setP; rw [List.getElem?_modify]; split <;> simp
theorem setO_length (D : List Dart) (d : Nat) (x : Int) : (setO D d x).length = D.length := by simp [setO]
theorem setN_length (D : List Dart) (d : Nat) (x : Int) : (setN D d x).length = D.length := by simp [setN]
theorem setP_length (D : List Dart) (d : Nat) (x : Int) : (setP D d x).length = D.length := by simp [setP]

section
variable {E : Nat} {L : List (List Nat)} {D : List Dart} {ls mn : List Int}
theorem set_get {α : Type} {L : List α} {v : Nat} {l' : α} (hv : v < L.length) (u : Nat) : (L.set v l')[u]? = if u = v then some l' else L[u]? := by
  rw [List.getElem?_set]
  by_cases e : u = v
  · subst e; simp [hv]
  · rw [if_neg (fun h => e h.symm), if_neg e]
theorem stands_at {v : Nat} {l : List Nat} (hv : L[v]? = some l) {d : Nat} (h : d ∈ l) : Stands L d := stands_iff.2 ⟨v, l, hv, h⟩
theorem ite_map {α β : Type} {p : Prop} [Decidable p] (f : α → β) (a b : Option α) : (if p then a else b).map f = if p then a.map f else b.map f := by split <;> rfl

/-- Laid at a vertex without darts. -/
theorem Rel.put0 (h : Rel E L D ls mn) {d v : Nat} (hd : d < 2 * E) (hn : ¬ Stands L d) (hv : L[v]? = some []) (b : Int) :
    Rel E (putL L d v b) (D.set d ((v : Int), (d : Int), (d : Int))) (ls.set v (d : Int)) (mn.set v 1) := by
  have hvl : v < L.length := (List.getElem?_eq_some_iff.1 hv).1
  have hdd : d < D.length := by rw [h.dl]; exact hd
  have hg := putL_get (d := d) (b := b) hv
  have hi : insB b d [] = [d] := rfl
  rw [hi] at hg
  refine ⟨putL_wf h.wf hd hn hvl, by rw [List.length_set, h.dl], by rw [List.length_set, putL_length, h.ll], by rw [List.length_set, putL_length, h.ml], fun u l hu i hil => ?_, fun x hx hs => ?_, fun u hu => ?_, fun u l hu hl => ?_, fun u l hu => ?_⟩
  · rw [hg] at hu
    split at hu
    · rename_i e
      subst e
      cases hu
      have : i = 0 := by simpa using hil
      subst this
      rw [show ([d] : List Nat).getD 0 0 = d from rfl, set_get hdd, if_pos rfl]
      rfl
    · have hne : l.getD i 0 ≠ d := fun e => hn (stands_at hu (e ▸ getD_mem hil))
      rw [set_get hdd, if_neg hne]
      exact h.cyc u l hu i hil
  · rw [putL_stands hvl] at hs
    have hxd : x ≠ d := fun e => hs (.inl e)
    rw [set_get hdd, if_neg hxd]
    exact h.off x hx fun e => hs (.inr e)
  · rw [hg] at hu
    split at hu
    · cases hu
    · rename_i e
      rw [set_get (by rw [h.ll]; exact hvl), if_neg e]
      exact h.least0 u hu
  · rw [hg] at hu
    rw [set_get (by rw [h.ll]; exact hvl)]
    split at hu
    · rename_i e
      cases hu
      exact ⟨d, by simp, by rw [if_pos e]⟩
    · rename_i e
      rw [if_neg e]
      exact h.least1 u l hu hl
  · rw [hg] at hu
    rw [set_get (by rw [h.ml]; exact hvl)]
    split at hu
    · rename_i e
      cases hu
      rw [if_pos e]; rfl
    · rename_i e
      rw [if_neg e]
      exact h.many u l hu

/-- Laid behind another one. -/
theorem Rel.put1 (h : Rel E L D ls mn) {d v k : Nat} {l : List Nat} (hd : d < 2 * E) (hn : ¬ Stands L d) (hv : L[v]? = some l) (hk : k < l.length) :
    Rel E (putL L d v (l.getD k 0 : Nat)) (setP (setN (D.set d ((v : Int), ((l.getD (sc l.length k) 0 : Nat) : Int), ((l.getD k 0 : Nat) : Int))) (l.getD k 0) d) (l.getD (sc l.length k) 0) d) ls (mn.set v (l.length + 1 : Nat)) := by
  have hvl : v < L.length := (List.getElem?_eq_some_iff.1 hv).1
  have hdd : d < D.length := by rw [h.dl]; exact hd
  have hg := putL_get (d := d) (b := ((l.getD k 0 : Nat) : Int)) hv
  have hnd := h.wf.nd hv
  have hins : insB ((l.getD k 0 : Nat) : Int) d l = l.take (k + 1) ++ d :: l.drop (k + 1) := by rw [getD_at hk]; exact insB_at hnd hk
  have hlen : (l.take (k + 1) ++ d :: l.drop (k + 1)).length = l.length + 1 := by rw [← hins, insB_length]
  rw [hins] at hg
  have hsk := sc_lt hk
  have hdl : ∀ j, j < l.length → l.getD j 0 ≠ d := fun j hj e => hn (stands_at hv (e ▸ getD_mem hj))
  have hin : ∀ (u : Nat) (m : List Nat), L[u]? = some m → u ≠ v → ∀ j i, j < m.length → i < l.length → l.getD i 0 ≠ m.getD j 0 := fun u m hu hne j i hj hi e => hne (h.wf.one hu hv (getD_mem hj) (e ▸ getD_mem hi))
  refine ⟨putL_wf h.wf hd hn hvl, by rw [setP_length, setN_length, List.length_set, h.dl], by rw [putL_length, h.ll], by rw [List.length_set, putL_length, h.ml], fun u m hu i hil => ?_, fun x hx hs => ?_, fun u hu => ?_, fun u m hu hl => ?_, fun u m hu => ?_⟩
  · rw [hg] at hu
    split at hu
    · rename_i e
      subst e
      cases hu
      rw [hlen] at hil ⊢
      have hinj : ∀ i j, i < l.length → j < l.length → (l.getD i 0 = l.getD j 0 ↔ i = j) := fun i j hi hj => ⟨getD_inj hnd hi hj, fun e => by rw [e]⟩
      simp only [getD_ins l k d _ hk, setP_get, setN_get, set_get hdd]
      by_cases h1 : i ≤ k
      · have hc := h.cyc u l hv i (by omega)
        have hi' : i < l.length := by omega
        rw [if_pos h1, hc, if_neg (hdl i hi')]
        simp only [hinj _ _ hk hi', hinj _ _ hsk hi']
        have e1 : (if sc (l.length + 1) i ≤ k then l.getD (sc (l.length + 1) i) 0 else if sc (l.length + 1) i = k + 1 then d else l.getD (sc (l.length + 1) i - 1) 0) = if k = i then d else l.getD (sc l.length i) 0 := by
          unfold sc
          by_cases hki : k = i
          · rw [if_neg (show ¬ i + 1 = l.length + 1 by omega), if_neg (by omega), if_pos (by omega), if_pos hki]
          · rw [if_neg (show ¬ i + 1 = l.length + 1 by omega), if_pos (by omega), if_neg hki, if_neg (by omega)]
        have e2 : (if pc (l.length + 1) i ≤ k then l.getD (pc (l.length + 1) i) 0 else if pc (l.length + 1) i = k + 1 then d else l.getD (pc (l.length + 1) i - 1) 0) = if sc l.length k = i then d else l.getD (pc l.length i) 0 := by
          unfold pc sc
          by_cases hi0 : i = 0
          · subst hi0
            simp only [if_true]
            by_cases hkl : k + 1 = l.length
            · rw [if_pos hkl, if_neg (by omega), if_pos (by omega), if_pos rfl]
            · rw [if_neg hkl, if_neg (by omega), if_neg (by omega), if_neg (by omega), Nat.add_sub_cancel]
          · rw [if_neg hi0, if_pos (by omega), if_neg hi0]
            rw [if_neg (by split <;> omega)]
        rw [e1, e2]
        split <;> split <;> simp_all
      · rw [if_neg h1]
        by_cases h2 : i = k + 1
        · subst h2
          rw [if_pos rfl, if_neg (fun e => hdl _ hsk e), if_neg (fun e => hdl _ hk e), if_pos rfl]
          have e1 : (if sc (l.length + 1) (k + 1) ≤ k then l.getD (sc (l.length + 1) (k + 1)) 0 else if sc (l.length + 1) (k + 1) = k + 1 then d else l.getD (sc (l.length + 1) (k + 1) - 1) 0) = l.getD (sc l.length k) 0 := by
            by_cases hkl : k + 1 = l.length
            · rw [sc_last (show k + 1 + 1 = l.length + 1 by omega), sc_last hkl, if_pos (by omega)]
            · rw [sc_in (show ¬ k + 1 + 1 = l.length + 1 by omega), sc_in hkl, if_neg (by omega), if_neg (by omega)]; rfl
          have e2 : (if pc (l.length + 1) (k + 1) ≤ k then l.getD (pc (l.length + 1) (k + 1)) 0 else if pc (l.length + 1) (k + 1) = k + 1 then d else l.getD (pc (l.length + 1) (k + 1) - 1) 0) = l.getD k 0 := by
            rw [pc_in (show ¬ k + 1 = 0 by omega), if_pos (by omega)]; rfl
          rw [e1, e2]
        · rw [if_neg h2]
          have hi' : i - 1 < l.length := by omega
          have hc := h.cyc u l hv (i - 1) hi'
          rw [hc, if_neg (hdl _ hi')]
          simp only [hinj _ _ hk hi', hinj _ _ hsk hi']
          have e1 : (if sc (l.length + 1) i ≤ k then l.getD (sc (l.length + 1) i) 0 else if sc (l.length + 1) i = k + 1 then d else l.getD (sc (l.length + 1) i - 1) 0) = l.getD (sc l.length (i - 1)) 0 := by
            by_cases hkl : i = l.length
            · rw [sc_last (show i + 1 = l.length + 1 by omega), sc_last (show i - 1 + 1 = l.length by omega), if_pos (by omega)]
            · rw [sc_in (show ¬ i + 1 = l.length + 1 by omega), sc_in (show ¬ i - 1 + 1 = l.length by omega), if_neg (by omega), if_neg (by omega)]; congr 1; omega
          have e2 : (if pc (l.length + 1) i ≤ k then l.getD (pc (l.length + 1) i) 0 else if pc (l.length + 1) i = k + 1 then d else l.getD (pc (l.length + 1) i - 1) 0) = if sc l.length k = i - 1 then d else l.getD (pc l.length (i - 1)) 0 := by
            unfold pc sc
            rw [if_neg (show ¬ i = 0 by omega), if_neg (show ¬ i - 1 ≤ k by omega)]
            by_cases h3 : i = k + 2
            · rw [if_pos (by omega), if_pos (by split <;> omega)]
            · rw [if_neg (by omega), if_neg (by split <;> omega), if_neg (by omega)]
          rw [e1, e2, if_neg (show ¬ k = i - 1 by omega)]
          split <;> simp_all
    · rename_i hne
      have hne2 : m.getD i 0 ≠ d := fun e => hn (stands_at hu (e ▸ getD_mem hil))
      rw [setP_get, if_neg (hin u m hu hne i _ hil hsk), setN_get, if_neg (hin u m hu hne i _ hil hk), set_get hdd, if_neg hne2]
      exact h.cyc u m hu i hil
  · rw [putL_stands hvl] at hs
    have hxd : x ≠ d := fun e => hs (.inl e)
    have hxl : ∀ i, i < l.length → l.getD i 0 ≠ x := fun i hi e => hs (.inr (stands_at hv (e ▸ getD_mem hi)))
    rw [setP_get, if_neg (hxl _ hsk), setN_get, if_neg (hxl _ hk), set_get hdd, if_neg hxd]
    exact h.off x hx fun e => hs (.inr e)
  · rw [hg] at hu
    split at hu
    · have := congrArg List.length (Option.some.inj hu)
      rw [hlen] at this
      simp at this
    · exact h.least0 u hu
  · rw [hg] at hu
    split at hu
    · rename_i e
      subst e
      obtain ⟨x, hx, hx2⟩ := h.least1 u l hv (by rintro rfl; simp at hk)
      cases hu
      exact ⟨x, by rw [← hins]; exact mem_insB.2 (.inr hx), hx2⟩
    · exact h.least1 u m hu hl
  · rw [hg] at hu
    rw [set_get (by rw [h.ml]; exact hvl)]
    split at hu
    · rename_i e
      cases hu
      rw [if_pos e, hlen]
    · rename_i e
      rw [if_neg e]
      exact h.many u m hu

/-- Taken away. -/
theorem Rel.take (h : Rel E L D ls mn) {v k : Nat} {l : List Nat} (hv : L[v]? = some l) (hk : k < l.length) (ls' : List Int)
    (h0 : l.length = 1 → ls' = ls.set v (-1)) (h1 : l.length ≠ 1 → (ls[v]? = some ((l.getD k 0 : Nat) : Int) → ls' = ls.set v ((l.getD (sc l.length k) 0 : Nat) : Int)) ∧ (ls[v]? ≠ some ((l.getD k 0 : Nat) : Int) → ls' = ls)) :
    Rel E (remL L (l.getD k 0)) (setO (setP (setN D (l.getD (pc l.length k) 0) ((l.getD (sc l.length k) 0 : Nat) : Int)) (l.getD (sc l.length k) 0) ((l.getD (pc l.length k) 0 : Nat) : Int)) (l.getD k 0) (-1)) ls' (mn.set v (l.length - 1 : Nat)) := by
  have hvl : v < L.length := (List.getElem?_eq_some_iff.1 hv).1
  have hnd := h.wf.nd hv
  have hsk := sc_lt hk
  have hpk := pc_lt hk
  have hfil : l.filter (· != l.getD k 0) = l.take k ++ l.drop (k + 1) := by rw [getD_at hk]; exact filter_at hnd hk
  have hlen : (l.take k ++ l.drop (k + 1)).length = l.length - 1 := by simp; omega
  have hinj : ∀ i j, i < l.length → j < l.length → (l.getD i 0 = l.getD j 0 ↔ i = j) := fun i j hi hj => ⟨getD_inj hnd hi hj, fun e => by rw [e]⟩
  have hother : ∀ (u : Nat) (m : List Nat), L[u]? = some m → u ≠ v → ∀ i, i < l.length → l.getD i 0 ∉ m := fun u m hu hne i hi hm => hne (h.wf.one hu hv hm (getD_mem hi))
  have hg : ∀ (u : Nat), (remL L (l.getD k 0))[u]? = if u = v then some (l.take k ++ l.drop (k + 1)) else L[u]? := by
    intro u
    rw [remL_get]
    by_cases e : u = v
    · subst e; rw [hv, if_pos rfl, Option.map_some, hfil]
    · rw [if_neg e]
      cases hu : L[u]? with
      | none => rfl
      | some m =>
        rw [Option.map_some, List.filter_eq_self.2]
        intro x hx
        simp only [bne_iff_ne]
        rintro rfl
        exact hother u m hu e k hk hx
  have hlsl : ls'.length = ls.length := by
    by_cases e : l.length = 1
    · rw [h0 e, List.length_set]
    · by_cases e2 : ls[v]? = some ((l.getD k 0 : Nat) : Int)
      · rw [(h1 e).1 e2, List.length_set]
      · rw [(h1 e).2 e2]
  have hlsu : ∀ u, u ≠ v → ls'[u]? = ls[u]? := by
    intro u hu
    by_cases e : l.length = 1
    · rw [h0 e, set_get (by rw [h.ll]; exact hvl), if_neg hu]
    · by_cases e2 : ls[v]? = some ((l.getD k 0 : Nat) : Int)
      · rw [(h1 e).1 e2, set_get (by rw [h.ll]; exact hvl), if_neg hu]
      · rw [(h1 e).2 e2]
  refine ⟨remL_wf h.wf, by rw [setO_length, setP_length, setN_length, h.dl], by rw [hlsl, remL_length, h.ll], by rw [List.length_set, remL_length, h.ml], fun u m hu i hil => ?_, fun x hx hs => ?_, fun u hu => ?_, fun u m hu hl => ?_, fun u m hu => ?_⟩
  · rw [hg] at hu
    split at hu
    · rename_i e
      subst e
      cases hu
      rw [hlen] at hil ⊢
      simp only [getD_del l k _ hk, setO_get, setP_get, setN_get]
      by_cases hik : i < k
      · have hi' : i < l.length := by omega
        rw [if_pos hik, h.cyc u l hv i hi']
        simp only [hinj _ _ hk hi', hinj _ _ hsk hi', hinj _ _ hpk hi']
        rw [if_neg (show ¬ k = i by omega)]
        have e1 : (if sc (l.length - 1) i < k then l.getD (sc (l.length - 1) i) 0 else l.getD (sc (l.length - 1) i + 1) 0) = if pc l.length k = i then l.getD (sc l.length k) 0 else l.getD (sc l.length i) 0 := by
          unfold sc pc
          rw [if_neg (show ¬ k = 0 by omega)]
          by_cases h3 : k = i + 1
          · rw [if_pos (show k - 1 = i by omega)]
            by_cases h4 : i + 1 = l.length - 1
            · rw [if_pos h4, if_pos (by omega), if_pos (by omega)]
            · rw [if_neg h4, if_neg (by omega), if_neg (by omega), h3]
          · rw [if_neg (show ¬ k - 1 = i by omega), if_neg (show ¬ i + 1 = l.length - 1 by omega), if_pos (show i + 1 < k by omega), if_neg (show ¬ i + 1 = l.length by omega)]
        have e2 : (if pc (l.length - 1) i < k then l.getD (pc (l.length - 1) i) 0 else l.getD (pc (l.length - 1) i + 1) 0) = if sc l.length k = i then l.getD (pc l.length k) 0 else l.getD (pc l.length i) 0 := by
          unfold sc pc
          rw [if_neg (show ¬ k = 0 by omega)]
          by_cases h3 : i = 0
          · subst h3
            simp only [if_true]
            by_cases h4 : k + 1 = l.length
            · rw [if_pos h4, if_pos rfl, if_pos (by omega)]; congr 1; omega
            · rw [if_neg h4, if_neg (by omega), if_neg (by omega)]; congr 1; omega
          · rw [if_neg h3, if_pos (by omega), if_neg h3, if_neg (by split <;> omega)]
        rw [e1, e2]
        split <;> split <;> simp_all
      · have hi' : i + 1 < l.length := by omega
        rw [if_neg hik, h.cyc u l hv (i + 1) hi']
        simp only [hinj _ _ hk hi', hinj _ _ hsk hi', hinj _ _ hpk hi']
        rw [if_neg (show ¬ k = i + 1 by omega)]
        have e1 : (if sc (l.length - 1) i < k then l.getD (sc (l.length - 1) i) 0 else l.getD (sc (l.length - 1) i + 1) 0) = if pc l.length k = i + 1 then l.getD (sc l.length k) 0 else l.getD (sc l.length (i + 1)) 0 := by
          unfold sc pc
          by_cases h3 : i + 1 = l.length - 1
          · rw [if_pos h3]
            by_cases h4 : k = 0
            · subst h4
              rw [if_pos rfl, if_neg (by omega), if_pos (by omega)]
              by_cases h5 : 0 + 1 = l.length
              · omega
              · rw [if_neg h5]
            · rw [if_neg h4, if_pos (by omega), if_neg (by omega), if_pos (by omega)]
          · rw [if_neg h3, if_neg (by omega), if_neg (show ¬ i + 1 + 1 = l.length by omega)]
            rw [if_neg (by split <;> omega)]
        have e2 : (if pc (l.length - 1) i < k then l.getD (pc (l.length - 1) i) 0 else l.getD (pc (l.length - 1) i + 1) 0) = if sc l.length k = i + 1 then l.getD (pc l.length k) 0 else l.getD (pc l.length (i + 1)) 0 := by
          unfold sc pc
          rw [if_neg (show ¬ i + 1 = 0 by omega)]
          by_cases h3 : i = k
          · subst h3
            rw [if_neg (show ¬ i + 1 = l.length by omega), if_pos rfl]
            by_cases h4 : i = 0
            · subst h4
              rw [if_pos rfl, if_neg (by omega), if_pos rfl]; congr 1; omega
            · rw [if_neg h4, if_pos (by omega), if_neg h4]
          · rw [if_neg (show ¬ i = 0 by omega), if_neg (show ¬ i - 1 < k by omega), if_neg (by split <;> omega)]; congr 1; omega
        rw [e1, e2]
        split <;> split <;> simp_all
    · rename_i hne
      have hn : ∀ j, j < l.length → l.getD j 0 ≠ m.getD i 0 := fun j hj e => hother u m hu hne j hj (e ▸ getD_mem hil)
      rw [setO_get, if_neg (hn _ hk), setP_get, if_neg (hn _ hsk), setN_get, if_neg (hn _ hpk)]
      exact h.cyc u m hu i hil
  · rw [remL_stands] at hs
    by_cases hxk : l.getD k 0 = x
    · rw [setO_get, if_pos hxk, setP_get, setN_get, ← hxk, h.cyc v l hv k hk]
      split <;> split <;> exact ⟨_, _, rfl⟩
    · have hns : ¬ Stands L x := fun e => hs ⟨fun e => hxk e.symm, e⟩
      have hn : ∀ j, j < l.length → l.getD j 0 ≠ x := fun j hj e => hns (e ▸ stands_at hv (getD_mem hj))
      rw [setO_get, if_neg hxk, setP_get, if_neg (hn _ hsk), setN_get, if_neg (hn _ hpk)]
      exact h.off x hx hns
  · rw [hg] at hu
    split at hu
    · rename_i e
      subst e
      have e1 : l.length = 1 := by have := congrArg List.length (Option.some.inj hu); rw [hlen] at this; simp at this; omega
      rw [h0 e1, set_get (by rw [h.ll]; exact hvl), if_pos rfl]
    · rename_i e
      rw [hlsu u e]
      exact h.least0 u hu
  · rw [hg] at hu
    split at hu
    · rename_i e
      subst e
      cases hu
      have e1 : l.length ≠ 1 := fun e => hl (List.eq_nil_of_length_eq_zero (by rw [hlen]; omega))
      have hmem : ∀ j, j < l.length → j ≠ k → l.getD j 0 ∈ l.take k ++ l.drop (k + 1) := fun j hj hne => by
        rw [← hfil, List.mem_filter]
        refine ⟨getD_mem hj, ?_⟩
        simp only [bne_iff_ne, ne_eq, hinj _ _ hj hk]
        exact hne
      by_cases e2 : ls[u]? = some ((l.getD k 0 : Nat) : Int)
      · refine ⟨_, hmem _ hsk (by unfold sc; split <;> omega), ?_⟩
        rw [(h1 e1).1 e2, set_get (by rw [h.ll]; exact hvl), if_pos rfl]
      · obtain ⟨x, hx, hx2⟩ := h.least1 u l hv (by rintro rfl; simp at hk)
        obtain ⟨j, hj, rfl⟩ := mem_getD hx
        refine ⟨_, hmem j hj (fun e => e2 (e ▸ hx2)), ?_⟩
        rw [(h1 e1).2 e2]
        exact hx2
    · rename_i e
      rw [hlsu u e]
      exact h.least1 u m hu hl
  · rw [hg] at hu
    rw [set_get (by rw [h.ml]; exact hvl)]
    split at hu
    · rename_i e
      cases hu
      rw [if_pos e, hlen]
    · rename_i e
      rw [if_neg e]
      exact h.many u m hu
end
end Go.Proofs.YtjmkejkhpdhhbaaDoor
