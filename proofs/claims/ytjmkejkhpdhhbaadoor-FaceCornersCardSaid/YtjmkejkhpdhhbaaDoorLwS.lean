/- The document's Load. -/
import Derived.Test.YtjmkejkhpdhhbaaDoorLwQ
import Derived.Deep.RegionWith
namespace Go.Proofs.YtjmkejkhpdhhbaaDoor
open Go Go.RowKit
set_option linter.unusedVariables false
set_option linter.unusedSimpArgs false
set_option maxRecDepth 100000

theorem rowsAt_flat {R : List (List Int)} {V n k : Nat} (hn : n < V) : (rowsAt (natsOf R) V n k).flatten = (pre R n k).map Int.toNat := by
  have h1 : rowsAt (natsOf R) V n k = (rowsAt (natsOf R) V n k).take n ++ [((natsOf R).getD n []).take k] ++ (rowsAt (natsOf R) V n k).drop (n + 1) := by
    conv => lhs; rw [← List.take_append_drop (n + 1) (rowsAt (natsOf R) V n k), List.take_add_one, rowsAt_get hn, if_neg (Nat.lt_irrefl _), if_pos rfl]
    rfl
  have h2 : ((rowsAt (natsOf R) V n k).drop (n + 1)).flatten = [] := by
    rw [List.flatten_eq_nil_iff]
    intro l hl
    obtain ⟨j, hj⟩ := List.mem_iff_getElem?.1 hl
    rw [List.getElem?_drop] at hj
    have hjV : n + 1 + j < V := by have := (List.getElem?_eq_some_iff.1 hj).1; rwa [rowsAt_length] at this
    rw [rowsAt_get hjV, if_neg (by omega), if_neg (by omega)] at hj
    exact (Option.some.inj hj).symm
  have h3 : ∀ i, i ≤ n → ((rowsAt (natsOf R) V n k).take i).flatten = ((R.take i).flatten).map Int.toNat := by
    intro i
    induction i with
    | zero => intro _; simp
    | succ i ih =>
      intro hi
      rw [List.take_add_one, rowsAt_get (by omega), if_pos (by omega), List.take_add_one, List.flatten_append, List.flatten_append, List.map_append, ih (by omega)]
      congr 1
      cases hR : R[i]? with
      | none => simp [natsOf, hR]
      | some l => rw [natsOf_getD hR]; simp
  rw [h1, List.flatten_append, List.flatten_append, h2, List.append_nil, h3 n (Nat.le_refl _)]
  unfold pre
  rw [List.map_append, List.flatten_singleton]
  congr 1
  cases hR : R[n]? with
  | none => rw [List.getD_eq_getElem?_getD, List.getD_eq_getElem?_getD]; simp [natsOf, hR]
  | some l => rw [natsOf_getD hR, getD_someI hR, List.map_take]
theorem rowsAt_wf {E V n k : Nat} {R : List (List Int)} (hn : n < V) (h : GoodP E (pre R n k)) : WF E (rowsAt (natsOf R) V n k) := by
  refine ⟨fun l hl d hd => ?_, ?_⟩
  · have hm : d ∈ (rowsAt (natsOf R) V n k).flatten := List.mem_flatten.2 ⟨l, hl, hd⟩
    rw [rowsAt_flat hn] at hm
    obtain ⟨z, hz, rfl⟩ := List.mem_map.1 hm
    have := h.1 z hz
    omega
  · rw [rowsAt_flat hn]
    unfold List.Nodup
    rw [List.pairwise_map]
    refine List.Pairwise.imp_of_mem (fun {a b} ha hb hne e => ?_) h.2
    have h1 := (h.1 a ha).1
    have h2 := (h.1 b hb).1
    exact hne (by omega)
theorem rowsAt_stand {E V n k : Nat} {R : List (List Int)} (hn : n < V) (h : GoodP E (pre R n k)) (d : Nat) : Stands (rowsAt (natsOf R) V n k) d ↔ (d : Int) ∈ pre R n k := by
  unfold Stands
  rw [rowsAt_flat hn, List.mem_map]
  constructor
  · rintro ⟨z, hz, e⟩
    have := h.1 z hz
    have e2 : z = (d : Int) := by omega
    exact e2 ▸ hz
  · intro q; exact ⟨_, q, by omega⟩
theorem rowsAt_fnd {E V n k : Nat} {R : List (List Int)} (hn : n < V) (h : GoodP E (pre R n k)) {d : Int} (h0 : 0 ≤ d) : decide (0 ≤ fndV (rowsAt (natsOf R) V n k) d) = decide (d ∈ pre R n k) := by
  obtain ⟨m, rfl⟩ := Int.eq_ofNat_of_zero_le h0
  have hs := rowsAt_stand hn h m
  by_cases hq : Stands (rowsAt (natsOf R) V n k) m
  · rw [(fndV_at (rowsAt_wf hn h) hq).1, decide_eq_true (hs.1 hq), decide_eq_true (by omega)]
  · rw [fndV_neg hq, decide_eq_false (fun q => hq (hs.2 q))]; rfl
theorem rowsAt_set {N : List (List Nat)} {V n k : Nat} {l : List Nat} (hn : n < V) (hl : N.getD n [] = l) (hk : k < l.length) : (rowsAt N V n k).set n (l.take k ++ [l.getD k 0]) = rowsAt N V n (k + 1) := by
  apply List.ext_getElem?
  intro u
  rw [set_get (by rw [rowsAt_length]; exact hn)]
  by_cases h : u < V
  · rw [rowsAt_get h, rowsAt_get h]
    by_cases h2 : u = n
    · subst h2; rw [if_pos rfl, if_neg (Nat.lt_irrefl _), if_pos rfl, hl, take_next hk]
    · rw [if_neg h2, if_neg h2, if_neg h2]
  · rw [if_neg (by omega), List.getElem?_eq_none (by rw [rowsAt_length]; omega), List.getElem?_eq_none (by rw [rowsAt_length]; omega)]
/-- A row as what is appended. -/
theorem LRow.src {w : World} {B : Nat} {u : Value} {l : List Nat} (h : LRow w B u l) : Src w u l.length 1 (nats l) := by
  by_cases h0 : l = []
  · exact .inl ⟨h.2 h0, by rw [h0]; rfl, by rw [h0]; rfl⟩
  · rcases h.1.2 with ⟨_, e⟩ | ⟨g, c, cur, rfl, _⟩
    · exact absurd (List.eq_nil_of_length_eq_zero e) h0
    · exact .inr ⟨⟨g, 0, none⟩, c, rfl, h.1.1, h.1.cells rfl, fun u hu => by
        unfold nats at hu
        obtain ⟨x, _, rfl⟩ := List.mem_map.1 hu
        rfl⟩
end Go.Proofs.YtjmkejkhpdhhbaaDoor
