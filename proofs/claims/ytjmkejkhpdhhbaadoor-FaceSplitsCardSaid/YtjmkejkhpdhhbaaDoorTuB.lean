/- turn: Check, Has, dart, Next, Prev, Origin, Degree, Sizes. -/
import Derived.Test.YtjmkejkhpdhhbaaDoorTuA
namespace Go.Proofs.YtjmkejkhpdhhbaaDoor
open Go Go.RowKit
set_option linter.unusedVariables false
set_option linter.unusedSimpArgs false
set_option maxRecDepth 100000

section
variable {E : Nat} {L : List (List Nat)} {D : List Dart} {ls mn : List Int}
/-- Each dart: it stands somewhere, or nowhere. -/
theorem Rel.each (h : Rel E L D ls mn) (d : Nat) (hd : d < 2 * E) :
    (∃ (v : Nat) (l : List Nat) (i : Nat), L[v]? = some l ∧ i < l.length ∧ l.getD i 0 = d ∧ D[d]? = some ((v : Int), ((l.getD (sc l.length i) 0 : Nat) : Int), ((l.getD (pc l.length i) 0 : Nat) : Int))) ∨
      (¬ Stands L d ∧ ∃ x y, D[d]? = some (-1, x, y)) := by
  by_cases hs : Stands L d
  · obtain ⟨v, l, hv, hm⟩ := stands_iff.1 hs
    obtain ⟨i, hi, rfl⟩ := mem_getD hm
    exact .inl ⟨v, l, i, hv, hi, rfl, h.cyc v l hv i hi⟩
  · exact .inr ⟨hs, h.off d hd hs⟩
theorem Rel.origin (h : Rel E L D ls mn) (d : Nat) (hd : d < 2 * E) : ∃ o x y, D[d]? = some (o, x, y) ∧ (o = -1 ↔ ¬ Stands L d) ∧ -1 ≤ o ∧ o < L.length ∧ ∀ (v : Nat) (l : List Nat), L[v]? = some l → (o = v ↔ d ∈ l) := by
  rcases h.each d hd with ⟨v, l, i, hv, hi, rfl, hD⟩ | ⟨hn, x, y, hD⟩
  · have hvl := (List.getElem?_eq_some_iff.1 hv).1
    refine ⟨_, _, _, hD, ⟨fun e => by omega, fun e => absurd (stands_at hv (getD_mem hi)) e⟩, by omega, by omega, fun u m hu => ⟨fun e => ?_, fun hm => ?_⟩⟩
    · obtain rfl : v = u := by omega
      rw [hv] at hu; cases hu
      exact getD_mem hi
    · rw [h.wf.one hv hu (getD_mem hi) hm]
  · refine ⟨_, _, _, hD, ⟨fun _ => hn, fun _ => rfl⟩, by omega, by omega, fun u m hu => ⟨fun e => by omega, fun hm => absurd (stands_at hu hm) hn⟩⟩
end
section
variable {w : World} {own : Nat → Prop} {p E : Nat} {L : List (List Nat)}
theorem errVal_pos {k : Nat} (h : k ≠ 0) : errVal k = .iface 86 (.int .i64 k) := by unfold errVal; rw [if_neg h]; rfl
theorem errVal_zero : errVal 0 = .nilIface := rfl
theorem tcheck (h : Tu w own p E L) (v b : Int) : Calls Tryd.prog 20 #[tptr p, cval v b] w (RetPost (errVal (chkErr L v b)) w) := by
  have hV := h.v2
  have hE := h.e2
  have hv := Lib.hid (fun (W : World) (hk : Keeps (fun _ => False) w W) => tvertex (h.keep hk) v)
  obtain ⟨⟨g1, g2, g3, D, ls, mn, hx, rfl, hr⟩, _⟩ := h
  unfold tptr cval
  unfold RetPost
  by_cases hr1 : v < 0 ∨ (L.length : Int) ≤ v
  · have he : chkErr L v b = 12 := by unfold chkErr; rw [if_pos hr1]
    have hev : vErr L v = 12 := by unfold vErr; rw [if_pos hr1]
    rw [he]
    rw [hev] at hv
    clear hx hr he hev
    unfold tptr errVal errno at hv
    go_enter Tryd.func20, Tryd.ntmps20
    go_wp2_with fail
    refine (hv.out _ ((Keeps.refl _ _).alloc _)).mono ?_
    rintro e w1 ⟨rfl, rfl⟩
    go_wp2_with fail
    go_ret
    exact ⟨rfl, (Keeps.refl _ _).alloc _⟩
  · obtain ⟨n, rfl⟩ := Int.eq_ofNat_of_zero_le (show 0 ≤ v by omega)
    have hn : n < L.length := by omega
    obtain ⟨l, hl⟩ : ∃ l, L[n]? = some l := ⟨_, List.getElem?_eq_getElem hn⟩
    have hev : vErr L n = 0 := by unfold vErr; rw [if_neg hr1]
    have he : chkErr L n b = if b = -1 ∧ l = [] then 0 else if b < 0 ∨ b.toNat ∉ l then 13 else 0 := by
      unfold chkErr; rw [if_neg hr1, Int.toNat_natCast, List.getD_eq_getElem?_getD, hl]; rfl
    rw [he]
    rw [hev] at hv
    have hm := hx.mny (hr.many n l hl)
    have c0 := hx.c0
    have c2 := hx.c2
    clear he hev
    have hll : l.length ≤ 2 * E := by
      have h1 : l.length ≤ (List.range (2 * E)).length := by
        refine List.Nodup.length_le_of_subset (hr.wf.nd hl) (fun x hx => List.mem_range.2 (hr.wf.bd hl hx))
      simpa using h1
    have hpb := hx.head.lt
    have hpb1 := hx.b1.lt
    have hpb3 := hx.b3.lt
    have hl0 : ((l.length : Int) == 0) = decide (l = []) := by
      cases l with
      | nil => rfl
      | cons a l => simp; omega
    unfold tptr errVal at hv
    simp only [if_true] at hv
    by_cases hb1 : b = -1
    · subst hb1
      by_cases hnil : l = []
      · rw [if_pos ⟨rfl, hnil⟩]
        subst hnil
        clear hx hr hl0
        go_enter Tryd.func20, Tryd.ntmps20
        go_wp2_with fail
        refine (hv.out _ ((Keeps.refl _ _).alloc _)).mono ?_
        rintro e w1 ⟨rfl, rfl⟩
        go_wp2_with fail
        go_quiet (fail)
        go_wp2_with fail
        go_ret
        first | exact ⟨rfl, ((Keeps.refl _ _).alloc _).drewN _⟩ | exact ⟨rfl, (((Keeps.refl _ _).alloc _).drewN _).drewN _⟩
      · rw [if_neg (fun e => hnil e.2), if_pos (.inl (by decide))]
        have hl1 : ((l.length : Int) == 0) = false := by rw [hl0]; exact decide_eq_false hnil
        clear hx hr hl0
        go_enter Tryd.func20, Tryd.ntmps20
        go_wp2_with fail
        refine (hv.out _ ((Keeps.refl _ _).alloc _)).mono ?_
        rintro e w1 ⟨rfl, rfl⟩
        go_wp2_with fail
        go_quiet (fail)
        go_wp2_with fail
        go_quiet (fail)
        go_wp2_with fail
        go_ret
        first | exact ⟨rfl, ((Keeps.refl _ _).alloc _).drewN _⟩ | exact ⟨rfl, (((Keeps.refl _ _).alloc _).drewN _).drewN _⟩
    · rw [if_neg (fun e => hb1 e.1)]
      have hb1' : (b == -1) = false := by rw [beq_eq_false_iff_ne]; exact hb1
      by_cases hb0 : b < 0
      · rw [if_pos (.inl hb0)]
        clear hx hr hl0
        go_enter Tryd.func20, Tryd.ntmps20
        go_wp2_with fail
        refine (hv.out _ ((Keeps.refl _ _).alloc _)).mono ?_
        rintro e w1 ⟨rfl, rfl⟩
        go_wp2_with fail
        go_quiet (fail)
        go_wp2_with fail
        go_quiet (fail)
        go_wp2_with fail
        go_ret
        first | exact ⟨rfl, ((Keeps.refl _ _).alloc _).drewN _⟩ | exact ⟨rfl, (((Keeps.refl _ _).alloc _).drewN _).drewN _⟩
      · obtain ⟨d, rfl⟩ := Int.eq_ofNat_of_zero_le (show 0 ≤ b by omega)
        rw [Int.toNat_natCast]
        have hd0 : decide ((d : Int) < 0) = false := by simp
        by_cases hdE : d < 2 * E
        · have hd2 : decide (2 * (E : Int) ≤ (d : Int)) = false := by simp; omega
          obtain ⟨o, x, y, hD, h1, h2, h3, h4⟩ := hr.origin d hdE
          have hc := (hx.dart hD).1
          have h5 := h4 n l hl
          simp only at hc
          by_cases hmem : d ∈ l
          · rw [if_neg (by rintro (h | h); · exact hb0 h
                           · exact h hmem)]
            obtain rfl : o = n := h5.2 hmem
            clear hx hr hl0 h1 h4 h5 hD
            go_enter Tryd.func20, Tryd.ntmps20
            go_wp2_with fail
            refine (hv.out _ ((Keeps.refl _ _).alloc _)).mono ?_
            rintro e w1 ⟨rfl, rfl⟩
            go_wp2_with fail
            go_quiet (fail)
            go_wp2_with fail
            go_quiet (fail)
            go_wp2_with fail
            go_ret
            first | exact ⟨rfl, ((Keeps.refl _ _).alloc _).drewN _⟩ | exact ⟨rfl, (((Keeps.refl _ _).alloc _).drewN _).drewN _⟩
          · rw [if_pos (.inr hmem)]
            have ho : ¬ o = n := fun e => hmem (h5.1 e)
            have hob : (o != (n : Int)) = true := by rw [bne_iff_ne]; exact ho
            have hob2 : (o == (n : Int)) = false := by rw [beq_eq_false_iff_ne]; exact ho
            clear hx hr hl0 h1 h4 h5 hD
            go_enter Tryd.func20, Tryd.ntmps20
            go_wp2_with fail
            refine (hv.out _ ((Keeps.refl _ _).alloc _)).mono ?_
            rintro e w1 ⟨rfl, rfl⟩
            go_wp2_with fail
            go_quiet (fail)
            go_wp2_with fail
            go_quiet (fail)
            go_wp2_with fail
            go_ret
            first | exact ⟨rfl, ((Keeps.refl _ _).alloc _).drewN _⟩ | exact ⟨rfl, (((Keeps.refl _ _).alloc _).drewN _).drewN _⟩
        · have hd2 : decide (2 * (E : Int) ≤ (d : Int)) = true := by simp; omega
          have hmem : d ∉ l := fun hm => hdE (hr.wf.bd hl hm)
          rw [if_pos (.inr hmem)]
          clear hx hr hl0
          go_enter Tryd.func20, Tryd.ntmps20
          go_wp2_with fail
          refine (hv.out _ ((Keeps.refl _ _).alloc _)).mono ?_
          rintro e w1 ⟨rfl, rfl⟩
          go_wp2_with fail
          go_quiet (fail)
          go_wp2_with fail
          go_quiet (fail)
          go_wp2_with fail
          go_ret
          first | exact ⟨rfl, ((Keeps.refl _ _).alloc _).drewN _⟩ | exact ⟨rfl, (((Keeps.refl _ _).alloc _).drewN _).drewN _⟩
end
end Go.Proofs.YtjmkejkhpdhhbaaDoor
