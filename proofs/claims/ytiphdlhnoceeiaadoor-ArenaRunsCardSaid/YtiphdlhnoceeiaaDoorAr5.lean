/- arena: all that live, the places. -/
import Derived.Test.YtiphdlhnoceeiaaDoorAr4
import Derived.Lib.SliceRun
namespace Go.Proofs.YtiphdlhnoceeiaaDoor
open Go Go.RowKit
set_option linter.unusedVariables false
set_option linter.unusedSimpArgs false
set_option maxRecDepth 100000

/-- Which places are live. -/
def lvs (L : List (Int × Int)) (i : Nat) : Bool := match L[i]? with
  | some p => p.2 == 1
  | none => false
theorem lvs_in (L : List (Int × Int)) (i : Nat) (h : i < L.length) : lvs L i = (L[i].2 == 1) := by simp [lvs, List.getElem?_eq_getElem h]
theorem lvs_out (L : List (Int × Int)) (i : Nat) (h : L.length ≤ i) : lvs L i = false := by simp [lvs, List.getElem?_eq_none h]
theorem cnt_lvs (L : List (Int × Int)) : cnt (lvs L) L.length = liv L := by
  suffices h : ∀ k, k ≤ L.length → cnt (lvs L) k = liv (L.take k) by
    have := h _ (Nat.le_refl _); rwa [List.take_length] at this
  intro k
  induction k with
  | zero => intro _; simp [cnt, liv]
  | succ k ih =>
    intro hk
    rw [cnt_succ, ih (by omega), List.take_add_one, List.getElem?_eq_getElem (by omega : k < L.length), lvs_in L k (by omega)]
    simp only [liv, Option.toList_some, List.countP_append, List.countP_singleton]
theorem RefAllRel.quiet {w : World} {S : Nat → Bool} {f : Nat} {v : Value} {wr w2 : World} (h : RefAllRel w S f v wr) (hk : Keeps (fun _ => False) wr w2) : RefAllRel w S f v w2 :=
  ⟨ownsRow_kept h.1 hk fun _ _ => id, h.2.trans' hk⟩
def AAllPost (L : List (Int × Int)) (w : World) (e : Ending) (w' : World) : Prop :=
  ∃ v, e = .returned v ∧ w'.ownsRow w.heap.size 3 1 v (liv L) (ints (allOf (lvs L) L.length)) ∧ Keeps (fun _ => False) w w'
section
variable {w : World} {own : Nat → Prop} {p n : Nat} {L : List (Int × Int)}
set_option maxHeartbeats 1000000 in
theorem aall (h : Ar w own p n L) : Calls Tryd.prog 44 #[.pointer (some ⟨p, 0, none⟩)] w (AAllPost L w) := by
  obtain ⟨i0, hi, hz0, hz1, hz2⟩ := info_parts info3
  have hbn := h.bound
  have hle := h.le
  obtain ⟨⟨b, ownS, v, h1, rfl⟩, _⟩ := h
  have g1 := h1.c1
  obtain ⟨va, vc, rfl⟩ := ownsRow_slice h1.row
  have H1 := Lib.hid h1
  clear h1
  have hst : Hid (RefAllRel w (lvs L) 0 (.slice none 0 0) w) := ⟨World.ownsRow_nil _ _ _ _, Keeps.refl _ _⟩
  go_enter Tryd.func44, Tryd.ntmps44
  go_wp2_with fail
  go_loopw [3, 13] (fun l i wr => ∃ f : Nat, f ≤ L.length ∧ i = .int .i64 (f : Int) ∧ RefAllRel w (lvs L) f l wr) (fun _ i _ => L.length - (intOf i).toNat)
  case atStart => exact ⟨0, Nat.zero_le _, rfl, hst.out⟩
  case round =>
    obtain ⟨f, hf, rfl, hrel⟩ := hrel
    clear hst
    by_cases hlt : f < L.length
    · have HX := Lib.hid (H1.out.keep hrel.2)
      obtain ⟨g, c, hgv, hgc⟩ := HX.out.some_ (by omega)
      simp only [Value.slice.injEq, true_and] at hgv
      obtain ⟨rfl, rfl⟩ := hgv
      have e1 := HX.out.age f hlt
      have e2 := HX.out.is f hlt
      have hS := lvs_in L f hlt
      have hcn := cnt_le (lvs L) f
      have hq := Lib.hid (hrel.quiet ((Keeps.refl _ wr).alloc (.cells #[.int .u32 L[f].1, .int .i64 L[f].2] 72)))
      have hgb := (HX.out.row.lt g rfl).2
      have hws := hrel.2.size
      clear hrel HX
      generalize L[f] = q at *
      obtain ⟨qa, qs⟩ := q
      simp only at e1 e2 hS hq
      have hown := hq.out.1
      by_cases hqs : qs = 1
      · subst hqs
        have HS := Lib.hid hS
        clear hS
        generalize hcf : cnt (lvs L) f = cf at *
        go_wp2_with (first | (at_builtin; refine wpList_app1 rfl _ _ 22 rfl w.heap.size 3 i0 (.int .i64 0) 1 8 Tryd.underlying22 hi hz0 hz1 hz2 rfl (by decide) _ _ _ rfl hown _ 1 1 [.int .i64 (f : Int)] 3 rfl (by simp) rfl ?c1 ?c2 ?c3 ?c4 ?_))
        case c1 => simp [Value.oneCell']
        case c2 => unfold maxLen; omega
        case c3 => omega
        case c4 => simp; omega
        intro v1 w1 ho hk1 _ _ _
        have hgr := Lib.hid (hq.out.grow HS.out (by rw [hcf]; exact ho) hk1)
        clear ho hk1 hown hcf e1 e2
        go_wp2_with fail
        refine ⟨⟨f + 1, hlt, by go_num, hgr.out⟩, by simp [intOf]; omega⟩
      · have hqb : (qs == 1) = false := by rw [beq_eq_false_iff_ne]; exact hqs
        have HS := Lib.hid (hS.trans hqb)
        clear hS hown
        go_wp2_with fail
        refine ⟨⟨f + 1, hlt, by go_num, hq.out.skip HS.out⟩, by simp [intOf]; omega⟩
    · obtain rfl : f = L.length := by omega
      have HREL := Lib.hid hrel
      clear hrel
      go_wp2_with fail
      go_ret
      exact ⟨_, rfl, by rw [← cnt_lvs]; exact HREL.out.1, HREL.out.2⟩

/-- Places of a slice, cell by cell. -/
def PlRow (w : World) (base : Nat) (v : Value) (L : List (Int × Int)) : Prop := w.ownsRow base 72 2 v L.length (plVals L)
theorem PlRow.rd {w : World} {base : Nat} {v : Value} {L : List (Int × Int)} (h : PlRow w base v L) : ∃ a c, v = .slice a L.length c ∧ Rd w a (plVals L) ∧ (a = none → c = 0) := by
  rcases h.2 with ⟨rfl, h0⟩ | ⟨g, cap, cur, rfl, hb, hgg, hnc, hcm, hcs, htake⟩
  · refine ⟨none, 0, by rw [h0], .inl (List.eq_nil_of_length_eq_zero (by rw [plVals_length]; omega)), fun _ => rfl⟩
  · refine ⟨_, cap, rfl, .inr ⟨g, 0, rfl, fun i hi => ?_⟩, by simp⟩
    rw [← htake, List.getElem?_take, if_pos (by have := h.1; omega), Nat.zero_add, cell_of_row w g i cur _ (0, 0) hgg]
    simp
theorem plVals_one (L : List (Int × Int)) : ∀ u ∈ plVals L, u.oneCell' = true := by
  intro u hu
  simp only [plVals, List.mem_flatMap] at hu
  obtain ⟨q, _, hq⟩ := hu
  simp at hq
  rcases hq with rfl | rfl <;> rfl
theorem Rd.cells {w : World} {ad : Addr} {xs : List Value} (h : Rd w (some ad) xs) : ∀ j u, xs[j]? = some u → w.cell? (ad.add j) = some u := by
  intro j u hu
  rcases h with rfl | ⟨b, off, he, hc⟩
  · simp at hu
  · simp only [Option.some.injEq] at he
    subst he
    have hadd : (⟨b, off, none⟩ : Addr).add j = ⟨b, off + j, none⟩ := by unfold Addr.add; split <;> simp_all
    rw [hadd, hc j (List.getElem?_eq_some_iff.1 hu).1, hu]
def ClonePost (L : List (Int × Int)) (w : World) (e : Ending) (w' : World) : Prop := ∃ v, e = .returned v ∧ PlRow w' w.heap.size v L ∧ Keeps (fun _ => False) w w'
theorem clonePl (a : Option Addr) (c : Nat) (w : World) (hr : Rd w a (plVals L)) (hl : L.length ≤ 2000000) (ha : a = none → c = 0):
    Calls Tryd.prog 63 #[.slice a L.length c] w (ClonePost L w) := by
  obtain ⟨i0, hi, hz0, hz1, hz2⟩ := info_parts infoPl
  cases a with
  | none =>
    obtain rfl := ha rfl
    have hL : L = [] := by
      rcases hr with h | ⟨b, off, h, _⟩
      · have := plVals_length L
        exact List.eq_nil_of_length_eq_zero (by rw [h] at this; simp only [List.length_nil] at this; omega)
      · simp at h
    subst hL
    have qT : ∀ (w : World) (a : Option Addr) (n c n' c' : Nat), (binOp .eql 63 (.slice a n c) (.slice none n' c')).run Tryd.prog w = .ok (.bool a.isNone) w := fun w a n c n' c' => Lib.run_eql_slice_nil w _ _ a n c n' c' Tryd.underlying63
    go_enter Tryd.func63, Tryd.ntmps63
    go_wp2_with fail
    go_ret
    exact ⟨_, rfl, World.ownsRow_nil _ _ _ _, Keeps.refl _ _⟩
  | some ad =>
    have hown0 : Hid ((w.alloc (.cells #[] 72)).ownsRow w.heap.size 72 2 (.slice (some ⟨w.heap.size, 0, none⟩) 0 0) 0 []) :=
      ⟨rfl, .inr ⟨w.heap.size, 0, #[], rfl, Nat.le_refl _, Blk.new w _ _, Nat.le_refl _, by decide, rfl, rfl⟩⟩
    have hcells : Hid (∀ j u, (plVals L)[j]? = some u → (w.alloc (.cells #[] 72)).cell? (ad.add j) = some u) := (hr.keep ((Keeps.refl _ _).alloc _)).cells
    have qT : ∀ (w : World) (a : Option Addr) (n c n' c' : Nat), (binOp .eql 63 (.slice a n c) (.slice none n' c')).run Tryd.prog w = .ok (.bool a.isNone) w := fun w a n c n' c' => Lib.run_eql_slice_nil w _ _ a n c n' c' Tryd.underlying63
    go_enter Tryd.func63, Tryd.ntmps63
    go_wp2_with (first | (at_builtin; refine wpList_app rfl _ _ 63 rfl w.heap.size 72 i0 (.agg #[.int .u32 0, .int .i64 0]) 2 16 Tryd.underlying63 hi hz0 hz1 hz2 rfl (by decide) _ 0 [] rfl hown0.out ad L.length c (plVals L) rfl ?c1 hcells.out ?c2 ?c3 ?c4 ?c5 ?_))
    case c1 => exact plVals_length L
    case c2 => exact plVals_one L
    case c3 => unfold maxLen; omega
    case c4 => omega
    case c5 => simp
    intro v1 w1 ho hk1 _ _
    have HF := Lib.hid (And.intro ho (((Keeps.refl (fun _ => False) w).alloc (.cells #[] 72)).trans (hk1.mono (fp' := fun k => k = w.heap.size) fun i _ e => by simp [Value.ownBlock] at e; exact e.symm) fun i hi e => by omega))
    clear ho hk1 hcells hown0
    go_wp2_with fail
    go_ret
    refine ⟨_, rfl, ?_, HF.out.2⟩
    have := HF.out.1
    exact this

/-- The places. -/
theorem aplaces (h : Ar w own p n L) : Calls Tryd.prog 45 #[.pointer (some ⟨p, 0, none⟩)] w (ClonePost L w) := by
  have hbn := h.bound
  have hle := h.le
  obtain ⟨⟨b, ownS, v, h1, rfl⟩, _⟩ := h
  have g1 := h1.c1
  obtain ⟨va, vc, rfl, hr, hva⟩ := PlRow.rd h1.row
  have hc := Lib.hid (clonePl va vc w hr (by omega) hva)
  clear h1 hr hva
  go_enter Tryd.func45, Tryd.ntmps45
  go_wp2_with fail
  refine hc.out.mono ?_
  rintro e w2 ⟨v2, rfl, ho, hk⟩
  have HF := Lib.hid (And.intro ho hk)
  clear ho hk
  go_wp2_with fail
  go_ret
  exact ⟨_, rfl, HF.out.1, HF.out.2⟩
end
end Go.Proofs.YtiphdlhnoceeiaaDoor
