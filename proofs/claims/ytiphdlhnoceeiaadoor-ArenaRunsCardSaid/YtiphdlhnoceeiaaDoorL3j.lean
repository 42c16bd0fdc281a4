/- Chapter 3's laws: the document's answer. -/
import Derived.Test.YtiphdlhnoceeiaaDoorL3f
namespace Go.Proofs.YtiphdlhnoceeiaaDoor
open Go Go.RowKit
set_option linter.unusedVariables false
set_option linter.unusedSimpArgs false
set_option maxRecDepth 100000

/-- The document's arena, as a value. -/
def RV (n : Int) (a : Option Addr) (l c : Nat) : Value := .agg #[.int .i64 n, .slice a l c]
section
variable {L : List (Int × Int)}
set_option maxHeartbeats 1000000 in
theorem samePl (a1 a2 : Option Addr) (c1 c2 : Nat) (w : World) (h1 : Rd w a1 (plVals L)) (h2 : Rd w a2 (plVals L)) (hl : L.length ≤ 9000000000000000000) :
    Calls Tryd.prog 52 #[.slice a1 L.length c1, .slice a2 L.length c2] w (BoolPost true w) := by
  have H1 := Lib.hid h1
  have H2 := Lib.hid h2
  clear h1 h2
  go_enter Tryd.func52, Tryd.ntmps52
  go_wp2_with fail
  go_loopw [5] (fun i wr => ∃ (k q : Nat), k ≤ L.length ∧ i = .int .i64 (k : Int) ∧ wr = w.drewN q) (fun i _ => L.length - (intOf i).toNat)
  case atStart => exact ⟨0, 0, Nat.zero_le _, rfl, rfl⟩
  case round =>
    obtain ⟨k, q, hk, rfl, rfl⟩ := hrel
    by_cases hlt : k < L.length
    · obtain ⟨b1, o1, rfl, e1, e2⟩ := plAt H1.out k hlt
      obtain ⟨b2, o2, rfl, e3, e4⟩ := plAt H2.out k hlt
      generalize L[k] = p at *
      obtain ⟨pa, ps⟩ := p
      simp only at e1 e2 e3 e4
      go_wp2_with fail
      go_quiet (fail)
      go_wp2_with fail
      refine ⟨⟨k + 1, _, hlt, by go_num, rfl⟩, by simp [intOf]; omega⟩
    · go_wp2_with fail
      go_ret
      exact ⟨rfl, (Keeps.refl _ _).drewN _⟩

set_option maxHeartbeats 1000000 in
theorem refAll3 (n : Int) (a : Option Addr) (c : Nat) (w : World) (hr : Rd w a (plVals L)) (hl : L.length ≤ 10000000) :
    Calls Tryd.prog 53 #[RV n a L.length c] w (LAllPost L w) := by
  obtain ⟨i0, hi, hz0, hz1, hz2⟩ := info_parts info3
  have hr2 : Rd (w.alloc (.cells #[.int .i64 n, .slice a L.length c] 75)) a (plVals L) := hr.keep ((Keeps.refl _ _).alloc _)
  have HR := Lib.hid hr2
  have HB : Hid (Blk (w.alloc (.cells #[.int .i64 n, .slice a L.length c] 75)) w.heap.size #[.int .i64 n, .slice a L.length c] 75) := Blk.new w _ _
  have HK0 : Hid (Keeps (fun _ => False) w (w.alloc (.cells #[.int .i64 n, .slice a L.length c] 75))) := (Keeps.refl _ _).alloc _
  clear hr hr2
  unfold RV
  have hst : Hid (RefAllRel (w.alloc (.cells #[.int .i64 n, .slice a L.length c] 75)) (lvs L) 0 (.slice none 0 0) (w.alloc (.cells #[.int .i64 n, .slice a L.length c] 75))) := ⟨World.ownsRow_nil _ _ _ _, Keeps.refl _ _⟩
  go_enter Tryd.func53, Tryd.ntmps53
  go_wp2_with fail
  generalize w.alloc (.cells #[.int .i64 n, .slice a L.length c] 75) = w0 at *
  go_loopw [3, 4] (fun l i wr => ∃ f : Nat, f ≤ L.length ∧ i = .int .i64 (f : Int) ∧ RefAllRel w0 (lvs L) f l wr) (fun _ i _ => L.length - (intOf i).toNat)
  case atStart => exact ⟨0, Nat.zero_le _, rfl, hst.out⟩
  case round =>
    obtain ⟨f, hf, rfl, hrel⟩ := hrel
    clear hst
    have hB := HB.out.quiet hrel.2
    have g1 := hB.cell (i := 1)
    simp only [List.getElem?_toArray, List.getElem?_cons_zero, List.getElem?_cons_succ] at g1
    clear hB
    by_cases hlt : f < L.length
    · obtain ⟨ab, off, rfl, e1, e2⟩ := plAt (HR.out.keep hrel.2) f hlt
      have hS := lvs_in L f hlt
      have hown := hrel.1
      have hcn := cnt_le (lvs L) f
      have hws := hrel.2.size
      have HREL := Lib.hid hrel
      clear hrel
      generalize L[f] = q at *
      obtain ⟨qa, qs⟩ := q
      simp only at e1 e2 hS
      by_cases hqs : qs = 1
      · subst hqs
        have HS := Lib.hid hS
        clear hS
        generalize hcf : cnt (lvs L) f = cf at *
        go_wp2_with (first | (at_builtin; refine wpList_app1 rfl _ _ 22 rfl w0.heap.size 3 i0 (.int .i64 0) 1 8 Tryd.underlying22 hi hz0 hz1 hz2 rfl (by decide) _ _ _ rfl hown _ 1 1 [.int .i64 (f : Int)] 3 rfl rfl rfl ?c1 ?c2 ?c3 ?c4 ?_))
        case c1 => simp [Value.oneCell']
        case c2 => unfold maxLen; omega
        case c3 => omega
        case c4 => exact hws
        intro v1 w1 ho hk1 _ _ _
        have hgr := Lib.hid (HREL.out.grow HS.out (by rw [hcf]; exact ho) hk1)
        clear ho hk1 hown hcf
        go_wp2_with fail
        refine ⟨⟨f + 1, hlt, by go_num, hgr.out⟩, by simp [intOf]; omega⟩
      · have hqb : (qs == 1) = false := by rw [beq_eq_false_iff_ne]; exact hqs
        have HS := Lib.hid (hS.trans hqb)
        clear hS hown
        go_wp2_with fail
        refine ⟨⟨f + 1, hlt, by go_num, HREL.out.skip HS.out⟩, by simp [intOf]; omega⟩
    · obtain rfl : f = L.length := by omega
      have HREL := Lib.hid hrel
      clear hrel
      obtain ⟨va, vc, hv⟩ := ownsRow_slice HREL.out.1
      go_wp2_with fail
      go_ret
      obtain ⟨a2, c2, hv2, hr2, _⟩ := Rd.of_own HREL.out.1
      rw [cnt_lvs] at hv2
      exact ⟨a2, c2, by rw [← hv2]; rfl, hr2, HK0.out.trans' HREL.out.2⟩

theorem full_iff (L : List (Int × Int)) (n : Nat) (hn : L.length ≤ n) : decide (cnt (tak L) n = n) = (decide (∀ i, i < L.length → tak L i = true) && decide (L.length = n)) := by
  rw [Bool.eq_iff_iff]
  simp only [decide_eq_true_eq, Bool.and_eq_true]
  constructor
  · intro h
    have hall : ∀ i, i < n → tak L i = true := fun i hi => by
      cases e : tak L i with
      | true => rfl
      | false =>
        have := cnt_lt (tak L) n i hi e
        omega
    refine ⟨fun i hi => hall i (by omega), ?_⟩
    by_cases h2 : L.length = n
    · exact h2
    · have := hall L.length (by omega)
      rw [tak_out L _ (Nat.le_refl _)] at this
      exact absurd this (by decide)
  · rintro ⟨h1, h2⟩
    rw [← h2]
    exact cnt_all _ _ h1
set_option maxHeartbeats 1000000 in
theorem refFull3 (n : Nat) (a : Option Addr) (c : Nat) (w : World) (hr : Rd w a (plVals L)) (hl : L.length ≤ n) (hn : n ≤ 10000000) :
    Calls Tryd.prog 54 #[RV n a L.length c] w (BoolPost (decide (cnt (tak L) n = n)) w) := by
  have hr2 : Rd (w.alloc (.cells #[.int .i64 n, .slice a L.length c] 75)) a (plVals L) := hr.keep ((Keeps.refl _ _).alloc _)
  have HR := Lib.hid hr2
  have HB : Hid (Blk (w.alloc (.cells #[.int .i64 n, .slice a L.length c] 75)) w.heap.size #[.int .i64 n, .slice a L.length c] 75) := Blk.new w _ _
  have HK0 : Hid (Keeps (fun _ => False) w (w.alloc (.cells #[.int .i64 n, .slice a L.length c] 75))) := (Keeps.refl _ _).alloc _
  have HF := Lib.hid (full_iff L n hl)
  clear hr hr2
  unfold RV
  go_enter Tryd.func54, Tryd.ntmps54
  go_wp2_with fail
  generalize w.alloc (.cells #[.int .i64 n, .slice a L.length c] 75) = w0 at *
  have g0 := HB.out.cell (i := 0)
  have g1 := HB.out.cell (i := 1)
  simp only [List.getElem?_toArray, List.getElem?_cons_zero, List.getElem?_cons_succ] at g0 g1
  go_loopw [3] (fun i wr => ∃ f : Nat, f ≤ L.length ∧ i = .int .i64 (f : Int) ∧ wr = w0 ∧ Hid (∀ y, y < f → tak L y = true)) (fun i _ => L.length - (intOf i).toNat)
  case atStart => exact ⟨0, Nat.zero_le _, rfl, rfl, fun y hy => absurd hy (Nat.not_lt_zero _)⟩
  case round =>
    obtain ⟨f, hf, rfl, rfl, HT⟩ := hrel
    by_cases hlt : f < L.length
    · obtain ⟨ab, off, rfl, e1, e2⟩ := plAt HR.out f hlt
      have hS := tak_in L f hlt
      generalize L[f] = q at *
      obtain ⟨qa, qs⟩ := q
      simp only at e1 e2 hS
      by_cases hqs : qs = 0
      · subst hqs
        have HS := Lib.hid hS
        clear hS
        go_wp2_with fail
        go_ret
        refine ⟨?_, HK0.out⟩
        rw [HF.out]
        have hno : ¬ ∀ i, i < L.length → tak L i = true := fun h => by have := h f hlt; rw [HS.out] at this; exact absurd this (by decide)
        simp [hno]
      · have hqb : (qs == 0) = false := by rw [beq_eq_false_iff_ne]; exact hqs
        have HS := Lib.hid (show tak L f = true by rw [hS]; simp; exact hqs)
        clear hS
        go_wp2_with fail
        refine ⟨⟨f + 1, hlt, by go_num, by first | rfl | trivial, fun y hy => ?_⟩, by simp [intOf]; omega⟩
        by_cases e : y = f
        · rw [e]; exact HS.out
        · exact HT.out y (by omega)
    · obtain rfl : f = L.length := by omega
      go_wp2_with fail
      go_ret
      refine ⟨?_, HK0.out⟩
      rw [HF.out]
      have hd : decide (∀ i, i < L.length → tak L i = true) = true := decide_eq_true HT.out
      rw [hd, Bool.true_and]
      by_cases e : L.length = n
      · simp [e]
      · simp [e]; omega

/-- The i-th can't be, or can't be the last. -/
def badAt (L : List (Int × Int)) (i : Nat) (q : Int × Int) : Prop := oddB q = true ∨ i + 1 = L.length ∧ q.1 = 0
theorem loadOk_of {x : Int} (h1 : 1 ≤ x) (h2 : x ≤ 1048576) (h3 : (L.length : Int) ≤ x) (h : ∀ i (hi : i < L.length), ¬ badAt L i L[i]) : LoadOk x L := by
  refine ⟨h1, h2, h3, ?_, fun q hq h0 => ?_⟩
  · rw [List.any_eq_false]
    intro q hq
    obtain ⟨i, hi, rfl⟩ := List.mem_iff_getElem.1 hq
    exact fun e => h i hi (.inl e)
  · rw [List.getLast?_eq_getElem?] at hq
    obtain ⟨hi, hq⟩ := List.getElem?_eq_some_iff.1 hq
    exact h _ hi (.inr ⟨by omega, by rw [hq]; exact h0⟩)
theorem not_loadOk {x : Int} {i : Nat} (hi : i < L.length) (h : badAt L i L[i]) : ¬ LoadOk x L := by
  intro hok
  rcases h with h | ⟨h1, h2⟩
  · have := hok.odd
    rw [List.any_eq_false] at this
    exact this _ (List.getElem_mem hi) h
  · exact hok.last L[i] (by rw [List.getLast?_eq_getElem?, ← h1]; simp) h2

def RLoadPost (x : Int) (a : Option Addr) (c : Nat) (L : List (Int × Int)) (w : World) (e : Ending) (w' : World) : Prop :=
  ∃ v k, e = .returned (.tuple #[v, .int .i64 k]) ∧ (LoadOk x L ∧ v = RV x a L.length c ∧ k = 0 ∨ ¬ LoadOk x L ∧ v = .agg #[.int .i64 0, .slice none 0 0] ∧ k = 1) ∧ Keeps (fun _ => False) w w'
set_option maxHeartbeats 4000000 in
theorem refLoad3 (x : Int) (a : Option Addr) (c : Nat) (w : World) (hr : Rd w a (plVals L)) (hl : L.length ≤ 9223372036854775807) :
    Calls Tryd.prog 48 #[.int .i64 x, .slice a L.length c] w (RLoadPost x a c L w) := by
  have HK0 : Hid (Keeps (fun _ => False) w (w.alloc (.cells #[.int .i64 0, .slice none 0 0] 75))) := (Keeps.refl _ _).alloc _
  by_cases hx : x < 1 ∨ 1048576 < x ∨ x < (L.length : Int)
  · have hno : Hid (¬ LoadOk x L) := fun h => by have := h.lo; have := h.hi; have := h.le; omega
    clear hr
    have hcs : (x < 1) ∨ (1 ≤ x ∧ 1048576 < x) ∨ (1 ≤ x ∧ x ≤ 1048576 ∧ x < (L.length : Int)) := by omega
    clear hx
    rcases hcs with hx | ⟨hx0, hx⟩ | ⟨hx0, hx1, hx⟩
    all_goals
      go_enter Tryd.func48, Tryd.ntmps48
      go_wp2_with fail
      refine bodyPost_ret (v := .tuple #[.agg #[.int .i64 0, .slice none 0 0], .int .i64 1]) (by simp [results, Tryd.results48, go_sem]) rfl ?_
      exact ⟨_, _, rfl, .inr ⟨hno.out, rfl, rfl⟩, HK0.out⟩
  · have hx1 : 1 ≤ x := by omega
    have hx2 : x ≤ 1048576 := by omega
    have hx3 : (L.length : Int) ≤ x := by omega
    have hx4 : L.length ≤ 1048576 := by omega
    have HR := Lib.hid hr
    have HLO := Lib.hid (fun h => loadOk_of (L := L) hx1 hx2 hx3 h)
    have HB : Hid (Blk (w.alloc (.cells #[.int .i64 0, .slice none 0 0] 75)) w.heap.size #[.int .i64 0, .slice none 0 0] 75) := Blk.new w _ _
    clear hx hr
    go_enter Tryd.func48, Tryd.ntmps48
    go_wp2_with fail
    have HR0 := Lib.hid (HR.out.keep HK0.out)
    have hws : w.heap.size < (w.alloc (.cells #[.int .i64 0, .slice none 0 0] 75)).heap.size := by simp
    generalize w.alloc (.cells #[.int .i64 0, .slice none 0 0] 75) = w0 at *
    go_loopw [6] (fun i wr => ∃ f : Nat, f ≤ L.length ∧ i = .int .i64 (f : Int) ∧ Hid (Keeps (fun _ => False) w0 wr ∧ ∀ i (hi : i < L.length), i < f → ¬ badAt L i L[i])) (fun i _ => L.length - (intOf i).toNat)
    case atStart => exact ⟨0, Nat.zero_le _, rfl, Keeps.refl _ _, fun i _ h => absurd h (Nat.not_lt_zero _)⟩
    case round =>
      obtain ⟨f, hf, rfl, HS⟩ := hrel
      have hBr := HB.out.quiet HS.out.1
      have r0 := hBr.cell (i := 0)
      have r1 := hBr.cell (i := 1)
      have q0 := hBr.free 0
      have q1 := hBr.free 1
      have hbl := hBr.lt
      simp only [List.getElem?_toArray, List.getElem?_cons_zero, List.getElem?_cons_succ] at r0 r1
      have HBR := Lib.hid hBr
      clear hBr
      by_cases hlt : f < L.length
      · obtain ⟨ab, off, rfl, e1, e2⟩ := plAt (HR0.out.keep HS.out.1) f hlt
        have HSTEP : Hid (∀ wc, Keeps (fun _ => False) wr wc → ¬ badAt L f L[f] → Keeps (fun _ => False) w0 wc ∧ ∀ i (hi : i < L.length), i < f + 1 → ¬ badAt L i L[i]) := fun wc hk hb => ⟨HS.out.1.trans' hk, fun i hi h => by
          by_cases e : i = f
          · subst e; exact hb
          · exact HS.out.2 i hi (by omega)⟩
        have HBAD := Lib.hid (fun h => not_loadOk (x := x) hlt h)
        generalize L[f] = q at *
        obtain ⟨qa, qs⟩ := q
        simp only at e1 e2
        go_upto_region 7 with fail
        have hsz : w.heap.size < (wr.alloc (.cells #[.int .u32 qa, .int .i64 qs] 83)).heap.size := by simp; omega
        go_cut [8] (fun t wx => t = .bool (!oddB (qa, qs)) ∧ wx = wr.alloc (.cells #[.int .u32 qa, .int .i64 qs] 83))
        case first =>
          by_cases h0 : qs = 0
          · subst h0
            by_cases hm : qa = 4294967295
            · subst hm
              go_wp2_with fail
              go_meet
              exact ⟨rfl, rfl⟩
            · have hmb : (qa == 4294967295) = false := by rw [beq_eq_false_iff_ne]; exact hm
              have hmn : (qa != 4294967295) = true := by rw [bne_iff_ne]; exact hm
              go_wp2_with fail
              go_meet
              exact ⟨by simp [oddB, hm], rfl⟩
          · have k0 : (qs == 0) = false := by rw [beq_eq_false_iff_ne]; exact h0
            by_cases h1 : qs = 1
            · subst h1
              by_cases hm : qa = 0
              · subst hm
                go_wp2_with fail
                go_meet
                exact ⟨rfl, rfl⟩
              · have hmb : (qa == 0) = false := by rw [beq_eq_false_iff_ne]; exact hm
                have hmn : (qa != 0) = true := by rw [bne_iff_ne]; exact hm
                go_wp2_with fail
                go_meet
                exact ⟨by simp [oddB, hm], rfl⟩
            · have k1 : (qs == 1) = false := by rw [beq_eq_false_iff_ne]; exact h1
              by_cases h2 : qs = 2
              · subst h2
                by_cases hm : qa = 4294967295
                · subst hm
                  go_wp2_with fail
                  go_meet
                  exact ⟨rfl, rfl⟩
                · have hmb : (qa == 4294967295) = false := by rw [beq_eq_false_iff_ne]; exact hm
                  go_wp2_with fail
                  go_meet
                  exact ⟨by simp [oddB, hm], rfl⟩
              · have k2 : (qs == 2) = false := by rw [beq_eq_false_iff_ne]; exact h2
                go_wp2_with fail
                go_meet
                exact ⟨by simp [oddB, h0, h1, h2], rfl⟩
        case rest =>
          obtain ⟨rfl, rfl⟩ := hcut
          have hkw : Keeps (fun _ => False) wr (wr.alloc (.cells #[.int .u32 qa, .int .i64 qs] 83)) := (Keeps.refl _ _).alloc _
          have hB7 : Blk (wr.alloc (.cells #[.int .u32 qa, .int .i64 qs] 83)) wr.heap.size #[.int .u32 qa, .int .i64 qs] 83 := Blk.new wr _ _
          have c0 := hB7.cell (i := 0)
          have hBr := HBR.out.quiet hkw
          have r0 := hBr.cell (i := 0)
          have r1 := hBr.cell (i := 1)
          have q0 := hBr.free 0
          have q1 := hBr.free 1
          simp only [List.getElem?_toArray, List.getElem?_cons_zero, List.getElem?_cons_succ] at r0 r1 c0
          have hw : wrap64 ((L.length : Int) - 1) = (L.length : Int) - 1 := by simp [wrap64]; omega
          have HKx := Lib.hid (HK0.out.trans' (HS.out.1.trans' hkw))
          have HW := Lib.hid ((hBr.set 0 (.int .i64 0)).set 1 (.slice none 0 0))
          have HKW : Hid (Keeps (fun _ => False) w (((wr.alloc (.cells #[.int .u32 qa, .int .i64 qs] 83)).setCell ⟨w.heap.size, 0, none⟩ (.int .i64 0)).setCell ⟨w.heap.size, 1, none⟩ (.slice none 0 0))) :=
            (HKx.out.setCell _ _ fun h => absurd h (Nat.lt_irrefl _)).setCell _ _ fun h => absurd h (Nat.lt_irrefl _)
          have HNW := Lib.hid (HSTEP.out _ hkw)
          have hfl : ((f : Int) == (L.length : Int) - 1) = decide (f + 1 = L.length) := by
            by_cases e : f + 1 = L.length
            · simp [e]; omega
            · simp [e]; omega
          clear hkw hB7 hBr
          generalize wr.alloc (.cells #[.int .u32 qa, .int .i64 qs] 83) = wx at *
          cases ho : oddB (qa, qs) with
          | true =>
            have HN := Lib.hid (HBAD.out (.inl ho))
            clear ho
            go_wp2_with fail
            generalize (wx.setCell ⟨w.heap.size, 0, none⟩ (.int .i64 0)).setCell ⟨w.heap.size, 1, none⟩ (.slice none 0 0) = W at *
            have k0 := HW.out.cell (i := 0)
            have k1 := HW.out.cell (i := 1)
            refine bodyPost_ret (v := .tuple #[.agg #[.int .i64 0, .slice none 0 0], .int .i64 1]) (by simp at k0 k1; simp [results, Tryd.results48, go_sem, k0, k1]) rfl ?_
            exact ⟨_, _, rfl, .inr ⟨HN.out, rfl, rfl⟩, HKW.out⟩
          | false =>
            by_cases hlast : f + 1 = L.length
            · have hd1 : decide (f + 1 = L.length) = true := decide_eq_true hlast
              by_cases hq0 : qa = 0
              · subst hq0
                have HN := Lib.hid (HBAD.out (.inr ⟨hlast, rfl⟩))
                have hlast' := Lib.hid hlast
                clear ho hlast
                go_wp2_with fail
                generalize (wx.setCell ⟨w.heap.size, 0, none⟩ (.int .i64 0)).setCell ⟨w.heap.size, 1, none⟩ (.slice none 0 0) = W at *
                have k0 := HW.out.cell (i := 0)
                have k1 := HW.out.cell (i := 1)
                refine bodyPost_ret (v := .tuple #[.agg #[.int .i64 0, .slice none 0 0], .int .i64 1]) (by simp at k0 k1; simp [results, Tryd.results48, go_sem, k0, k1]) rfl ?_
                exact ⟨_, _, rfl, .inr ⟨HN.out, rfl, rfl⟩, HKW.out⟩
              · have hqb : (qa == 0) = false := by rw [beq_eq_false_iff_ne]; exact hq0
                have HG := Lib.hid (HNW.out (by rintro (h | ⟨_, h⟩); · rw [ho] at h; exact absurd h (by decide)
                                                · exact hq0 h))
                have hlast' := Lib.hid hlast
                clear ho hlast
                go_wp2_with fail
                refine ⟨⟨f + 1, hlt, by go_num, HG.out⟩, by simp [intOf]; omega⟩
            · have hd1 : decide (f + 1 = L.length) = false := decide_eq_false hlast
              have HG := Lib.hid (HNW.out (by rintro (h | ⟨h, _⟩); · rw [ho] at h; exact absurd h (by decide)
                                              · exact hlast h))
              clear ho hlast
              go_wp2_with fail
              refine ⟨⟨f + 1, hlt, by go_num, HG.out⟩, by simp [intOf]; omega⟩
      · obtain rfl : f = L.length := by omega
        have hok := Lib.hid (HLO.out fun i hi => HS.out.2 i hi hi)
        go_wp2_with fail
        have HW := Lib.hid ((HBR.out.set 0 (.int .i64 x)).set 1 (.slice a L.length c))
        have HKW : Hid (Keeps (fun _ => False) w ((wr.setCell ⟨w.heap.size, 0, none⟩ (.int .i64 x)).setCell ⟨w.heap.size, 1, none⟩ (.slice a L.length c))) :=
          ((HK0.out.trans' HS.out.1).setCell _ _ fun h => absurd h (Nat.lt_irrefl _)).setCell _ _ fun h => absurd h (Nat.lt_irrefl _)
        generalize (wr.setCell ⟨w.heap.size, 0, none⟩ (.int .i64 x)).setCell ⟨w.heap.size, 1, none⟩ (.slice a L.length c) = W at *
        have k0 := HW.out.cell (i := 0)
        have k1 := HW.out.cell (i := 1)
        refine bodyPost_ret (v := .tuple #[RV x a L.length c, .int .i64 0]) (by simp at k0 k1; simp [results, Tryd.results48, go_sem, k0, k1, RV]) rfl ?_
        exact ⟨_, _, rfl, .inl ⟨hok.out, rfl, rfl⟩, HKW.out⟩
end
end Go.Proofs.YtiphdlhnoceeiaaDoor
