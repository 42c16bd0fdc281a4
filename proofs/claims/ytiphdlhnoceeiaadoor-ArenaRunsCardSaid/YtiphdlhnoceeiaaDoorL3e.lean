/- Chapter 3's laws: ArenaFinds. -/
import Derived.Test.YtiphdlhnoceeiaaDoorL3d
namespace Go.Proofs.YtiphdlhnoceeiaaDoor
open Go Go.RowKit
set_option linter.unusedVariables false
set_option linter.unusedSimpArgs false
set_option maxRecDepth 100000

theorem Keeps.cellF {w w' : World} (hk : Keeps (fun _ => False) w w') {a : Addr} {v : Value} (h : w.cell? a = some v) : w'.cell? a = some v :=
  (World.cell?_of_block (hk.block _ (World.block_lt_of_cell? w _ h) id)).trans h
theorem Keeps.cell2F {w w' : World} {a b : Addr} {u v : Value} (h : Keeps (fun _ => False) w w') (hc : w.cell? a = some u ∧ w.cell? b = some v) : w'.cell? a = some u ∧ w'.cell? b = some v := ⟨h.cellF hc.1, h.cellF hc.2⟩
section
variable {w wr : World} {p n : Nat} {L : List (Int × Int)} {own : Nat → Prop}
theorem lfind (h : ALoop w p n L own wr) (age : Int) (a : Nat) (ha : a ≤ 4294967295) (k : Nat) (hk : findErr n L age a = k) (x : Int) (hx : (if k = 0 then (a : Int) else 0) = x) (v : Value) (hv : errVal k = v) :
    Calls Tryd.prog 41 #[.pointer (some ⟨p, 0, none⟩), .agg #[.int .u32 age, .int .u32 a]] wr (NilPost (.tuple #[.int .i64 x, v]) wr) := by
  subst hk hx hv
  exact afind h.ar age a ha
theorem lhandle (h : ALoop w p n L own wr) (x : Int) (y : Nat) (hx : x = y) (hy : y < L.length) (age : Int) (hq : L[y] = (age, 1)) :
    Calls Tryd.prog 42 #[.pointer (some ⟨p, 0, none⟩), .int .i64 x] wr (NilPost (.tuple #[.agg #[.int .u32 age, .int .u32 y], .nilIface]) wr) := by
  subst hx
  refine (ahandle h.ar _).mono ?_
  rintro e w' ⟨he, hk⟩
  refine ⟨?_, hk⟩
  have h0 : hanErr n L (y : Int) = 0 := by
    unfold hanErr
    have := h.ar.le
    rw [if_neg (by omega), Int.toNat_natCast, List.getElem?_eq_getElem hy, hq]
    rfl
  rw [he, h0, Int.toNat_natCast, List.getD_eq_getElem?_getD, List.getElem?_eq_getElem hy, hq]
  rfl
def LAllPost (L : List (Int × Int)) (wr : World) (e : Ending) (w' : World) : Prop := ∃ a c, e = .returned (.slice a (liv L) c) ∧ Rd w' a (ints (allOf (lvs L) L.length)) ∧ Keeps (fun _ => False) wr w'
theorem lall (h : ALoop w p n L own wr) : Calls Tryd.prog 44 #[.pointer (some ⟨p, 0, none⟩)] wr (LAllPost L wr) := by
  refine (aall h.ar).mono ?_
  rintro e w' ⟨v, he, ho, hk⟩
  obtain ⟨a, c, rfl, hr, _⟩ := Rd.of_own ho
  exact ⟨a, c, he, hr, hk⟩
/-- The i-th of those that live. -/
theorem live_at (L : List (Int × Int)) (i : Nat) (hi : i < liv L) : ∃ (y : Nat) (age : Int), (ints (allOf (lvs L) L.length))[i]? = some (.int .i64 (y : Int)) ∧ ∃ hy : y < L.length, L[y] = (age, 1) := by
  have hl : (allOf (lvs L) L.length).length = liv L := by rw [allOf_len, cnt_lvs]
  have hm := List.getElem_mem (l := allOf (lvs L) L.length) (n := i) (by omega)
  obtain ⟨h1, h2⟩ := List.mem_filter.1 hm
  rw [List.mem_range] at h1
  rw [lvs_in L _ h1] at h2
  refine ⟨_, _, by simp only [ints, List.getElem?_map, List.getElem?_eq_getElem (show i < (allOf (lvs L) L.length).length by omega)]; rfl, h1, Prod.ext rfl (by simpa using h2)⟩
end

set_option maxHeartbeats 4000000 in
theorem arenaFinds_walk (n : Int) (a : Option Addr) (c : Nat) (L : List (Int × Int)) (age : Int) (w : World) (hT : Tab w) (hE : ErrT w) (hr : Rd w a (plVals L)) (hl : L.length ≤ 9223372036854775807) (hb : ∀ q ∈ L, 0 ≤ q.1 ∧ q.1 ≤ 4294967295) :
    Calls Tryd.prog 17 #[.int .i64 n, .slice a L.length c, .int .u32 age] w (TruePost w) := by
  have HT := Lib.hid hT
  have HE := Lib.hid hE
  have HR := Lib.hid hr
  have HB := Lib.hid hb
  obtain ⟨hk1, hk2⟩ := kof_le n 20 (by decide)
  have hk := show wrap64 (1 + wrap64 ((IntKind.u64.wrap n).tmod 20)) = (kof n 20 : Int) from kof_val n 20 (by decide) (by decide)
  generalize kof n 20 = k0 at *
  clear hT hE hr hb
  by_cases hl100 : 100 < L.length
  · have hsu := Lib.hid (sure03 w HT.out)
    go_enter Tryd.func17, Tryd.ntmps17
    go_wp2_with fail
    refine hsu.out.mono ?_
    rintro e w5 ⟨rfl, hk⟩
    have HKE := Lib.hid hk
    clear hk
    go_wp2_with fail
    go_ret
    exact ⟨rfl, HKE.out⟩
  · have hg := Lib.hid (givePl a c w HR.out (by omega))
    obtain ⟨k, hkl, hk9, hkc⟩ : ∃ k : Nat, L.length ≤ k ∧ k ≤ 100 ∧ (k0 < L.length ∧ k = L.length ∨ ¬ k0 < L.length ∧ k = k0) := by
      by_cases h : k0 < L.length
      · exact ⟨L.length, Nat.le_refl _, by omega, .inl ⟨h, rfl⟩⟩
      · exact ⟨k0, by omega, by omega, .inr ⟨h, rfl⟩⟩
    have hdec := Classical.em (LoadOk (k : Int) L)
    clear hk1
    rcases hkc with ⟨hkc, rfl⟩ | ⟨hkc, rfl⟩
    all_goals
      go_enter Tryd.func17, Tryd.ntmps17
      go_wp2_with fail
      refine hg.out.mono ?_
      rintro e w1 ⟨v, rfl, ho, hk1⟩
      obtain ⟨va, vc, rfl, hr1, hva⟩ := PlRow.rd ho
      rcases hdec with hok | hok
      · have hld := Lib.hid (lload _ _ rfl va vc w w1 hk1 hr1 hva HB.out hok)
        clear ho hk1 hr1 hva hok hk
        go_wp2_with fail
        refine hld.out.mono ?_
        rintro e w2 ⟨p, own, rfl, hl⟩
        have H2 := Lib.hid hl
        have hal := Lib.hid (lall hl)
        clear hl hld
        go_wp2_with fail
        refine hal.out.mono ?_
        rintro e w3 ⟨la, lc, rfl, hlr, hlk⟩
        have H3 := Lib.hid (And.intro (H2.out.quiet hlk) hlr)
        have hll := liv_le L
        clear hlk hlr hal H2
        go_wp2_with fail
        go_loopw [11] (fun i wr => ∃ (j : Nat), j ≤ liv L ∧ i = .int .i64 (j : Int) ∧ Hid (Keeps (fun _ => False) w3 wr)) (fun i _ => liv L - (intOf i).toNat)
        case atStart => exact ⟨0, Nat.zero_le _, rfl, Keeps.refl _ _⟩
        case round =>
          obtain ⟨j, hj, rfl, hkr⟩ := hrel
          have HS := Lib.hid (H3.out.1.quiet hkr.out)
          by_cases hlt : j < liv L
          · obtain ⟨y, ag, hy1, hy, hyq⟩ := live_at L j hlt
            obtain ⟨ab, off, rfl, hc⟩ := (H3.out.2.keep hkr.out).at_ j (List.getElem?_eq_some_iff.1 hy1).1
            have hcj := hc j (List.getElem?_eq_some_iff.1 hy1).1
            rw [hy1] at hcj
            have hh := Lib.hid (lhandle HS.out (y : Int) y rfl hy ag hyq)
            have hyk := HS.out.ar.le
            have hyb := HS.out.ar.bound
            have hag0 : ag ≠ 0 := by
              have := HS.out.ar.ok _ (List.getElem_mem hy)
              rw [hyq] at this
              obtain ⟨_, _, h | h | h⟩ := this
              · exact absurd h.1 (show ¬ (1 : Int) = 0 by decide)
              · exact h.2
              · exact absurd h.1 (show ¬ (1 : Int) = 2 by decide)
            have hagb : (ag == 0) = false := by rw [beq_eq_false_iff_ne]; exact hag0
            have hfe : ∀ x : Int, findErr _ L x y = if x = ag then 0 else 13 := fun x => by
              unfold findErr
              rw [if_neg (show ¬ (_ : Nat) ≤ y from by first | exact Nat.not_le.2 (Nat.lt_of_lt_of_le hy hyk)), List.getElem?_eq_getElem hy, hyq]
              simp [eq_comm]
            clear hc hy1
            go_wp2_with fail
            refine hh.out.mono ?_
            rintro e w4 ⟨rfl, hk4⟩
            have hk5 := hk4.alloc (.cells #[.int .u32 ag, .int .u32 (y : Int)] 46)
            have hB : Blk (w4.alloc (.cells #[.int .u32 ag, .int .u32 (y : Int)] 46)) w4.heap.size #[.int .u32 ag, .int .u32 (y : Int)] 46 := Blk.new w4 _ _
            have hf1 := Lib.hid (lfind (HS.out.quiet hk5) ag y (by omega) 0 (by rw [hfe, if_pos rfl]) (y : Int) (by simp) .nilIface rfl)
            have hf2 := Lib.hid (fun (W : World) (hk : Keeps (fun _ => False) wr W) => lfind (HS.out.quiet hk) age y (by omega) (if age = ag then 0 else 13) (hfe age) (if age = ag then (y : Int) else 0) (by by_cases h : age = ag <;> simp [h]) (if age = ag then .nilIface else .iface 92 (.int .i64 13)) (by by_cases h : age = ag <;> simp [h, errVal, errno]))
            have H5 := Lib.hid (And.intro hk5 hB)
            have HHF := Lib.hid (And.intro hcj (And.intro hag0 hagb))
            clear hk4 hk5 hB hh
            go_wp2_with fail
            refine hf1.out.mono ?_
            rintro e w5 ⟨rfl, hk⟩
            have H6 := Lib.hid (And.intro (H5.out.1.trans' hk) (H5.out.2.quiet hk))
            have b0 := H6.out.2.cell (i := 0)
            have b1 := H6.out.2.cell (i := 1)
            simp only [List.getElem?_toArray, List.getElem?_cons_zero, List.getElem?_cons_succ] at b0 b1
            have hf2 := Lib.hid (hf2.out w5 H6.out.1)
            clear hk H5 hf1
            go_wp2_with fail
            refine hf2.out.mono ?_
            rintro e w6 ⟨rfl, hk⟩
            have H7 := Lib.hid (And.intro (H6.out.1.trans' hk) (H6.out.2.quiet hk))
            have b0 := H7.out.2.cell (i := 0)
            have b1 := H7.out.2.cell (i := 1)
            simp only [List.getElem?_toArray, List.getElem?_cons_zero, List.getElem?_cons_succ] at b0 b1
            have hcj := H7.out.1.cellF HHF.out.1
            have hkw := Lib.hid (H3.out.1.quiet (hkr.out.trans' H7.out.1)).keep
            clear hk H6 hf2 hfe
            by_cases hage : age = ag
            · subst hage
              simp only [if_true]
              go_wp2_with fail
              go_quiet (fail)
              go_wp2_with fail
              refine ⟨⟨j + 1, hlt, by go_num, (hkr.out.trans' H7.out.1).drewN _⟩, by simp [intOf]; omega⟩
            · have hageb : (age == ag) = false := by rw [beq_eq_false_iff_ne]; exact hage
              simp only [if_neg hage]
              have hnum := Lib.hid (fun W (hk : Keeps (fun _ => False) w6 W) => num03_err 13 W (HE.out.keep (hkw.out.trans' hk)))
              go_wp2_with fail
              go_region_held3 (fun w' => w'.cell? ⟨ab, off + j, none⟩ = some (.int .i64 (y : Int)) ∧ w'.cell? ⟨w4.heap.size, 0, none⟩ = some (.int .u32 ag))
                (first | exact ⟨hcj, b0⟩ | (exact Keeps.cell2F (by assumption) (by assumption)))
                (first | (go_at_call 43; refine (hnum.out _ ((Keeps.refl _ _).drew)).mono ?_; rintro e w' ⟨rfl, hkn⟩))
              have hkz := Lib.hid (hkr.out.trans' (H7.out.1.trans' ((Keeps.refl _ _).drew.trans' hkn)))
              clear hkn
              go_wp2_with fail
              refine ⟨⟨j + 1, hlt, by go_num, hkz⟩, by simp [intOf]; omega⟩
          · obtain rfl : j = liv L := by omega
            have hle := Lib.hid (llen HS.out (liv L) rfl)
            have hsu := Lib.hid (sure03 wr (HT.out.keep HS.out.keep))
            go_wp2_with (go_at_call 31; refine hle.out.mono ?_; rintro e w' ⟨rfl, rfl⟩)
            refine hsu.out.mono ?_
            rintro e w5 ⟨rfl, hk⟩
            have HKE := Lib.hid (HS.out.keep.trans' hk)
            clear hk
            go_wp2_with fail
            go_ret
            exact ⟨rfl, HKE.out⟩
      · have hld := Lib.hid (aload_bad _ va vc w1 hr1 hok)
        have HK1 := Lib.hid hk1
        clear ho hk1 hr1 hva hok hk
        go_wp2_with fail
        refine hld.out.mono ?_
        rintro e w2 ⟨rfl, hk⟩
        have HK2 := Lib.hid (HK1.out.trans' hk)
        have hsu := Lib.hid (sure03 w2 (HT.out.keep HK2.out))
        clear hk hld
        go_wp2_with fail
        refine hsu.out.mono ?_
        rintro e w5 ⟨rfl, hk⟩
        have HKE := Lib.hid (HK2.out.trans' hk)
        clear hk
        go_wp2_with fail
        go_ret
        exact ⟨rfl, HKE.out⟩
theorem wf32 {L : List (Int × Int)} (h : ∀ p ∈ L, (Lit.int .u32 p.1).wf = true ∧ (Lit.int .i64 p.2).wf = true) : ∀ q ∈ L, 0 ≤ q.1 ∧ q.1 ≤ 4294967295 := by
  intro q hq
  have := (h q hq).1
  simp only [Lit.wf, Bool.and_eq_true, decide_eq_true_eq] at this
  exact this
theorem arenaFinds_enter (W : World) (hT : Tab W) (hE : ErrT W) (n : Int) (_ : (Lit.int .i64 n).wf = true) (a : Option Addr) (c : Nat) (ls : List (Int × Int)) (hr : Rd W a (ls.flatMap fun p => [Value.int .u32 p.1, .int .i64 p.2])) (hl : ls.length ≤ 9223372036854775807)
    (hw : ∀ p ∈ ls, (Lit.int .u32 p.1).wf = true ∧ (Lit.int .i64 p.2).wf = true) (age : Int) (_ : (Lit.int .u32 age).wf = true) :
    Calls Tryd.prog 17 #[.int .i64 n, .slice a ls.length c, .int .u32 age] W (TruePost W) := arenaFinds_walk n a c ls age W hT hE hr hl (wf32 hw)
end Go.Proofs.YtiphdlhnoceeiaaDoor
