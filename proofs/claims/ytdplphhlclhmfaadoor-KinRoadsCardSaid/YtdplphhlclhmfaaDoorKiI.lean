/- kin: the walker: walk. -/
import Derived.Test.YtdplphhlclhmfaaDoorKiH
import Derived.Deep.LoopGhost
import Derived.Deep.DeepCutAuto
namespace Go.Proofs.YtdplphhlclhmfaaDoor
open Go Go.RowKit
set_option linter.unusedVariables false
set_option linter.unusedSimpArgs false
set_option maxRecDepth 100000

section
variable {own : Nat → Prop} {p E B wb nb bb : Nat} {L : List (List Nat)} {num low : List Nat} {met : Nat} {bv : Value} {br : List Nat} {wr W0 : World}
def WalkPost (own : Nat → Prop) (p E B wb nb bb : Nat) (L : List (List Nat)) (num : List Nat) (bv : Value) (v : Nat) (w : World) (e : Ending) (w' : World) : Prop :=
  ∃ num' low' met' bv' br', e = .returned (.tuple #[]) ∧ WkAt own p E B wb nb bb L num' low' met' bv' br' w' ∧ Gst L num' low' met' br' [] ∧ Met num num' ∧ num'.getD v 0 ≠ 0 ∧ Keeps (wkB wb nb bb bv) w w' ∧ ∀ k, bv'.ownBlock = some k → bv.ownBlock = some k ∨ w.heap.size ≤ k
theorem kne (n : Nat) : ((n : Int) + 1 == 0) = false := by rw [beq_eq_false_iff_ne]; omega
theorem kneg (n : Nat) : ((n : Int) == -1) = false := by rw [beq_eq_false_iff_ne]; omega
theorem kbeq (a b : Nat) : ((a : Int) == (b : Int)) = decide (a = b) := by
  by_cases h : a = b
  · rw [h]; simp
  · rw [decide_eq_false h, beq_eq_false_iff_ne]; omega
theorem kmin (a b : Nat) : ((min a b : Nat) : Int) = min (a : Int) (b : Int) := by omega
theorem infoP : (Tryd.prog.info? 150).map (fun i => (i.zero, i.size, i.bytes)) = some (some (.agg #[.int .i64 0, .int .i64 0, .slice none 0 0]), 3, 40) := by kernel_rfl
set_option maxHeartbeats 8000000 in
theorem kwalk (h : WkAt own p E B wb nb bb L num low met bv br W0) (hs : Gst L num low met br []) (hg : Good E L) {v : Nat} (hv : v < L.length) (hn : num.getD v 0 = 0) (hB : B ≤ W0.heap.size) (hV : L.length ≤ 1048576) :
    Calls Tryd.prog 58 #[.pointer (some ⟨wb, 0, none⟩), .int .i64 (v : Int)] W0 (WalkPost own p E B wb nb bb L num bv v W0) := by
  have HG := Lib.hid hg
  have hE2 := h.tu.e2
  have hml := hs.met_le
  have HM := Lib.hid (kmeet h hg hv (-1) (by omega))
  have HGB := Lib.hid (hs.begin hg hv hn)
  have HMT : Hid (Met num (num.set v (met + 1)) ∧ (num.set v (met + 1)).getD v 0 ≠ 0) := Lib.hid (met_set (by omega) (by rw [h.nl]; exact hv))
  have HBV : Hid (∀ q, bv.ownBlock = some q → q < W0.heap.size) := Lib.hid fun q e => (h.br.lt q e).2
  have HBW := Lib.hid hB
  clear h hs hB hn hml hg
  unfold MeetPost at HM
  go_enter Tryd.func58, Tryd.ntmps58
  go_step3
  go_wp2_with (go_at_call 90; with_reducible refine HM.out.mono ?_)
  rintro e w1 ⟨a, c, rfl, hw1, hr1, hf1, hk1, hlc1⟩
  have HK1 := Lib.hid hk1
  have HSZ := Lib.hid hk1.size
  have HI : Hid (∃ num' low' met' bv' br' z, WInv own p E B wb nb bb L num bv W0 v (msr L (num.set v (met + 1)) [⟨v, -1, arL L v⟩]) (.slice (some ⟨w1.heap.size, 0, none⟩) 1 1) (w1.alloc (.cells #[.int .i64 (v : Int), .int .i64 (-1), .slice a (arL L v).length c] 150)) num' low' met' bv' br' z ∧ z.length = 1) := Lib.hid (by
    have hka : Keeps (fun _ => False) w1 (w1.alloc (.cells #[.int .i64 (v : Int), .int .i64 (-1), .slice a (arL L v).length c] 150)) := (Keeps.refl _ _).alloc _
    refine ⟨_, _, _, bv, br, [(⟨v, -1, arL L v⟩, .slice a (arL L v).length c)], ⟨hw1.keep hka, ?_, HGB.out, HMT.out.1, HMT.out.2, Nat.le_refl _, (hk1.mono fun _ _ q => Or.inl q).trans' (hka.mono fun _ _ q => q.elim), fun k e => Or.inl e, fun k e => ?_, HBW.out⟩, rfl⟩
    · have hrl : ∀ b off, a = some ⟨b, off, none⟩ → arL L v ≠ [] → B ≤ b ∧ b < w1.heap.size ∧ (Value.slice none 0 0).ownBlock ≠ some b ∧ bv.ownBlock ≠ some b := fun b off e hl => by
        have h1 := hf1 b off e
        refine ⟨by have := HBW.out; omega, rd_lt hr1 hl e, by simp [Value.ownBlock], fun q => ?_⟩
        have := HBV.out b q
        omega
      have hp := (RoadAt.nil (B := B) bv w1).push (v := v) (bd := -1) (al := arL L v) (a := a) (c := c) (rv' := .slice (some ⟨w1.heap.size, 0, none⟩) 1 1) (w1 := w1.alloc (.cells #[.int .i64 (v : Int), .int .i64 (-1), .slice a (arL L v).length c] 150)) hr1 hlc1 hrl
      refine hp ?_ ((Keeps.refl _ _).alloc _) (fun k e => Or.inr ?_) (fun k e => by have := HBV.out k e; have := HSZ.out; omega)
      · exact World.ownsRow_lit w1 #[.int .i64 (v : Int), .int .i64 (-1), .slice a (arL L v).length c] 1 (by have := HBW.out; have := HSZ.out; omega) (by decide) rfl
      · simp [Value.ownBlock] at e; omega
    · simp [Value.ownBlock] at e
      have := HSZ.out
      omega)
  clear hw1 hr1 hf1 hk1 hlc1 HM HGB HMT
  generalize hal : (arL L v).length = al at *
  generalize hms : msr L _ _ = ms at *
  go_wp2_with fail
  go_step3
  go_wp2_with fail
  go_loopg [4] ms (fun k x wx => ∃ (n : Nat) (a : Option Addr) (c : Nat), x = .slice a n c ∧ Hid (∃ num' low' met' bv' br' z, WInv own p E B wb nb bb L num bv W0 v k x wx num' low' met' bv' br' z ∧ z.length = n))
  case atStart => exact ⟨1, _, 1, rfl, HI⟩
  case round =>
    obtain ⟨n, a0, c0, rfl, HX⟩ := hrel
    clear HI hal hms HK1 HSZ
    cases n with
    | zero => as_aux_lemma =>
      have HF : Hid (WalkPost own p E B wb nb bb L num bv v W0 (.returned (.tuple #[])) wr) := Lib.hid (by
        obtain ⟨num', low', met', bv', br', z, HI, hz⟩ := HX.out
        obtain rfl := List.eq_nil_of_length_eq_zero hz
        exact ⟨num', low', met', bv', br', rfl, HI.wk, HI.gs, HI.mt, HI.mv, HI.kp, HI.bo⟩)
      clear HX
      go_wp2_with fail
      rw [Exit.noGoto_normal]
      go_end0
      exact HF.out
    | succ n =>
      obtain ⟨num', low', met', bv', br', z, HI, hz⟩ := HX.out
      clear HX
      match z, hz with
      | [], hz => simp at hz
      | (⟨x, bd, l⟩, s) :: r, hz =>
      obtain rfl : r.length = n := by simpa using hz
      obtain ⟨g, c1, e, hcap, hBg, hgl, d0, d1, d2, df⟩ := HI.rd.top
      simp only [Value.slice.injEq, true_and] at e
      obtain ⟨rfl, rfl⟩ := e
      have hrl := HI.gs.road_le
      simp only [List.length_map, List.length_cons] at hrl
      have hw3 : wrap64 (r.length : Int) = (r.length : Int) := kwrap64 _ (Nat.lt_of_le_of_lt (Nat.le_of_succ_le hrl) (Nat.lt_of_le_of_lt hV (by decide)))
      have hrI : (r.length : Int) < (r.length : Int) + 1 := Int.lt_succ _
      have hcap0 : r.length ≤ c0 := Nat.le_of_succ_le hcap
      clear hBg hgl hz
      cases l with
      | nil => as_aux_lemma =>
        obtain ⟨a2, c2, hs, hrd, hlc2, _⟩ := HI.rd.sl _ (List.mem_cons_self ..)
        simp only [List.length_nil] at hs
        obtain rfl := hs
        obtain ⟨hk1, hlv⟩ := HI.leave HG.out hV
        have HLV := Lib.hid (hlv.mono (R' := fun e w' => e = .returned (.tuple #[]) ∧ Hid (∃ low' bv' br', WInv own p E B wb nb bb L num bv W0 v (gk - 1) (.slice (some ⟨g, 0, none⟩) r.length c0) w' num' low' met' bv' br' r)) fun e w' q => ⟨q.1, Lib.hid q.2⟩)
        clear hlv hrd hlc2 HI hcap
        go_wp2_with (go_at_call 91; with_reducible refine HLV.out.mono ?_; rintro e w5 ⟨rfl, HW5⟩; clear HLV d0 d1 d2 df)
        go_roundg (gk - 1)
        case measure => omega
        case rel => exact ⟨r.length, _, c0, rfl, Lib.hid (by
          obtain ⟨low3, bv3, br3, hw⟩ := HW5.out
          exact ⟨_, _, _, _, _, r, hw, rfl⟩)⟩
      | cons d l =>
        obtain ⟨b, off, c', rfl, hlc, hcell, hmid⟩ := HI.taken
        have htop := HI.gs.top HG.out
        obtain ⟨hxl, hxn, hst, hbd⟩ := htop
        have hds := (hst d (List.mem_cons_self ..)).1
        have hyl : De L d < L.length := HG.out.toWF.vtx_lt (HG.out.twin _ hds)
        have HTU := Lib.hid HI.wk.tu
        have HDS := Lib.hid hds
        have HBD := Lib.hid hbd
        have HMID := Lib.hid hmid
        have hd2 : d < 2097152 := Nat.lt_of_lt_of_le (HG.out.toWF.bdS hds) (Nat.mul_le_mul_left 2 hE2)
        have hl0 : ((l.length : Int) + 1 == 0) = false := kne l.length
        clear hmid hbd hds hst HI hcap hxn
        go_upto_region 7 with fail
        go_cut [] (fun wd => Hid (∃ a2 c2, WMid own p E B wb nb bb L num bv W0 v gk (.slice (some ⟨g, 0, none⟩) (r.length + 1) c0) wd num' low' met' bv' br' x bd d l (.slice a2 l.length c2) r))
        case first =>
          clear hcell HTU HDS HBD hyl hxl
          by_cases hc1 : c' = 1
          · subst hc1
            obtain rfl : l = [] := List.eq_nil_of_length_eq_zero (Nat.le_zero.1 (Nat.le_of_succ_le_succ hlc))
            go_wp2_with fail
            go_meet
            exact Lib.hid ⟨_, _, HMID.out _ _ (by simp) (by simp)⟩
          · have hc2 : 1 ≤ c' := Nat.le_trans (Nat.le_add_left 1 l.length) hlc
            have HC3 : Hid (l.length ≤ c' - 1) := Lib.hid (by omega)
            go_wp2_with fail
            go_meet
            exact Lib.hid ⟨_, _, HMID.out _ _ (Or.inr rfl) HC3.out⟩
        case rest =>
          obtain ⟨a2, c2, hm⟩ := hcut.out
          obtain ⟨g', c1', e, _, _, _, d0, d1, d2, df⟩ := hm.rd.top
          simp only [Value.slice.injEq, true_and, Option.some.injEq, Addr.mk.injEq, and_true] at e
          obtain ⟨rfl, rfl⟩ := e
          have HM := Lib.hid hm
          have HEN := Lib.hid (kend hm.wk.tu HG.out HDS.out)
          obtain ⟨e0, e1, e2, e3, e4⟩ := hm.wk.blk.cells5
          unfold RetPost tptr at HEN
          clear hcut hm HMID HTU hcell
          generalize hy : De L d = y at *
          have HY := Lib.hid hy
          clear hy
          go_upto_region 10 with (go_at_call 62; with_reducible refine HEN.out.mono ?_; rintro e w5 ⟨rfl, hk5⟩; clear HEN)
          have hm5 := HM.out.keep hk5
          have HM5 := Lib.hid hm5
          obtain ⟨g', c1', e, _, _, _, d0, d1, d2, df⟩ := hm5.rd.top
          simp only [Value.slice.injEq, true_and, Option.some.injEq, Addr.mk.injEq, and_true] at e
          obtain ⟨rfl, rfl⟩ := e
          clear HM hk5 hm5 e0 e1 e2 e3 e4 df
          obtain ⟨sb, hsb⟩ : ∃ sb : Bool, sb = true ↔ ∃ f : Nat, bd = (f : Int) ∧ d = tw f := by
            by_cases q : ∃ f : Nat, bd = (f : Int) ∧ d = tw f
            · exact ⟨true, ⟨fun _ => q, fun _ => rfl⟩⟩
            · exact ⟨false, ⟨fun e => by simp at e, fun e => absurd e q⟩⟩
          have HSB := Lib.hid hsb
          clear hsb
          go_cut [63] (fun t wd => t = .bool sb ∧ Hid (WMid own p E B wb nb bb L num bv W0 v gk (.slice (some ⟨g, 0, none⟩) (r.length + 1) c0) wd num' low' met' bv' br' x bd d l (.slice a2 l.length c2) r))
          case first =>
            clear hyl HY HDS
            rcases HBD.out with hb | ⟨f, hf, hfs, _⟩
            · clear HBD
              obtain rfl : sb = false := by
                cases sb with
                | false => rfl
                | true => obtain ⟨f, q, _⟩ := HSB.out.1 rfl; omega
              subst hb
              clear HSB
              go_wp2_with fail
              go_meet
              exact ⟨rfl, HM5⟩
            · have hf2 : f < 2097152 := Nat.lt_of_lt_of_le (HG.out.toWF.bdS hfs) (Nat.mul_le_mul_left 2 hE2)
              have hsf : sb = decide (d = tw f) := by
                have h1 := HSB.out
                by_cases q : d = tw f
                · rw [decide_eq_true q]; exact h1.2 ⟨f, hf, q⟩
                · rw [decide_eq_false q]
                  cases sb with
                  | false => rfl
                  | true => obtain ⟨f', q1, q2⟩ := h1.1 rfl; exact absurd (by rw [q2]; congr 1; omega) q
              have hfn : ((f : Int) == -1) = false := kneg f
              have hxo := xor_one f (by omega)
              subst hf
              clear HBD HSB hfs hf2
              generalize tw f = t at *
              have hbe := kbeq d t
              rw [← hsf] at hbe
              clear hsf
              go_wp2_with fail
              go_meet
              exact ⟨rfl, HM5⟩
          case rest =>
            obtain ⟨rfl, HM6⟩ := hcut
            clear HM5 d0 d1 d2
            cases sb with
            | true =>
              obtain ⟨f, hf, hdf⟩ := HSB.out.1 rfl
              have HN := Lib.hid (HM6.out.skip HG.out hf hdf)
              have hk1 := HN.out.1
              clear HM6 HSB HBD hf hdf hyl HY HDS
              go_wp2_with fail
              go_roundg (gk - 1)
              case measure => omega
              case rel => exact ⟨r.length + 1, _, c0, rfl, Lib.hid ⟨_, _, _, _, _, _, HN.out.2, rfl⟩⟩
            | false =>
              have HNE : Hid (∀ f : Nat, bd = (f : Int) → d ≠ tw f) := Lib.hid fun f h1 h2 => by
                have := HSB.out.2 ⟨f, h1, h2⟩
                simp at this
              clear HSB HBD
              obtain ⟨e0, e1, e2, e3, e4⟩ := HM6.out.wk.blk.cells5
              have qn := HM6.out.wk.nm.cell y
              rw [List.getElem?_toArray, nats_get (by rw [HM6.out.gs.nl]; exact hyl)] at qn
              have hyI : (y : Int) < (L.length : Int) := Int.ofNat_lt.2 hyl
              obtain ⟨Ny, hNy⟩ : ∃ Ny, num'.getD y 0 = Ny := ⟨_, rfl⟩
              rw [hNy] at qn
              by_cases h0 : Ny = 0
              · have hml := HM6.out.gs.met_le
                have HMT := Lib.hid ((kmeet HM6.out.wk HG.out hyl (d : Int) (by omega)).mono (R' := fun e w' => ∃ a7 c7, e = .returned (.agg #[.int .i64 (y : Int), .int .i64 (d : Int), .slice a7 (arL L y).length c7]) ∧ Hid (WkAt own p E B wb nb bb L (num'.set y (met' + 1)) (low'.set y (met' + 1)) (met' + 1) bv' br' w' ∧ Rd w' a7 (nats (arL L y)) ∧ Fresh wc.heap.size a7 ∧ Keeps (wkF wb nb bb) wc w' ∧ (arL L y).length ≤ c7)) fun e w' q => by
                  obtain ⟨a7, c7, e1, e2⟩ := q
                  exact ⟨a7, c7, e1, Lib.hid e2⟩)
                have HPU : Hid (∀ {w5 w6 : World} {a : Option Addr} {c : Nat} {X' : Value}, WkAt own p E B wb nb bb L (num'.set y (met' + 1)) (low'.set y (met' + 1)) (met' + 1) bv' br' w5 → Rd w5 a (nats (arL L y)) → Fresh wc.heap.size a → Keeps (wkF wb nb bb) wc w5 → (arL L y).length ≤ c →
                    w6.ownsRow B 150 3 X' (r.length + 1 + 1) (rcells ((⟨x, bd, l⟩, .slice a2 l.length c2) :: r) ++ [.int .i64 ((y : Nat) : Int), .int .i64 (d : Int), .slice a (arL L y).length c]) → Keeps (fun k => (Value.slice (some ⟨g, 0, none⟩) (r.length + 1) c0).ownBlock = some k) w5 w6 → (∀ k, X'.ownBlock = some k → (Value.slice (some ⟨g, 0, none⟩) (r.length + 1) c0).ownBlock = some k ∨ w5.heap.size ≤ k) →
                    1 ≤ gk ∧ WInv own p E B wb nb bb L num bv W0 v (gk - 1) X' w6 (num'.set y (met' + 1)) (low'.set y (met' + 1)) (met' + 1) bv' br' ((⟨y, (d : Int), arL L y⟩, .slice a (arL L y).length c) :: (⟨x, bd, l⟩, .slice a2 l.length c2) :: r)) := Lib.hid fun h5 hr hf hk hl ho hk6 hn6 => by
                  have e := HY.out
                  subst e
                  exact HM6.out.push HG.out (by rw [hNy]; exact h0) h5 hr hf hk hl ho hk6 hn6
                have HRO : Hid (∀ {w5 : World}, Keeps (wkF wb nb bb) wc w5 → w5.ownsRow B 150 3 (.slice (some ⟨g, 0, none⟩) (r.length + 1) c0) (r.length + 1) (rcells ((⟨x, bd, l⟩, .slice a2 l.length c2) :: r)) ∧ B ≤ w5.heap.size) := Lib.hid fun hk => ⟨(HM6.out.road hk).own, by have := HM6.out.hB; have := HM6.out.kp.size; have := hk.size; omega⟩
                obtain ⟨i0, hi, hz0, hz1, hz2⟩ := info_parts infoP
                have hlen2 : r.length + 1 + 1 ≤ 1048577 := by omega
                subst h0
                clear hml hNy HM6 HNE HDS HY hyl hxl
                generalize rcells _ = rc at *
                generalize (arL L y).length = ny at *
                go_wp2_with (first
                  | (go_at_call 90; with_reducible refine HMT.out.mono ?_; rintro e w7 ⟨a7, c7, rfl, H7⟩; have hown := (HRO.out H7.out.2.2.2.1).1; clear HMT e0 e1 e2 e3 e4 qn)
                  | (at_builtin; refine wpList_app1 rfl _ _ 152 rfl B 150 i0 (.agg #[.int .i64 0, .int .i64 0, .slice none 0 0]) 3 40 Tryd.underlying152 hi hz0 hz1 hz2 rfl (by decide) _ _ _ rfl hown _ 1 1 [.int .i64 (y : Int), .int .i64 (d : Int), .slice a7 ny c7] 150 rfl rfl rfl ?c1 ?c2 ?c3 ?c4 ?_))
                case c1 => simp [Value.oneCell']
                case c2 => exact Nat.le_trans hlen2 (by decide)
                case c3 => exact Nat.le_trans (Nat.mul_le_mul_right 40 hlen2) (by decide)
                case c4 => exact (HRO.out H7.out.2.2.2.1).2
                intro v8 w8 ho hk8 hb8 _ _
                obtain ⟨g8, c8, rfl, _⟩ := ho.form (Nat.succ_pos _)
                have HN := Lib.hid (HPU.out H7.out.1 H7.out.2.1 H7.out.2.2.1 H7.out.2.2.2.1 H7.out.2.2.2.2 ho hk8 fun k e => (hb8 k e).imp id fun q => Nat.le_of_lt q)
                have hk1 := HN.out.1
                clear ho hk8 hb8 HPU HRO H7 hown
                go_wp2_with fail
                go_roundg (gk - 1)
                case measure => omega
                case rel => exact ⟨r.length + 1 + 1, _, c8, rfl, Lib.hid ⟨_, _, _, _, _, _, HN.out.2, rfl⟩⟩
              · have hg0 : (0 : Int) < (Ny : Int) := Int.natCast_pos.2 (Nat.pos_of_ne_zero h0)
                have HN := HM6.out.eat HG.out (by rw [HY.out, hNy]; exact h0) HNE.out
                rw [HY.out, hNy] at HN
                obtain ⟨g', c1', e, _, _, _, d0, _, _, _⟩ := HM6.out.rd.top
                simp only [Value.slice.injEq, true_and, Option.some.injEq, Addr.mk.injEq, and_true] at e
                obtain ⟨rfl, rfl⟩ := e
                have ql := HM6.out.wk.lw.cell x
                rw [List.getElem?_toArray, nats_get (by rw [HM6.out.gs.ll]; exact hxl)] at ql
                have fl := HM6.out.wk.lw.free x
                have hxI : (x : Int) < (L.length : Int) := Int.ofNat_lt.2 hxl
                have hk1 := HN.1
                generalize low'.getD x 0 = Lx at *
                rw [show ((min Lx Ny : Nat) : Int) = min (Lx : Int) (Ny : Int) from kmin _ _] at HN
                have HN := Lib.hid HN.2
                clear HM6 HNE HDS HY hNy h0 hyl hxl
                go_upto_region 12 with fail
                go_region
                all_goals
                  go_wp2_with fail
                  go_roundg (gk - 1)
                  case measure => omega
                  case rel => exact ⟨r.length + 1, _, c0, rfl, Lib.hid ⟨_, _, _, _, _, _, HN.out.keep (Keeps.refl _ _).drew, rfl⟩⟩
end
end Go.Proofs.YtdplphhlclhmfaaDoor
