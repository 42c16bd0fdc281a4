/- Chapter 12's laws: SphereCounts. -/
import Derived.Test.YtdplphhlclhmfaaDoorSpX
import Derived.Deep.RegionHeld3
namespace Go.Proofs.YtdplphhlclhmfaaDoor
open Go Go.RowKit
set_option linter.unusedVariables false
set_option linter.unusedSimpArgs false
set_option maxRecDepth 100000

set_option maxHeartbeats 8000000 in
theorem sphereCounts_walk (n : Int) (a : Option Addr) (c : Nat) (ls : List Act10) (za : Option Addr) (zc : Nat) (zs : List Int) (w : World) (hE : ErrT w) (hz : Rd w a (actsV ls)) (hzl : ls.length ≤ 9223372036854775807) (hv : Rd w za (i64s zs)) (hvl : zs.length ≤ 9223372036854775807) :
    Calls Tryd.prog 3 #[.int .i64 n, .slice a ls.length c, .slice za zs.length zc] w (TruePost w) := by
  obtain ⟨i0, hi, hz0, hz1, hz2⟩ := info_parts infoI
  have HM := Lib.hid (made12 n a c ls w hE hz hzl)
  have HE0 := Lib.hid hE
  have HV0 := Lib.hid hv
  clear hE hz hv
  have HSU := Lib.hid (fun W => sure12 W)
  unfold TruePost at HSU
  unfold MadePost tptr rval at HM
  unfold TruePost
  go_enter Tryd.func3, Tryd.ntmps3
  go_wp2_with fail
  with_reducible refine HM.out.mono ?_
  rintro e w1 ⟨L, p, own, B, va, vc, rfl, hl1, hl6, hb⟩
  have hbx : BothAt w own p 8 B L (.slice va L.length vc) (w1.alloc (.cells #[.int .i64 8, .slice va L.length vc] 27)) := hb.keep ((Keeps.refl _ _).alloc _)
  have HB := Lib.hid hbx
  have HX : Hid (Blk (w1.alloc (.cells #[.int .i64 8, .slice va L.length vc] 27)) w1.heap.size #[.int .i64 8, .slice va L.length vc] 27) := Lib.hid (Blk.new _ _ _)
  clear hb hbx HM
  go_upto_region 2 with fail
  generalize w1.alloc _ = w2 at *
  generalize w1.heap.size = bx at *
  by_cases h50 : 50 < zs.length
  · have h50I : (50 : Int) < (zs.length : Int) := by omega
    have HK := Lib.hid HB.out.kp
    clear HB HX HE0 HV0
    go_wp2_with fail
    with_reducible refine (HSU.out _).mono ?_
    rintro e w8 ⟨rfl, hk⟩
    have HF := Lib.hid (HK.out.trans' hk)
    clear hk
    go_wp2_with fail
    go_ret
    exact ⟨rfl, HF.out⟩
  · have h50I : ¬ (50 : Int) < (zs.length : Int) := by omega
    have h8 : ((8 : Nat) : Int) = 8 := rfl
    have HV := Lib.hid (fun W (hk : Keeps (fun _ => False) w2 W) => (HV0.out.keep HB.out.kp).keep hk)
    have HG := Lib.hid HB.out.good
    have HNM := Lib.hid (fun k W (hk : Keeps (fun _ => False) w2 W) => num12_val k W (HE0.out.keep (HB.out.kp.trans' hk)))
    have HKB := Lib.hid HB.out.kp
    have HCE := Lib.hid (fun W (hk : Keeps (fun _ => False) w2 W) a c l hr hl hc => scount_err (HB.out.tu.keep hk) a c l hr hl hc)
    have HFE := Lib.hid (fun W (hk : Keeps (fun _ => False) w2 W) a c l hr hl hc => sflat_err (HB.out.tu.keep hk) a c l hr hl hc)
    have HCI := Lib.hid (fun W (hk : Keeps (fun _ => False) w2 W) a c m hr hl hm => scount_is (HB.out.tu.keep hk) HB.out.good a c m hr hl hm)
    have HFI := Lib.hid (fun W (hk : Keeps (fun _ => False) w2 W) a c m hr hl hm => sflat_is (HB.out.tu.keep hk) HB.out.good a c m hr hl hm)
    have HRC := Lib.hid (fun W (hk : Keeps (fun _ => False) w2 W) a c l hr hl => rcheck12 (E := 8) (HB.out.ls.keep hk) hl1 (by omega) a c l hr hl)
    have HRN := Lib.hid (fun W (hk : Keeps (fun _ => False) w2 W) a c (m : List Nat) hr hl hm => rcount12 (HB.out.ls.keep hk) HB.out.good hl1 (by omega) (by decide) a c m hr hl hm (-1))
    have HRF := Lib.hid (fun W (hk : Keeps (fun _ => False) w2 W) a c (m : List Nat) hr hl hm => rflat12 (HB.out.ls.keep hk) HB.out.good hl1 (by omega) (by decide) a c m hr hl hm)
    clear HB HE0 HV0
    have HNIL := Lib.hid (fun W => scount_nil (w := W) za zs.length zc)
    rw [errVal_pos (by decide)] at HNIL
    unfold RetPost qagg at HNIL
    unfold NumPost at HNM
    have HN1 := Lib.hid (HNM.out 1)
    rw [errVal_pos (by decide)] at HN1
    have h1 : ((1 : Nat) : Int) = 1 := rfl
    rw [h1] at HN1 HNIL
    go_wp2_with fail
    with_reducible refine (HNIL.out _).mono ?_
    rintro e w3 ⟨rfl, hk⟩
    have HK3 := Lib.hid (hk.alloc (.cells #[.int .i64 0, .int .i64 0, .int .i64 0, .int .i64 0] 32))
    clear hk HNIL
    go_upto_region 5 with fail
    generalize World.alloc w3 _ = w4 at *
    generalize w3.heap.size = hb at *
    go_wp2_with fail
    with_reducible refine (HN1.out _ HK3.out).mono ?_
    rintro e w5 ⟨rfl, hk⟩
    have HK5 := Lib.hid (HK3.out.trans' hk)
    clear hk HN1 HK3
    go_wp2_with fail
    go_loopw [12] (fun i wr => ∃ (k : Nat), k ≤ 2 ∧ i = .int .i64 (k : Int) ∧ Hid (Keeps (fun _ => False) w2 wr)) (fun i _ => 2 - (intOf i).toNat)
    case atStart => exact ⟨0, by decide, rfl, HK5⟩
    case round =>
      obtain ⟨k, hk2, rfl, HKR⟩ := hrel
      clear HK5
      obtain ⟨wo, rfl⟩ : ∃ wo, wo = wr := ⟨_, rfl⟩
      by_cases hlt : k < 2
      · have hkI : (k : Int) < 2 := by omega
        obtain ⟨x0, x1, _, _, _⟩ := (HX.out.kept HKR.out id).cells
        obtain ⟨bb, hbb⟩ : ∃ bb, ((k : Int) == 1) = bb := ⟨_, rfl⟩
        go_upto_if 53 with fail
        go_cut [13] (fun s wc => Hid (∃ (lst : List Int) (la : Option Addr) (lc : Nat), s = .slice la lst.length lc ∧ Rd wc la (i64s lst) ∧ lst.length ≤ 50 ∧ Keeps (fun _ => False) wo wc))
        case first =>
          clear hbb
          cases bb with
          | false =>
            go_wp2_with fail
            go_meet
            exact Lib.hid ⟨zs, za, zc, rfl, HV.out _ HKR.out, by omega, Keeps.refl _ _⟩
          | true =>
            go_wp2_with fail
            go_loopw [13, 14] (fun t i wx => ∃ (d : Nat), d ≤ L.length ∧ i = .int .i64 (d : Int) ∧ Hid (wx.ownsRow wo.heap.size 3 1 t d (nats (List.range d)) ∧ Keeps (fun _ => False) wo wx)) (fun _ i _ => L.length - (intOf i).toNat)
            case atStart => exact ⟨0, Nat.zero_le _, rfl, Lib.hid ⟨World.ownsRow_nil _ _ _ _, Keeps.refl _ _⟩⟩
            case round =>
              obtain ⟨d, hd, rfl, HR⟩ := hrel
              obtain ⟨y0, y1, _, _, _⟩ := (HX.out.kept (HKR.out.trans' HR.out.2) id).cells
              by_cases hlt2 : d < L.length
              · have hdI : (d : Int) < (L.length : Int) := by omega
                have hown := HR.out.1
                have hB5 : w.heap.size ≤ w.heap.size := Nat.le_refl _
                have hB6 := HR.out.2.size
                go_wp2_with (first | (at_builtin; refine wpList_app1 rfl _ _ 23 rfl wo.heap.size 3 i0 (.int .i64 0) 1 8 Tryd.underlying23 hi hz0 hz1 hz2 rfl (by decide) _ _ _ rfl hown _ 1 1 [.int .i64 (d : Int)] 3 rfl rfl rfl ?c1 ?c2 ?c3 ?c4 ?_))
                case c1 => simp [Value.oneCell']
                case c2 => unfold maxLen; omega
                case c3 => omega
                case c4 => exact hB6
                intro v7 w7 ho hk7 _ _ _
                have HN : Hid (w7.ownsRow wo.heap.size 3 1 v7 (d + 1) (nats (List.range (d + 1))) ∧ Keeps (fun _ => False) wo w7) := by
                  refine Lib.hid ⟨?_, HR.out.2.thin hk7 fun i e => (HR.out.1.lt i e).1⟩
                  rw [List.range_succ, nats_append]; exact ho
                clear ho hk7 hown
                go_wp2_with fail
                exact ⟨⟨d + 1, by omega, by first | rfl | trivial, HN⟩, by simp [intOf]; omega⟩
              · obtain rfl : d = L.length := by omega
                have HR0 := HR
                go_wp2_with fail
                go_meet
                obtain ⟨la, lc, e, hrd, _⟩ := Rd.of_own HR0.out.1
                subst e
                have hll : (intsN (List.range L.length)).length = L.length := by simp [intsN]
                rw [nats_i64s] at hrd
                exact Lib.hid ⟨intsN (List.range L.length), la, lc, by rw [hll], hrd, by omega, HR0.out.2⟩
        case rest =>
          obtain ⟨lst, la, lc, rfl, hrd, hl50, hkc⟩ := hcut.out
          have K0 := Lib.hid (HKR.out.trans' hkc)
          have HRD := Lib.hid (fun W (hk : Keeps (fun _ => False) wc W) => hrd.keep hk)
          have C0 : Hid (Keeps (fun _ => False) wc wc) := Lib.hid (Keeps.refl _ _)
          clear hcut hrd hkc x0 x1 hbb
          clear bb
          have h0n : ((0 : Nat) : Int) = 0 := rfl
          by_cases hg0 : chk12 L lst = 0
          · as_aux_lemma =>
            have HCK := Lib.hid (fun W hk hr => HRC.out W hk la lc lst hr (by omega))
            rw [hg0, h0n] at HCK
            obtain ⟨m, hlm, hm⟩ := chk12_ok hg0
            have hml : lst.length = m.length := by rw [hlm]; simp [intsN]
            have HRM : Hid (∀ W, Keeps (fun _ => False) wc W → Rd W la (nats m)) := Lib.hid fun W hk => by
              have := HRD.out W hk
              rw [hlm] at this
              rw [nats_i64s]
              exact this
            rw [hml] at hl50 HCK ⊢
            have HA := Lib.hid (fun W hk hr => HCI.out W hk la lc m hr (by omega) hm)
            have HB := Lib.hid (fun W hk hr => HFI.out W hk la lc m hr (by omega) hm)
            have HC := Lib.hid (fun W hk hr => HRN.out W hk la lc m hr (by omega) hm.lt)
            have HD := Lib.hid (fun W hk hr => HRF.out W hk la lc m hr (by omega) hm.lt)
            have HN0 := Lib.hid (HNM.out 0)
            rw [errVal_zero, h0n] at HN0
            clear HCI HFI HRN HRF HCE HFE HRC HNM hg0 hm
            generalize docCnt L (grp L 8) m (faces L 8) (-1) = dc at *
            generalize decide (docFlat L (grp L 8) m (faces L 8)) = fb at *
            obtain ⟨t1, t2, t3, t4⟩ := dc
            unfold c4val RetPost tptr at HA
            unfold RetPost tptr at HB
            unfold RetPost rval at HCK HD
            unfold c4val RetPost rval at HC
            simp only at HA HC
            simp only [show ((8 : Nat) : Int) = 8 from rfl] at HCK HC HD
            have hfb : (fb != fb) = false := by simp
            go_wp2_with fail
            with_reducible refine (HA.out _ K0.out (HRM.out _ C0.out)).mono ?_
            rintro e w3 ⟨rfl, hk⟩
            have hk' := hk.alloc (.cells #[.int .i64 (t1 : Nat), .int .i64 (t2 : Nat), .int .i64 (t3 : Nat), .int .i64 (t4 : Nat)] 32)
            have K1 := Lib.hid (K0.out.trans' hk')
            have C1 := Lib.hid (C0.out.trans' hk')
            have HCB := Lib.hid (Blk.new w3 #[.int .i64 (t1 : Nat), .int .i64 (t2 : Nat), .int .i64 (t3 : Nat), .int .i64 (t4 : Nat)] 32)
            clear hk hk' K0 C0 HA
            go_upto_region 18 with fail
            generalize World.alloc w3 _ = w4 at *
            generalize w3.heap.size = cb at *
            go_wp2_with fail
            with_reducible refine (HB.out _ K1.out (HRM.out _ C1.out)).mono ?_
            rintro e w5 ⟨rfl, hk⟩
            have K2 := Lib.hid (K1.out.trans' hk)
            have C2 := Lib.hid (C1.out.trans' hk)
            have HCB2 := Lib.hid (HCB.out.kept hk id)
            obtain ⟨x0, x1, _, _, _⟩ := (HX.out.kept K2.out id).cells
            clear hk K1 C1 HB HCB
            go_wp2_with fail
            with_reducible refine (HCK.out _ K2.out (HRD.out _ C2.out)).mono ?_
            rintro e w6 ⟨rfl, hk⟩
            have K3 := Lib.hid (K2.out.trans' hk)
            have C3 := Lib.hid (C2.out.trans' hk)
            have HCB3 := Lib.hid (HCB2.out.kept hk id)
            clear hk K2 C2 HCB2 HCK x0 x1
            go_wp2_with fail
            with_reducible refine (HN0.out _ K3.out).mono ?_
            rintro e w7 ⟨rfl, hk⟩
            have K4 := Lib.hid (K3.out.trans' hk)
            have C4 := Lib.hid (C3.out.trans' hk)
            have HCB4 := Lib.hid (HCB3.out.kept hk id)
            clear hk K3 C3 HCB3
            go_wp2_with fail
            with_reducible refine (HN0.out _ K4.out).mono ?_
            rintro e w8 ⟨rfl, hk⟩
            have K5 := Lib.hid (K4.out.trans' hk)
            have C5 := Lib.hid (C4.out.trans' hk)
            have HCB5 := Lib.hid (HCB4.out.kept hk id)
            obtain ⟨x0, x1, _, _, _⟩ := (HX.out.kept K5.out id).cells
            clear hk K4 C4 HCB4 HN0
            go_wp2_with fail
            with_reducible refine (HC.out _ K5.out (HRM.out _ C5.out)).mono ?_
            rintro e w9 ⟨rfl, hk⟩
            have hk' := hk.alloc (.cells #[.int .i64 (t1 : Nat), .int .i64 (t2 : Nat), .int .i64 (t3 : Nat), .int .i64 (t4 : Nat)] 41)
            have K6 := Lib.hid (K5.out.trans' hk')
            have C6 := Lib.hid (C5.out.trans' hk')
            have HCB6 := Lib.hid (HCB5.out.kept hk' id)
            have HDB6 := Lib.hid (Blk.new w9 #[.int .i64 (t1 : Nat), .int .i64 (t2 : Nat), .int .i64 (t3 : Nat), .int .i64 (t4 : Nat)] 41)
            clear hk hk' K5 C5 HCB5 HC x0 x1
            go_upto_region 26 with fail
            generalize World.alloc w9 _ = w10 at *
            generalize w9.heap.size = db at *
            obtain ⟨x0, x1, _, _, _⟩ := (HX.out.kept K6.out id).cells
            obtain ⟨c0, c1, c2, c3⟩ := HCB6.out.cells4
            obtain ⟨d0, d1, d2, d3⟩ := HDB6.out.cells4
            go_wp2_with fail
            with_reducible refine (HD.out _ K6.out (HRM.out _ C6.out)).mono ?_
            rintro e w11 ⟨rfl, hk⟩
            have K7 := Lib.hid (K6.out.trans' hk)
            clear hk K6 C6 HCB6 HDB6 HD x0 x1 c0 c1 c2 c3 d0 d1 d2 d3
            go_wp2_with fail
            exact ⟨⟨k + 1, by omega, by first | rfl | trivial, K7⟩, by simp [intOf]; omega⟩
          · as_aux_lemma =>
            have HA := Lib.hid (fun W hk hr => HCE.out W hk la lc lst hr (by omega) hg0)
            have HB := Lib.hid (fun W hk hr => HFE.out W hk la lc lst hr (by omega) hg0)
            have HCK := Lib.hid (fun W hk hr => HRC.out W hk la lc lst hr (by omega))
            have HN0 := Lib.hid (HNM.out (chk12 L lst))
            rw [errVal_pos hg0] at HA HB HN0
            have hne0 : ((chk12 L lst : Nat) : Int) ≠ 0 := by omega
            clear HCI HFI HRN HRF HCE HFE HRC HNM hg0
            generalize chk12 L lst = q at *
            have hqq : ((((q : Nat) : Int) != ((q : Nat) : Int)) = false) := by simp
            have hq1 : ((((q : Nat) : Int) != 0) = true) := by rw [bne_iff_ne]; exact hne0
            unfold qagg RetPost tptr at HA
            unfold RetPost tptr at HB
            unfold RetPost rval at HCK
            simp only at HA
            simp only [show ((8 : Nat) : Int) = 8 from rfl] at HCK
            go_wp2_with fail
            with_reducible refine (HA.out _ K0.out (HRD.out _ C0.out)).mono ?_
            rintro e w3 ⟨rfl, hk⟩
            have hk' := hk.alloc (.cells #[.int .i64 0, .int .i64 0, .int .i64 0, .int .i64 0] 32)
            have K1 := Lib.hid (K0.out.trans' hk')
            have C1 := Lib.hid (C0.out.trans' hk')
            have HCB := Lib.hid (Blk.new w3 #[.int .i64 0, .int .i64 0, .int .i64 0, .int .i64 0] 32)
            clear hk hk' K0 C0 HA
            go_upto_region 18 with fail
            generalize World.alloc w3 _ = w4 at *
            generalize w3.heap.size = cb at *
            go_wp2_with fail
            with_reducible refine (HB.out _ K1.out (HRD.out _ C1.out)).mono ?_
            rintro e w5 ⟨rfl, hk⟩
            have K2 := Lib.hid (K1.out.trans' hk)
            have C2 := Lib.hid (C1.out.trans' hk)
            have HCB2 := Lib.hid (HCB.out.kept hk id)
            obtain ⟨x0, x1, _, _, _⟩ := (HX.out.kept K2.out id).cells
            clear hk K1 C1 HB HCB
            go_wp2_with fail
            with_reducible refine (HCK.out _ K2.out (HRD.out _ C2.out)).mono ?_
            rintro e w6 ⟨rfl, hk⟩
            have K3 := Lib.hid (K2.out.trans' hk)
            have C3 := Lib.hid (C2.out.trans' hk)
            have HCB3 := Lib.hid (HCB2.out.kept hk id)
            clear hk K2 C2 HCB2 HCK x0 x1
            go_wp2_with fail
            with_reducible refine (HN0.out _ K3.out).mono ?_
            rintro e w7 ⟨rfl, hk⟩
            have K4 := Lib.hid (K3.out.trans' hk)
            have HCB4 := Lib.hid (HCB3.out.kept hk id)
            clear hk K3 C3 HCB3
            go_wp2_with fail
            with_reducible refine (HN0.out _ K4.out).mono ?_
            rintro e w8 ⟨rfl, hk⟩
            have K5 := Lib.hid (K4.out.trans' hk)
            have HCB5 := Lib.hid (HCB4.out.kept hk id)
            obtain ⟨c0, c1, c2, c3⟩ := HCB5.out.cells4
            clear hk K4 HCB4 HN0
            go_wp2_with fail
            exact ⟨⟨k + 1, by omega, by first | rfl | trivial, K5⟩, by simp [intOf]; omega⟩
      · obtain rfl : k = 2 := by omega
        have HK := Lib.hid (HKB.out.trans' HKR.out)
        clear HKR
        go_wp2_with fail
        with_reducible refine (HSU.out _).mono ?_
        rintro e w8 ⟨rfl, hk⟩
        have HF := Lib.hid (HK.out.trans' hk)
        clear hk
        go_wp2_with fail
        go_ret
        exact ⟨rfl, HF.out⟩
theorem sphereCounts_enter (W : World) (hE : ErrT W) (n : Int) (_ : (Lit.int .i64 n).wf = true) (a : Option Addr) (c : Nat) (ls : List Act10) (hr : Rd W a (ls.flatMap actCells)) (hl : ls.length ≤ 9223372036854775807) (za : Option Addr) (zc : Nat) (zs : List Int) (hz : Rd W za (zs.map fun z => Value.int .i64 z)) (hzl : zs.length ≤ 9223372036854775807) (_ : ∀ z ∈ zs, (Lit.int .i64 z).wf = true) :
    Calls Tryd.prog 3 #[.int .i64 n, .slice a ls.length c, .slice za zs.length zc] W (TruePost W) := sphereCounts_walk n a c ls za zc zs W hE hr hl hz hzl
end Go.Proofs.YtdplphhlclhmfaaDoor
