/- Chapter 11's laws: FaceWalks. -/
import Derived.Test.YtjmkejkhpdhhbaaDoorFlM
import Derived.Test.YtjmkejkhpdhhbaaDoorFlS
import Derived.Test.YtjmkejkhpdhhbaaDoorRwC
import Derived.Test.YtjmkejkhpdhhbaaDoorLwN
namespace Go.Proofs.YtjmkejkhpdhhbaaDoor
open Go Go.RowKit
set_option linter.unusedVariables false
set_option linter.unusedSimpArgs false
set_option maxRecDepth 100000

theorem fndV_s {L : List (List Nat)} {d : Nat} (h : Stands L d) : fndV L d = (vtx L d : Int) := by unfold fndV; rw [Int.toNat_natCast, if_pos ⟨by omega, h⟩]
theorem fndV_n {L : List (List Nat)} {d : Nat} (h : ¬ Stands L d) : fndV L d = -1 := by unfold fndV; rw [Int.toNat_natCast, if_neg fun q => h q.2]
section
variable (w : World)
theorem norigin (v : Int) : Calls Tryd.prog 30 #[.pointer none, .int .i64 v] w (RetPost (.tuple #[.int .i64 0, errno 1]) w) := by
  have hd := Lib.hid (ndart w v)
  unfold RetPost dval errno at *
  go_enter Tryd.func30, Tryd.ntmps30
  go_wp2_with fail
  refine (hd.out).mono ?_
  rintro e w1 ⟨rfl, hk⟩
  go_wp2_with fail
  go_ret2
  exact ⟨rfl, hk.alloc _⟩
theorem fnextN (d : Int) : Calls Tryd.prog 40 #[.pointer none, .int .i64 d] w (RetPost (.tuple #[.int .i64 0, errno 1]) w) := by
  have hd := Lib.hid (norigin w d)
  unfold RetPost errno at *
  go_enter Tryd.func40, Tryd.ntmps40
  go_wp2_with fail
  with_reducible refine hd.out.mono ?_
  rintro e w1 ⟨rfl, hk⟩
  have HK := Lib.hid hk
  clear hk
  go_wp2_with fail
  go_ret2
  exact ⟨rfl, HK.out⟩
theorem fallN : Calls Tryd.prog 42 #[.pointer none] w (RetPost (.slice none 0 0) w) := by
  have hd := Lib.hid (nsizes w)
  obtain ⟨ib, hib, hb0, hb1, hb2⟩ := info_parts infoBo
  have hmkB : ∀ W, (Instr.makeSlice 77 (.int .i64 0) (.int .i64 0)).run Tryd.prog W = .ok (.slice (some ⟨W.heap.size, 0, none⟩) 0 0) (W.alloc (.cells (seenV 0 []).toArray 4)) := fun W => by
    have := run_make (P := Tryd.prog) W 77 4 ib _ Tryd.underlying77 hib hb0 .i64 .i64 0 0 (by omega) (Int.le_refl _) (by rw [hb2]; omega) (by omega)
    rw [this, hb1, show (0 : Int).toNat = 2 * 0 by rfl, Nat.mul_one, show (Value.bool false).cells = #[.bool false] from rfl, zeros_B]
  clear hib hb0 hb1 hb2
  unfold RetPost at *
  go_enter Tryd.func42, Tryd.ntmps42
  go_wp2_with fail
  with_reducible refine hd.out.mono ?_
  rintro e w1 ⟨rfl, hk⟩
  have HK : Hid (Keeps (fun _ => False) w (w1.alloc (.cells (seenV 0 []).toArray 4))) := hk.alloc _
  clear hk
  go_upto_region 3 with fail
  clear hmkB
  generalize w1.alloc _ = w2 at *
  go_wp2_with fail
  go_loopw [6, 22] (fun o i wr => o = .slice none 0 0 ∧ i = .int .i64 0 ∧ wr = w2) (fun _ i _ => 0)
  case atStart => exact ⟨rfl, rfl, rfl⟩
  case round =>
    obtain ⟨rfl, rfl, rfl⟩ := hrel
    go_wp2_with fail
    go_ret
    exact ⟨rfl, HK.out⟩
end
set_option maxHeartbeats 8000000 in
theorem faceWalks_walk (n : Int) (a : Option Addr) (c : Nat) (ls : List Act10) (d : Int) (w : World) (hE : ErrT w) (hz : Rd w a (actsV ls)) (hzl : ls.length ≤ 9223372036854775807) :
    Calls Tryd.prog 9 #[.int .i64 n, .slice a ls.length c, .int .i64 d] w (TruePost w) := by
  have HM := Lib.hid (made11 n a c ls w hE hz hzl)
  have HE0 := Lib.hid hE
  clear hE hz
  have HSU := Lib.hid (fun W => sure11 W)
  have HNN := Lib.hid (fun W => fnextN W d)
  have HAN := Lib.hid (fun W => fallN W)
  unfold TruePost at HSU
  unfold MadePost tptr rval at HM
  unfold RetPost at HNN HAN
  unfold errno at HNN
  unfold TruePost
  go_enter Tryd.func9, Tryd.ntmps9
  go_wp2_with fail
  with_reducible refine HM.out.mono ?_
  rintro e w1 ⟨L, p, own, B, va, vc, rfl, hl1, hl6, hb⟩
  have hbx : BothAt w own p 8 B L (.slice va L.length vc) (w1.alloc (.cells #[.int .i64 8, .slice va L.length vc] 32)) := hb.keep ((Keeps.refl _ _).alloc _)
  have HB := Lib.hid hbx
  have HX : Hid (Blk (w1.alloc (.cells #[.int .i64 8, .slice va L.length vc] 32)) w1.heap.size #[.int .i64 8, .slice va L.length vc] 32) := Lib.hid (Blk.new _ _ _)
  clear hb hbx HM
  go_upto_region 2 with fail
  generalize w1.alloc _ = w2 at *
  generalize w1.heap.size = bx at *
  have h8 : ((8 : Nat) : Int) = 8 := rfl
  have HG := Lib.hid HB.out.good
  have HER := Lib.hid (fun W (hk : Keeps (fun _ => False) w2 W) => HE0.out.keep (HB.out.kp.trans' hk))
  have HKB := Lib.hid HB.out.kp
  have HFD := Lib.hid (fun W (hk : Keeps (fun _ => False) w2 W) => rfind (HB.out.ls.keep hk) HB.out.good.toWF hl1 (by omega) (by decide) d)
  have HRN := Lib.hid (fun W (hk : Keeps (fun _ => False) w2 W) (m : Nat) (hs : Stands L m) => rfnext (HB.out.ls.keep hk) HB.out.good (by omega) (by decide) hs)
  have HRW := Lib.hid (fun W (hk : Keeps (fun _ => False) w2 W) (m : Nat) (hs : Stands L m) => rwalk (HB.out.ls.keep hk) HB.out.good (by omega) (by decide) hs)
  have HRA := Lib.hid (fun W (hk : Keeps (fun _ => False) w2 W) => rall (HB.out.ls.keep hk) HB.out.good hl1 (by omega) (by decide))
  have HTN := Lib.hid (fun W (hk : Keeps (fun _ => False) w2 W) => fnext (HB.out.tu.keep hk) HB.out.good d)
  have HTA := Lib.hid (fun W (hk : Keeps (fun _ => False) w2 W) => fall (HB.out.tu.keep hk) HB.out.good)
  have HTWE := Lib.hid (fun W (hk : Keeps (fun _ => False) w2 W) (h0 : dErr 8 L d ≠ 0) => fwalk_err (HB.out.tu.keep hk) HB.out.good d h0)
  have HTW := Lib.hid (fun W (hk : Keeps (fun _ => False) w2 W) (m : Nat) (hs : Stands L m) => fwalk (HB.out.tu.keep hk) HB.out.good hs)
  have HNM := Lib.hid (fun k W (hk : Keeps (fun _ => False) w2 W) => num11_val k W (HER.out W hk))
  have HNM1 := Lib.hid (fun W (hk : Keeps (fun _ => False) w2 W) => num11_val 1 W (HER.out W hk))
  rw [errVal_pos (by decide)] at HNM1
  have hF1 : (faces L 8).length ≤ 4000000 := Nat.le_trans (facesN_le _) (by decide)
  have HF2 : Hid (∀ l ∈ faces L 8, l.length ≤ 4000000) := Lib.hid fun l hl => by
    unfold faces facesN at hl
    obtain ⟨m, hm, rfl⟩ := List.mem_map.1 hl
    have hs := (least_iff.1 (List.mem_filter.1 hm).2).1
    rw [orb_length]
    exact Nat.le_trans (per_le HG.out hs).1 (by decide)
  clear HB
  unfold tptr rval RetPost AllPost DsPost LPost NumPost at *
  have c1 : ((1 : Nat) : Int) = 1 := rfl
  have c12 : ((12 : Nat) : Int) = 12 := rfl
  have c13 : ((13 : Nat) : Int) = 13 := rfl
  simp only [h8] at HFD HRN HRW HRA
  simp only [c1] at HNM1
  generalize faces L 8 = F at *
  have HLS : Hid (∀ (W : World) (q7 q8 : Option Addr) (r7 r8 : Nat), NRows W (.slice q7 F.length r7) F → NRows W (.slice q8 F.length r8) F → Calls Tryd.prog 43 #[.slice q7 F.length r7, .slice q8 F.length r8] W fun e w' => e = .returned (.bool true) ∧ Keeps (fun _ => False) W w') := Lib.hid fun W q7 q8 r7 r8 h7 h8 => lists11_eq q7 q8 r7 r8 F.length F rfl hF1 HF2.out W h7 h8
  by_cases h0 : dErr 8 L d = 0
  · obtain ⟨m, rfl, hs⟩ := dErr_zero h0
    have hm16 : m < 16 := HG.out.toWF.bdS hs
    have HTW1 := Lib.hid (fun W hk => HTW.out W hk m hs)
    have HRW1 := Lib.hid (fun W hk => HRW.out W hk m hs)
    have HRN1 := Lib.hid (fun W hk => HRN.out W hk m hs)
    have hol : (orb L 8 m).length ≤ 16 := by rw [orb_length]; exact (per_le HG.out hs).1
    rw [h0, if_pos rfl, Int.toNat_natCast, errVal_zero] at HTN
    rw [errVal_zero] at HTW1
    rw [fndV_s hs] at HFD
    have hd0 : decide ((m : Int) < 0) = false := by simp
    have hd1 : decide ((16 : Int) ≤ (m : Int)) = false := by simp; omega
    have hv0 : decide (((vtx L m : Nat) : Int) < 0) = false := by simp
    clear hs h0 HTWE HTW HRW HRN
    generalize orb L 8 m = R at *
    generalize fnx L m = y at *
    generalize vtx L m = vm at *
    generalize fndI L (m : Int) = fi at *
    have hyy : (((y : Nat) : Int) == ((y : Nat) : Int)) = true := by simp
    go_wp2_with fail
    with_reducible refine (HTW1.out _ (Keeps.refl _ _)).mono ?_
    rintro e w3 ⟨v3, rfl, hro, hk⟩
    obtain ⟨a3, c3, rfl, hrd, _⟩ := Rd.of_own hro
    have H3 := Lib.hid hk
    have HR3 := Lib.hid hrd
    clear hro hrd hk HTW1
    go_wp2_with fail
    with_reducible refine (HTN.out _ H3.out).mono ?_
    rintro e w4 ⟨rfl, hk⟩
    have H4 := Lib.hid (H3.out.trans' hk)
    have HR4 := Lib.hid (HR3.out.keep hk)
    clear hk H3 HR3 HTN
    go_wp2_with fail
    with_reducible refine (HNN.out _).mono ?_
    rintro e w4b ⟨rfl, hk⟩
    have H4b := Lib.hid (H4.out.trans' hk)
    have HR4b := Lib.hid (HR4.out.keep hk)
    clear hk H4 HR4 HNN
    go_upto_region 7 with fail
    obtain ⟨x0, x1, _, _, _⟩ := (HX.out.kept H4b.out id).cells
    have hK : Keeps (fun _ => False) w2 w4b.drew := H4b.out.drew
    go_region_held3 (fun w' => w'.cell? ⟨bx, 0, none⟩ = some (.int .i64 8) ∧ w'.cell? ⟨bx, 1, none⟩ = some (.slice va L.length vc))
      (first | (obtain ⟨x0, x1, _, _, _⟩ := (HX.out.kept hK id).cells; exact ⟨x0, x1⟩) | fail)
      (first
        | (go_at_call 41; with_reducible refine (HNM1.out _ hK).mono ?_; rintro e5 w5 ⟨rfl, hk5⟩; have hK : Keeps (fun _ => False) w2 w5 := hK.trans' hk5)
        | (go_at_call 42; with_reducible refine (HAN.out _).mono ?_; rintro e6 w6 ⟨rfl, hk6⟩; have hK : Keeps (fun _ => False) w2 w6 := hK.trans' hk6)
        | (go_at_call 42; with_reducible refine (HTA.out _ hK).mono ?_; rintro e7 w7 ⟨v7, rfl, hr7, hk7⟩; have hn7 := hr7.rows; obtain ⟨a7, c7, rfl⟩ := hn7.form; have hK : Keeps (fun _ => False) w2 w7 := hK.trans' hk7)
        | (go_at_call 44; with_reducible refine (HRA.out _ hK).mono ?_; rintro e8 w8 ⟨v8, rfl, hr8, hk8⟩; have hn8 := hr8.rows; obtain ⟨a8, c8, rfl⟩ := hn8.form; have hn7 := hn7.keep hk8; have hK : Keeps (fun _ => False) w2 w8 := hK.trans' hk8)
        | (go_at_call 43; with_reducible refine (HLS.out _ a7 a8 c7 c8 hn7 hn8).mono ?_; rintro e9 w9 ⟨rfl, hk9⟩; have hK : Keeps (fun _ => False) w2 w9 := hK.trans' hk9)
        | fail)
    all_goals
      have H9 := Lib.hid hK
      have HR9 : Hid (Rd w9 a3 (nats R)) := Lib.hid (HR4b.out.keep ((Keeps.refl _ _).drew.trans' (((((hk5.trans' hk6).trans' hk7).trans' hk8).trans' hk9))))
      clear hK x0 x1 hk5 hk6 hk7 hk8 hk9 hr7 hr8 hn7 hn8
      obtain ⟨x0, x1, _, _, _⟩ := (HX.out.kept H9.out id).cells
      go_wp2_with fail
      with_reducible refine (HFD.out _ H9.out).mono ?_
      rintro e w10 ⟨rfl, hk⟩
      have H10 := Lib.hid (H9.out.trans' hk)
      have HR10 := Lib.hid (HR9.out.keep hk)
      clear hk x0 x1 H9 HR9
      obtain ⟨x0, x1, _, _, _⟩ := (HX.out.kept H10.out id).cells
      go_wp2_with fail
      with_reducible refine (HRW1.out _ H10.out).mono ?_
      rintro e w11 ⟨v11, rfl, hro, hk⟩
      obtain ⟨a11, c11, rfl, hrd, _⟩ := Rd.of_own hro
      have H11 := Lib.hid (H10.out.trans' hk)
      have HIN := Lib.hid (ints11_eq a3 a11 c3 c11 R.length R rfl (by omega) w11 (HR10.out.keep hk) hrd)
      unfold TruePost at HIN
      clear hk hro hrd HR10 H10 x0 x1
      go_wp2_with fail
      with_reducible refine HIN.out.mono ?_
      rintro e w12 ⟨rfl, hk⟩
      have H12 := Lib.hid (H11.out.trans' hk)
      clear hk H11
      obtain ⟨x0, x1, _, _, _⟩ := (HX.out.kept H12.out id).cells
      go_wp2_with fail
      with_reducible refine (HRN1.out _ H12.out).mono ?_
      rintro e w13 ⟨rfl, hk⟩
      have H13 := Lib.hid (HKB.out.trans' (H12.out.trans' hk))
      clear hk H12 x0 x1
      go_wp2_with fail
      with_reducible refine (HSU.out _).mono ?_
      rintro e w14 ⟨rfl, hk⟩
      have HF := Lib.hid (H13.out.trans' hk)
      clear hk
      go_wp2_with fail
      go_ret
      exact ⟨rfl, HF.out⟩
  · have HTW1 := Lib.hid (fun W hk => HTWE.out W hk h0)
    have hcase : (dErr 8 L d = 12 ∧ (d < 0 ∨ 16 ≤ d)) ∨ (dErr 8 L d = 13 ∧ ¬ (d < 0 ∨ 16 ≤ d) ∧ fndV L d = -1) := by
      by_cases hr : d < 0 ∨ (2 * (8 : Nat) : Int) ≤ d
      · exact Or.inl ⟨by unfold dErr; rw [if_pos hr], by omega⟩
      · obtain ⟨m, rfl⟩ := Int.eq_ofNat_of_zero_le (show 0 ≤ d by omega)
        have hs : ¬ Stands L m := fun q => h0 (dErr_stands HG.out.toWF q)
        exact Or.inr ⟨dErr_none (by omega) hs, by omega, fndV_n hs⟩
    rw [if_neg h0] at HTN
    clear HTW HRW HRN HTWE
    rcases hcase with ⟨hc, hr⟩ | ⟨hc, hr, hf⟩
    · rw [hc] at HTN HTW1
      have HN12 := Lib.hid (HNM.out 12)
      rw [errVal_pos (by decide)] at HTN HTW1 HN12
      clear hc h0
      simp only [c12] at HTN HTW1 HN12
      go_wp2_with fail
      with_reducible refine (HTW1.out _ (Keeps.refl _ _)).mono ?_
      rintro e w3 ⟨rfl, hk⟩
      have H3 := Lib.hid hk
      clear hk HTW1
      go_wp2_with fail
      with_reducible refine (HTN.out _ H3.out).mono ?_
      rintro e w4 ⟨rfl, hk⟩
      have H4 := Lib.hid (H3.out.trans' hk)
      clear hk H3 HTN
      go_wp2_with fail
      with_reducible refine (HNN.out _).mono ?_
      rintro e w4b ⟨rfl, hk⟩
      have H4b := Lib.hid (H4.out.trans' hk)
      clear hk H4 HNN
      go_upto_region 7 with fail
      obtain ⟨x0, x1, _, _, _⟩ := (HX.out.kept H4b.out id).cells
      have hK : Keeps (fun _ => False) w2 w4b.drew := H4b.out.drew
      go_region_held3 (fun w' => w'.cell? ⟨bx, 0, none⟩ = some (.int .i64 8) ∧ w'.cell? ⟨bx, 1, none⟩ = some (.slice va L.length vc))
        (first | (obtain ⟨x0, x1, _, _, _⟩ := (HX.out.kept hK id).cells; exact ⟨x0, x1⟩) | fail)
        (first
          | (go_at_call 41; with_reducible refine (HNM1.out _ hK).mono ?_; rintro e5 w5 ⟨rfl, hk5⟩; have hK : Keeps (fun _ => False) w2 w5 := hK.trans' hk5)
          | (go_at_call 42; with_reducible refine (HAN.out _).mono ?_; rintro e6 w6 ⟨rfl, hk6⟩; have hK : Keeps (fun _ => False) w2 w6 := hK.trans' hk6)
          | (go_at_call 42; with_reducible refine (HTA.out _ hK).mono ?_; rintro e7 w7 ⟨v7, rfl, hr7, hk7⟩; have hn7 := hr7.rows; obtain ⟨a7, c7, rfl⟩ := hn7.form; have hK : Keeps (fun _ => False) w2 w7 := hK.trans' hk7)
          | (go_at_call 44; with_reducible refine (HRA.out _ hK).mono ?_; rintro e8 w8 ⟨v8, rfl, hr8, hk8⟩; have hn8 := hr8.rows; obtain ⟨a8, c8, rfl⟩ := hn8.form; have hn7 := hn7.keep hk8; have hK : Keeps (fun _ => False) w2 w8 := hK.trans' hk8)
          | (go_at_call 43; with_reducible refine (HLS.out _ a7 a8 c7 c8 hn7 hn8).mono ?_; rintro e9 w9 ⟨rfl, hk9⟩; have hK : Keeps (fun _ => False) w2 w9 := hK.trans' hk9)
          | fail)
      all_goals
        have H9 := Lib.hid hK
        clear hK x0 x1 hk5 hk6 hk7 hk8 hk9 hr7 hr8 hn7 hn8
        rcases (show d < 0 ∨ ¬ d < 0 ∧ 16 ≤ d by omega) with q | ⟨q1, q2⟩
        all_goals
          go_wp2_with fail
          with_reducible refine (HN12.out _ H9.out).mono ?_
          rintro e w10 ⟨rfl, hk⟩
          have H10 := Lib.hid (H9.out.trans' hk)
          clear hk
          go_wp2_with fail
          with_reducible refine (HN12.out _ H10.out).mono ?_
          rintro e w11 ⟨rfl, hk⟩
          have H11 := Lib.hid (HKB.out.trans' (H10.out.trans' hk))
          clear hk
          go_wp2_with fail
          with_reducible refine (HSU.out _).mono ?_
          rintro e w14 ⟨rfl, hk⟩
          have HF := Lib.hid (H11.out.trans' hk)
          clear hk
          go_wp2_with fail
          go_ret
          exact ⟨rfl, HF.out⟩
    · rw [hc] at HTN HTW1
      rw [hf] at HFD
      have HN13 := Lib.hid (HNM.out 13)
      rw [errVal_pos (by decide)] at HTN HTW1 HN13
      have hd0 : decide (d < 0) = false := by simp; omega
      have hd1 : decide ((16 : Int) ≤ d) = false := by simp; omega
      clear hc h0 hr hf
      simp only [c13] at HTN HTW1 HN13
      generalize fndI L d = fi at *
      go_wp2_with fail
      with_reducible refine (HTW1.out _ (Keeps.refl _ _)).mono ?_
      rintro e w3 ⟨rfl, hk⟩
      have H3 := Lib.hid hk
      clear hk HTW1
      go_wp2_with fail
      with_reducible refine (HTN.out _ H3.out).mono ?_
      rintro e w4 ⟨rfl, hk⟩
      have H4 := Lib.hid (H3.out.trans' hk)
      clear hk H3 HTN
      go_wp2_with fail
      with_reducible refine (HNN.out _).mono ?_
      rintro e w4b ⟨rfl, hk⟩
      have H4b := Lib.hid (H4.out.trans' hk)
      clear hk H4 HNN
      go_upto_region 7 with fail
      obtain ⟨x0, x1, _, _, _⟩ := (HX.out.kept H4b.out id).cells
      have hK : Keeps (fun _ => False) w2 w4b.drew := H4b.out.drew
      go_region_held3 (fun w' => w'.cell? ⟨bx, 0, none⟩ = some (.int .i64 8) ∧ w'.cell? ⟨bx, 1, none⟩ = some (.slice va L.length vc))
        (first | (obtain ⟨x0, x1, _, _, _⟩ := (HX.out.kept hK id).cells; exact ⟨x0, x1⟩) | fail)
        (first
          | (go_at_call 41; with_reducible refine (HNM1.out _ hK).mono ?_; rintro e5 w5 ⟨rfl, hk5⟩; have hK : Keeps (fun _ => False) w2 w5 := hK.trans' hk5)
          | (go_at_call 42; with_reducible refine (HAN.out _).mono ?_; rintro e6 w6 ⟨rfl, hk6⟩; have hK : Keeps (fun _ => False) w2 w6 := hK.trans' hk6)
          | (go_at_call 42; with_reducible refine (HTA.out _ hK).mono ?_; rintro e7 w7 ⟨v7, rfl, hr7, hk7⟩; have hn7 := hr7.rows; obtain ⟨a7, c7, rfl⟩ := hn7.form; have hK : Keeps (fun _ => False) w2 w7 := hK.trans' hk7)
          | (go_at_call 44; with_reducible refine (HRA.out _ hK).mono ?_; rintro e8 w8 ⟨v8, rfl, hr8, hk8⟩; have hn8 := hr8.rows; obtain ⟨a8, c8, rfl⟩ := hn8.form; have hn7 := hn7.keep hk8; have hK : Keeps (fun _ => False) w2 w8 := hK.trans' hk8)
          | (go_at_call 43; with_reducible refine (HLS.out _ a7 a8 c7 c8 hn7 hn8).mono ?_; rintro e9 w9 ⟨rfl, hk9⟩; have hK : Keeps (fun _ => False) w2 w9 := hK.trans' hk9)
          | fail)
      all_goals
        have H9 := Lib.hid hK
        clear hK x0 x1 hk5 hk6 hk7 hk8 hk9 hr7 hr8 hn7 hn8
        obtain ⟨x0, x1, _, _, _⟩ := (HX.out.kept H9.out id).cells
        go_wp2_with fail
        with_reducible refine (HFD.out _ H9.out).mono ?_
        rintro e w9b ⟨rfl, hk⟩
        have H9b := Lib.hid (H9.out.trans' hk)
        clear hk x0 x1 H9
        go_wp2_with fail
        with_reducible refine (HN13.out _ H9b.out).mono ?_
        rintro e w10 ⟨rfl, hk⟩
        have H10 := Lib.hid (H9b.out.trans' hk)
        clear hk
        go_wp2_with fail
        with_reducible refine (HN13.out _ H10.out).mono ?_
        rintro e w11 ⟨rfl, hk⟩
        have H11 := Lib.hid (HKB.out.trans' (H10.out.trans' hk))
        clear hk
        go_wp2_with fail
        with_reducible refine (HSU.out _).mono ?_
        rintro e w14 ⟨rfl, hk⟩
        have HF := Lib.hid (H11.out.trans' hk)
        clear hk
        go_wp2_with fail
        go_ret
        exact ⟨rfl, HF.out⟩
theorem faceWalks_enter (W : World) (hE : ErrT W) (n : Int) (_ : (Lit.int .i64 n).wf = true) (a : Option Addr) (c : Nat) (ls : List Act10) (hr : Rd W a (ls.flatMap actCells)) (hl : ls.length ≤ 9223372036854775807) (d : Int) (_ : (Lit.int .i64 d).wf = true) :
    Calls Tryd.prog 9 #[.int .i64 n, .slice a ls.length c, .int .i64 d] W (TruePost W) := faceWalks_walk n a c ls d W hE hr hl
end Go.Proofs.YtjmkejkhpdhhbaaDoor
