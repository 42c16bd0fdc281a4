/- Chapter 12's laws: SphereLegals. -/
import Derived.Test.YtdplphhlclhmfaaDoorSpF
import Derived.Test.YtdplphhlclhmfaaDoorRgB
namespace Go.Proofs.YtdplphhlclhmfaaDoor
open Go Go.RowKit
set_option linter.unusedVariables false
set_option linter.unusedSimpArgs false
set_option maxRecDepth 100000

set_option maxHeartbeats 8000000 in
theorem sphereLegals_walk (n : Int) (a : Option Addr) (c : Nat) (ls : List Act10) (x : Act10) (w : World) (hE : ErrT w) (hz : Rd w a (actsV ls)) (hzl : ls.length ≤ 9223372036854775807) :
    Calls Tryd.prog 4 #[.int .i64 n, .slice a ls.length c, actVal x] w (TruePost w) := by
  obtain ⟨kind, e0, ⟨a1, a2⟩, ⟨b1, b2⟩⟩ := x
  generalize hW : w.alloc (.cells #[.int .i64 kind, .int .i64 e0, .int .i64 a1, .int .i64 a2, .int .i64 b1, .int .i64 b2] 47) = w0
  have hK0 : Keeps (fun _ => False) w w0 := by rw [← hW]; exact (Keeps.refl _ _).alloc _
  have hBA : Blk w0 w.heap.size #[.int .i64 kind, .int .i64 e0, .int .i64 a1, .int .i64 a2, .int .i64 b1, .int .i64 b2] 47 := by rw [← hW]; exact Blk.new _ _ _
  have HK0 := Lib.hid hK0
  have HBA0 := Lib.hid hBA
  have HM := Lib.hid (made12 n a c ls w0 (hE.keep hK0) (hz.keep hK0) hzl)
  have HE0 := Lib.hid (hE.keep hK0)
  clear hE hz hBA hK0
  have HSU := Lib.hid (fun W => sure12 W)
  unfold TruePost at HSU
  unfold MadePost tptr rval at HM
  unfold TruePost actVal
  go_enter Tryd.func4, Tryd.ntmps4
  go_upto_region 1 with fail
  clear hW
  go_wp2_with fail
  with_reducible refine HM.out.mono ?_
  rintro e w1 ⟨L, p, own, B, va, vc, rfl, hl1, hl6, hb⟩
  have hbx : BothAt w0 own p 8 B L (.slice va L.length vc) (w1.alloc (.cells #[.int .i64 8, .slice va L.length vc] 27)) := hb.keep ((Keeps.refl _ _).alloc _)
  have HB := Lib.hid hbx
  have HX : Hid (Blk (w1.alloc (.cells #[.int .i64 8, .slice va L.length vc] 27)) w1.heap.size #[.int .i64 8, .slice va L.length vc] 27) := Lib.hid (Blk.new _ _ _)
  clear hb hbx HM
  go_upto_region 2 with fail
  generalize w1.alloc _ = w2 at *
  generalize w1.heap.size = bx at *
  have h8 : ((8 : Nat) : Int) = 8 := rfl
  have HG := Lib.hid HB.out.good
  have HER := Lib.hid (fun W (hk : Keeps (fun _ => False) w2 W) => HE0.out.keep (HB.out.kp.trans' hk))
  have HKB := Lib.hid (HK0.out.trans' HB.out.kp)
  have HAC : Hid (Blk w2 w.heap.size #[.int .i64 kind, .int .i64 e0, .int .i64 a1, .int .i64 a2, .int .i64 b1, .int .i64 b2] 47) := Lib.hid (HBA0.out.kept HB.out.kp id)
  have HCO := Lib.hid (fun W (hk : Keeps (fun _ => False) w2 W) (q : Int × Int) (raw : Bool) => corner12 (HB.out.ls.keep hk) HB.out.good.toWF hl1 (by omega) (by decide) q raw)
  have HCK := Lib.hid (fun W (hk : Keeps (fun _ => False) w2 W) (y z : Int) => rcheck (HB.out.ls.keep hk) HB.out.good.toWF hl1 (by omega) (by decide) y z)
  have HTL := Lib.hid (fun W (hk : Keeps (fun _ => False) w2 W) (y z : Int × Int) => slegal (HB.out.tu.keep hk) HB.out.good y z)
  have HRL := Lib.hid (fun W (hk : Keeps (fun _ => False) w2 W) (y z : Int × Int) (h : chkErr L y.1 y.2 = 0) (h' : chkErr L z.1 z.2 = 0) => rlegal (HB.out.ls.keep hk) HB.out.good hl1 (by omega) (by decide) y z h h')
  have HNM := Lib.hid (fun k W (hk : Keeps (fun _ => False) w2 W) => num12_val k W (HER.out W hk))
  clear HB HER HE0 HBA0 HK0
  unfold rval RetPost cArr at HCO HRL
  unfold rval RetPost at HCK
  unfold tptr RetPost cval at HTL
  unfold NumPost at HNM
  simp only [h8] at HCO HCK HRL
  go_wp2_with fail
  go_loopw [10] (fun i wr => ∃ (k : Nat), k ≤ 2 ∧ i = .int .i64 (k : Int) ∧ Hid (Keeps (fun _ => False) w2 wr)) (fun i _ => 2 - (intOf i).toNat)
  case atStart => exact ⟨0, by decide, rfl, Lib.hid (Keeps.refl _ _)⟩
  case round =>
    obtain ⟨k, hk2, rfl, HKR⟩ := hrel
    by_cases hlt : k < 2
    · have HCA := Lib.hid (fun W (hk : Keeps (fun _ => False) wr W) => HCO.out W (HKR.out.trans' hk) (a1, a2) (k == 1))
      have HCB := Lib.hid (fun W (hk : Keeps (fun _ => False) wr W) => HCO.out W (HKR.out.trans' hk) (b1, b2) (k == 1))
      generalize crnR L (a1, a2) (k == 1) = ca at *
      generalize crnR L (b1, b2) (k == 1) = cb at *
      obtain ⟨ca1, ca2⟩ := ca
      obtain ⟨cb1, cb2⟩ := cb
      simp only at HCA HCB
      have hmk : ((k : Int) == 1) = (k == 1) := by
        rw [Bool.eq_iff_iff, beq_iff_eq, beq_iff_eq]; omega
      obtain ⟨t0, t1, _, _, tl⟩ := (HX.out.kept HKR.out id).cells
      have hac := HAC.out.kept HKR.out id
      have a0 := hac.cell (i := 2)
      have a1' := hac.cell (i := 3)
      have b0 := hac.cell (i := 4)
      have b1' := hac.cell (i := 5)
      have hal := hac.lt
      simp only [List.getElem?_toArray, List.getElem?_cons_zero, List.getElem?_cons_succ] at a0 a1' b0 b1'
      clear hac
      go_upto_region 7 with fail
      go_cut [11, 12] (fun s t wc => Hid (∃ pa pb, s = .pointer (some ⟨pa, 0, none⟩) ∧ t = .pointer (some ⟨pb, 0, none⟩) ∧ Blk wc pa #[.int .i64 ca1, .int .i64 ca2] 45 ∧ Blk wc pb #[.int .i64 cb1, .int .i64 cb2] 45 ∧ Keeps (fun _ => False) wr wc))
      case first =>
        have hK0 : Keeps (fun _ => False) wr wr := Keeps.refl _ _
        have hK : Keeps (fun _ => False) wr wr.drew := (Keeps.refl _ _).drew
        go_region_held3 (fun w' => w'.cell? ⟨bx, 0, none⟩ = some (.int .i64 8) ∧ w'.cell? ⟨bx, 1, none⟩ = some (.slice va L.length vc) ∧ w'.cell? ⟨w.heap.size, 2, none⟩ = some (.int .i64 a1) ∧ w'.cell? ⟨w.heap.size, 3, none⟩ = some (.int .i64 a2) ∧ w'.cell? ⟨w.heap.size, 4, none⟩ = some (.int .i64 b1) ∧ w'.cell? ⟨w.heap.size, 5, none⟩ = some (.int .i64 b2))
          (first | (with_reducible exact six_keep hK t0 t1 a0 a1' b0 b1') | (with_reducible exact six_keep (hK.alloc _) t0 t1 a0 a1' b0 b1') | (with_reducible exact six_keep ((hK.alloc _).alloc _) t0 t1 a0 a1' b0 b1') | (with_reducible exact six_keep (set2_keep hK (by first | omega | (simp; omega))) t0 t1 a0 a1' b0 b1') | (with_reducible exact six_keep (set2_keep (hK.alloc _) (by first | omega | (simp; omega))) t0 t1 a0 a1' b0 b1') | (with_reducible exact six_keep ((set2_keep hK (by first | omega | (simp; omega))).alloc _) t0 t1 a0 a1' b0 b1') | (with_reducible exact six_keep (set2_keep (set2_keep hK (by first | omega | (simp; omega))) (by first | omega | (simp; omega))) t0 t1 a0 a1' b0 b1') | (with_reducible exact six_keep (set2_keep ((hK.alloc _).alloc _) (by first | omega | (simp; omega))) t0 t1 a0 a1' b0 b1') | (with_reducible exact six_keep (set2_keep (set2_keep (hK.alloc _) (by first | omega | (simp; omega))) (by first | omega | (simp; omega))) t0 t1 a0 a1' b0 b1') | (with_reducible exact six_keep (set2_keep ((set2_keep hK (by first | omega | (simp; omega))).alloc _) (by first | omega | (simp; omega))) t0 t1 a0 a1' b0 b1') | (with_reducible exact six_keep (set2_keep (set2_keep ((hK.alloc _).alloc _) (by first | omega | (simp; omega))) (by first | omega | (simp; omega))) t0 t1 a0 a1' b0 b1') | (with_reducible exact six_keep (hK0.alloc _).drew t0 t1 a0 a1' b0 b1') | (with_reducible exact six_keep ((hK0.alloc _).alloc _).drew t0 t1 a0 a1' b0 b1'))
          (first
            | (go_at_call 18; with_reducible refine (HCA.out _ (by first | exact hK | exact (hK0.alloc _).drew | exact ((hK0.alloc _).alloc _).drew)).mono ?_; rintro e5 w5 ⟨rfl, hk5⟩; have hK : Keeps (fun _ => False) wr w5 := (by first | exact hK.trans' hk5 | exact (hK0.alloc _).drew.trans' hk5 | exact ((hK0.alloc _).alloc _).drew.trans' hk5); have hs5 : wr.heap.size ≤ w5.heap.size := hK.size; (first | (with_reducible have hz1 := box2_keptD hk5; (first | simp only [size_alloc, size_drew] at hz1 | skip); obtain ⟨z10, z11, zf10, zf11, zl1⟩ := hz1.cells) | skip); (first | (with_reducible have hz2 := box2_keptD2 hk5; (first | simp only [size_alloc, size_drew] at hz2 | skip); obtain ⟨z20, z21, zf20, zf21, zl2⟩ := hz2.cells) | skip))
            | (go_at_call 18; with_reducible refine (HCB.out _ (by first | exact hK | exact hK.alloc _ | exact (hK.alloc _).alloc _)).mono ?_; rintro e6 w6 ⟨rfl, hk6⟩; have hK : Keeps (fun _ => False) wr w6 := (by first | exact hK.trans' hk6 | exact (hK.alloc _).trans' hk6 | exact ((hK.alloc _).alloc _).trans' hk6); have hs6 : wr.heap.size ≤ w6.heap.size := hK.size; (first | (with_reducible have hy1 := hz1.kept hk6 id) | (with_reducible have hy1 := (hz1.alloc _).kept hk6 id) | (with_reducible have hy1 := ((hz1.alloc _).alloc _).kept hk6 id) | skip); (first | (with_reducible have hy2 := hz2.kept hk6 id) | (with_reducible have hy2 := (hz2.alloc _).kept hk6 id) | skip); (first | (with_reducible have hy3 := box2_kept hk6; simp only [size_alloc, size_drew] at hy3) | (with_reducible have hy3 := box2_kept hk6) | skip); (first | (with_reducible have hy4 := box2_kept2 hk6; simp only [size_alloc, size_drew] at hy4) | (with_reducible have hy4 := box2_kept2 hk6) | skip); (first | (obtain ⟨y10, y11, yf10, yf11, yl1⟩ := hy1.cells) | skip); (first | (obtain ⟨y20, y21, yf20, yf21, yl2⟩ := hy2.cells) | skip); (first | (obtain ⟨y30, y31, yf30, yf31, yl3⟩ := hy3.cells) | skip); (first | (obtain ⟨y40, y41, yf40, yf41, yl4⟩ := hy4.cells) | skip))
            | fail)
        all_goals
          go_wp2_with fail
          go_meet
          refine Lib.hid ⟨_, _, rfl, rfl, ?_, ?_, ?_⟩
          · repeat (first | with_reducible exact Blk.new _ _ _ | with_reducible exact hy1 | with_reducible exact hy2 | with_reducible exact hy3 | with_reducible exact hy4 | with_reducible refine Blk.set2 (x := .int .i64 0) (y := .int .i64 0) ?_ | with_reducible refine Blk.oth2 ?_ (by first | omega | (simp; omega)) | with_reducible exact Blk.newAt _ _ _ (by simp) | with_reducible refine Blk.alloc ?_ _)
          · repeat (first | with_reducible exact Blk.new _ _ _ | with_reducible exact hy1 | with_reducible exact hy2 | with_reducible exact hy3 | with_reducible exact hy4 | with_reducible refine Blk.set2 (x := .int .i64 0) (y := .int .i64 0) ?_ | with_reducible refine Blk.oth2 ?_ (by first | omega | (simp; omega)) | with_reducible exact Blk.newAt _ _ _ (by simp) | with_reducible refine Blk.alloc ?_ _)
          · repeat (first | with_reducible exact hK | with_reducible refine set2_keep ?_ (by first | omega | (simp; omega)) | with_reducible refine Keeps.alloc ?_ _)
      case rest =>
        obtain ⟨pa, pb, rfl, rfl, hba, hbb, hkc⟩ := hcut.out
        have K5 := Lib.hid (HKR.out.trans' hkc)
        have C5 : Hid (Keeps (fun _ => False) wc wc) := Lib.hid (Keeps.refl _ _)
        have BA := Lib.hid hba
        have BB := Lib.hid hbb
        clear hcut hba hbb hkc t0 t1 a0 a1' b0 b1' HCA HCB HCO HAC tl hal
        have HLG := Lib.hid (fun W hk => HTL.out W hk (ca1, ca2) (cb1, cb2))
        have HCA := Lib.hid (fun W hk => HCK.out W hk ca1 ca2)
        have HCB := Lib.hid (fun W hk => HCK.out W hk cb1 cb2)
        clear HTL HCK
        simp only at HLG
        have HBX := Lib.hid (HX.out.kept K5.out id)
        by_cases h1 : chkErr L ca1 ca2 = 0
        · rw [h1] at HCA
          have hse : sameErr L (ca1, ca2) (cb1, cb2) = chkErr L cb1 cb2 := by unfold sameErr; rw [if_neg (by simpa using h1)]
          rw [hse] at HLG
          by_cases h2 : chkErr L cb1 cb2 = 0
          · as_aux_lemma =>
            have HN0 := Lib.hid (HNM.out 0)
            rw [errVal_zero] at HN0
            rw [h2, errVal_zero] at HLG
            rw [h2] at HCB
            have HRM := Lib.hid (fun W hk => HRL.out W hk (ca1, ca2) (cb1, cb2) h1 h2)
            simp only at HRM
            have hdd : decide ((0 : Nat) = 0 ∧ legalC L 8 (ca1, ca2) (cb1, cb2)) = decide (legalC L 8 (ca1, ca2) (cb1, cb2)) := by rw [Bool.eq_iff_iff, decide_eq_true_iff, decide_eq_true_iff]; simp
            rw [hdd] at HLG
            clear h1 h2 hse hdd HRL HNM
            generalize decide (legalC L 8 (ca1, ca2) (cb1, cb2)) = r at *
            have hrr : ((r != r) = false) := by simp
            obtain ⟨x0, x1, _, _, _⟩ := HBX.out.cells
            obtain ⟨y0, y1, _, _, _⟩ := BA.out.cells
            obtain ⟨z0, z1, _, _, _⟩ := BB.out.cells
            go_wp2_with fail
            with_reducible refine (HLG.out _ K5.out).mono ?_
            rintro e w6 ⟨rfl, hk⟩
            have K6 := Lib.hid (K5.out.trans' hk)
            have C6 := Lib.hid (C5.out.trans' hk)
            clear hk x0 x1 y0 y1 z0 z1 K5 C5
            obtain ⟨x0, x1, _, _, _⟩ := (HX.out.kept K6.out id).cells
            obtain ⟨y0, y1, _, _, _⟩ := (BA.out.kept C6.out id).cells
            obtain ⟨z0, z1, _, _, _⟩ := (BB.out.kept C6.out id).cells
            go_wp2_with fail
            with_reducible refine (HCA.out _ K6.out).mono ?_
            rintro e w7 ⟨rfl, hk⟩
            have K7 := Lib.hid (K6.out.trans' hk)
            have C7 := Lib.hid (C6.out.trans' hk)
            clear hk x0 x1 y0 y1 z0 z1 K6 C6
            obtain ⟨x0, x1, _, _, _⟩ := (HX.out.kept K7.out id).cells
            obtain ⟨y0, y1, _, _, _⟩ := (BA.out.kept C7.out id).cells
            obtain ⟨z0, z1, _, _, _⟩ := (BB.out.kept C7.out id).cells
            go_wp2_with fail
            with_reducible refine (HCB.out _ K7.out).mono ?_
            rintro e w8 ⟨rfl, hk⟩
            have K8 := Lib.hid (K7.out.trans' hk)
            have C8 := Lib.hid (C7.out.trans' hk)
            clear hk x0 x1 y0 y1 z0 z1 K7 C7
            obtain ⟨x0, x1, _, _, _⟩ := (HX.out.kept K8.out id).cells
            obtain ⟨y0, y1, _, _, _⟩ := (BA.out.kept C8.out id).cells
            obtain ⟨z0, z1, _, _, _⟩ := (BB.out.kept C8.out id).cells
            go_wp2_with fail
            with_reducible refine (HN0.out _ K8.out).mono ?_
            rintro e w9 ⟨rfl, hk⟩
            have K9 := Lib.hid (K8.out.trans' hk)
            have C9 := Lib.hid (C8.out.trans' hk)
            clear hk x0 x1 y0 y1 z0 z1 K8 C8
            obtain ⟨x0, x1, _, _, _⟩ := (HX.out.kept K9.out id).cells
            obtain ⟨y0, y1, _, _, _⟩ := (BA.out.kept C9.out id).cells
            obtain ⟨z0, z1, _, _, _⟩ := (BB.out.kept C9.out id).cells
            go_wp2_with fail
            with_reducible refine (HRM.out _ K9.out).mono ?_
            rintro e w10 ⟨rfl, hk⟩
            have K10 := Lib.hid (K9.out.trans' hk)
            have C10 := Lib.hid (C9.out.trans' hk)
            clear hk x0 x1 y0 y1 z0 z1 K9 C9
            go_wp2_with fail
            exact ⟨⟨k + 1, by omega, by first | rfl | trivial, K10⟩, by simp [intOf]; omega⟩
          · as_aux_lemma =>
            have HN1 := Lib.hid (HNM.out (chkErr L cb1 cb2))
            rw [errVal_pos h2] at HLG HN1
            have hdd : decide (chkErr L cb1 cb2 = 0 ∧ legalC L 8 (ca1, ca2) (cb1, cb2)) = false := decide_eq_false fun q => h2 q.1
            rw [hdd] at HLG
            have hne0 : ((chkErr L cb1 cb2 : Nat) : Int) ≠ 0 := by omega
            clear h1 hse hdd HRL HNM
            generalize chkErr L cb1 cb2 = q at *
            have hqq : ((((q : Nat) : Int) != ((q : Nat) : Int)) = false) := by simp
            have hq0 : ((((q : Nat) : Int) == 0) = false) := by rw [beq_eq_false_iff_ne]; exact hne0
            have hq1 : ((((q : Nat) : Int) != 0) = true) := by rw [bne_iff_ne]; exact hne0
            obtain ⟨x0, x1, _, _, _⟩ := HBX.out.cells
            obtain ⟨y0, y1, _, _, _⟩ := BA.out.cells
            obtain ⟨z0, z1, _, _, _⟩ := BB.out.cells
            go_wp2_with fail
            with_reducible refine (HLG.out _ K5.out).mono ?_
            rintro e w6 ⟨rfl, hk⟩
            have K6 := Lib.hid (K5.out.trans' hk)
            have C6 := Lib.hid (C5.out.trans' hk)
            clear hk x0 x1 y0 y1 z0 z1 K5 C5
            obtain ⟨x0, x1, _, _, _⟩ := (HX.out.kept K6.out id).cells
            obtain ⟨y0, y1, _, _, _⟩ := (BA.out.kept C6.out id).cells
            obtain ⟨z0, z1, _, _, _⟩ := (BB.out.kept C6.out id).cells
            go_wp2_with fail
            with_reducible refine (HCA.out _ K6.out).mono ?_
            rintro e w7 ⟨rfl, hk⟩
            have K7 := Lib.hid (K6.out.trans' hk)
            have C7 := Lib.hid (C6.out.trans' hk)
            clear hk x0 x1 y0 y1 z0 z1 K6 C6
            obtain ⟨x0, x1, _, _, _⟩ := (HX.out.kept K7.out id).cells
            obtain ⟨y0, y1, _, _, _⟩ := (BA.out.kept C7.out id).cells
            obtain ⟨z0, z1, _, _, _⟩ := (BB.out.kept C7.out id).cells
            go_wp2_with fail
            with_reducible refine (HCB.out _ K7.out).mono ?_
            rintro e w8 ⟨rfl, hk⟩
            have K8 := Lib.hid (K7.out.trans' hk)
            have C8 := Lib.hid (C7.out.trans' hk)
            clear hk x0 x1 y0 y1 z0 z1 K7 C7
            obtain ⟨x0, x1, _, _, _⟩ := (HX.out.kept K8.out id).cells
            obtain ⟨y0, y1, _, _, _⟩ := (BA.out.kept C8.out id).cells
            obtain ⟨z0, z1, _, _, _⟩ := (BB.out.kept C8.out id).cells
            go_wp2_with fail
            with_reducible refine (HN1.out _ K8.out).mono ?_
            rintro e w9 ⟨rfl, hk⟩
            have K9 := Lib.hid (K8.out.trans' hk)
            have C9 := Lib.hid (C8.out.trans' hk)
            clear hk x0 x1 y0 y1 z0 z1 K8 C8
            go_wp2_with fail
            exact ⟨⟨k + 1, by omega, by first | rfl | trivial, K9⟩, by simp [intOf]; omega⟩
        · as_aux_lemma =>
          have HN1 := Lib.hid (HNM.out (chkErr L ca1 ca2))
          have hse : sameErr L (ca1, ca2) (cb1, cb2) = chkErr L ca1 ca2 := by unfold sameErr; rw [if_pos (by simpa using h1)]
          rw [hse, errVal_pos h1] at HLG
          rw [errVal_pos h1] at HN1
          have hdd : decide (chkErr L ca1 ca2 = 0 ∧ legalC L 8 (ca1, ca2) (cb1, cb2)) = false := decide_eq_false fun q => h1 q.1
          rw [hdd] at HLG
          have hne0 : ((chkErr L ca1 ca2 : Nat) : Int) ≠ 0 := by omega
          clear hse hdd HRL HNM
          generalize chkErr L ca1 ca2 = q at *
          have hqq : ((((q : Nat) : Int) != ((q : Nat) : Int)) = false) := by simp
          have hq0 : ((((q : Nat) : Int) == 0) = false) := by rw [beq_eq_false_iff_ne]; exact hne0
          have hq1 : ((((q : Nat) : Int) != 0) = true) := by rw [bne_iff_ne]; exact hne0
          obtain ⟨x0, x1, _, _, _⟩ := HBX.out.cells
          obtain ⟨y0, y1, _, _, _⟩ := BA.out.cells
          obtain ⟨z0, z1, _, _, _⟩ := BB.out.cells
          go_wp2_with fail
          with_reducible refine (HLG.out _ K5.out).mono ?_
          rintro e w6 ⟨rfl, hk⟩
          have K6 := Lib.hid (K5.out.trans' hk)
          have C6 := Lib.hid (C5.out.trans' hk)
          clear hk x0 x1 y0 y1 z0 z1 K5 C5
          obtain ⟨x0, x1, _, _, _⟩ := (HX.out.kept K6.out id).cells
          obtain ⟨y0, y1, _, _, _⟩ := (BA.out.kept C6.out id).cells
          obtain ⟨z0, z1, _, _, _⟩ := (BB.out.kept C6.out id).cells
          go_wp2_with fail
          with_reducible refine (HCA.out _ K6.out).mono ?_
          rintro e w7 ⟨rfl, hk⟩
          have K7 := Lib.hid (K6.out.trans' hk)
          have C7 := Lib.hid (C6.out.trans' hk)
          clear hk x0 x1 y0 y1 z0 z1 K6 C6
          obtain ⟨x0, x1, _, _, _⟩ := (HX.out.kept K7.out id).cells
          obtain ⟨y0, y1, _, _, _⟩ := (BA.out.kept C7.out id).cells
          obtain ⟨z0, z1, _, _, _⟩ := (BB.out.kept C7.out id).cells
          go_wp2_with fail
          with_reducible refine (HN1.out _ K7.out).mono ?_
          rintro e w9 ⟨rfl, hk⟩
          have K9 := Lib.hid (K7.out.trans' hk)
          have C9 := Lib.hid (C7.out.trans' hk)
          clear hk x0 x1 y0 y1 z0 z1 K7 C7
          go_wp2_with fail
          exact ⟨⟨k + 1, by omega, by first | rfl | trivial, K9⟩, by simp [intOf]; omega⟩
    · obtain rfl : k = 2 := by omega
      have HK := Lib.hid (HKB.out.trans' HKR.out)
      clear HKR
      go_wp2_with fail
      with_reducible refine (HSU.out _).mono ?_
      rintro e w8 ⟨rfl, hk⟩
      have HF := Lib.hid (HK.out.trans' hk)
      clear hk
      go_wp2_with fail
      go_ret
      exact ⟨rfl, HF.out⟩
theorem sphereLegals_enter (W : World) (hE : ErrT W) (n : Int) (_ : (Lit.int .i64 n).wf = true) (a : Option Addr) (c : Nat) (ls : List Act10) (hr : Rd W a (ls.flatMap actCells)) (hl : ls.length ≤ 9223372036854775807) (x : Act10) :
    Calls Tryd.prog 4 #[.int .i64 n, .slice a ls.length c, actVal x] W (TruePost W) := sphereLegals_walk n a c ls x W hE hr hl
end Go.Proofs.YtdplphhlclhmfaaDoor
