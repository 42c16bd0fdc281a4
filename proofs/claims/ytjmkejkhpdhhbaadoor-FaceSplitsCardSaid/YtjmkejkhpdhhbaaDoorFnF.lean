/- Chapter 11's laws: FaceSplits. -/
import Derived.Test.YtjmkejkhpdhhbaaDoorFlM
import Derived.Test.YtjmkejkhpdhhbaaDoorFlS
import Derived.Deep.RegionHeld3
namespace Go.Proofs.YtjmkejkhpdhhbaaDoor
open Go Go.RowKit
set_option linter.unusedVariables false
set_option linter.unusedSimpArgs false
set_option maxRecDepth 100000

theorem cnt_le (P : Nat → Prop) : ∀ n, cnt P n ≤ n
  | 0 => Nat.le_refl _
  | n + 1 => by
    have := cnt_le P n
    unfold cnt
    by_cases h : P n
    · rw [if_pos h]; omega
    · rw [if_neg h]; omega
theorem empN_pos {L : List (List Nat)} {n : Nat} (h : L.getD n [] = []) : empN L (n + 1) = empN L n + 1 := by
  unfold empN
  rw [cnt, if_pos h]
theorem empN_neg {L : List (List Nat)} {n : Nat} (h : L.getD n [] ≠ []) : empN L (n + 1) = empN L n := by
  unfold empN
  rw [cnt, if_neg h, Nat.add_zero]
theorem empN_le (L : List (List Nat)) (n : Nat) : empN L n ≤ n := cnt_le _ n
theorem empN_zero (L : List (List Nat)) : empN L 0 = 0 := rfl
set_option maxHeartbeats 8000000 in
theorem faceSplits_walk (n : Int) (a : Option Addr) (c : Nat) (ls : List Act10) (x : Act10) (w : World) (hE : ErrT w) (hz : Rd w a (actsV ls)) (hzl : ls.length ≤ 9223372036854775807) :
    Calls Tryd.prog 15 #[.int .i64 n, .slice a ls.length c, actVal x] w (TruePost w) := by
  obtain ⟨kind, e0, ⟨a1, a2⟩, ⟨b1, b2⟩⟩ := x
  generalize hW : w.alloc (.cells #[.int .i64 kind, .int .i64 e0, .int .i64 a1, .int .i64 a2, .int .i64 b1, .int .i64 b2] 80) = w0
  have hK0 : Keeps (fun _ => False) w w0 := by rw [← hW]; exact (Keeps.refl _ _).alloc _
  have hBA : Blk w0 w.heap.size #[.int .i64 kind, .int .i64 e0, .int .i64 a1, .int .i64 a2, .int .i64 b1, .int .i64 b2] 80 := by rw [← hW]; exact Blk.new _ _ _
  have HK0 := Lib.hid hK0
  have HBA0 := Lib.hid hBA
  have HM := Lib.hid (made11 n a c ls w0 (hE.keep hK0) (hz.keep hK0) hzl)
  have HE0 := Lib.hid (hE.keep hK0)
  clear hE hz hBA hK0
  have HSU := Lib.hid (fun W => sure11 W)
  unfold TruePost at HSU
  unfold MadePost tptr rval at HM
  unfold TruePost actVal
  go_enter Tryd.func15, Tryd.ntmps15
  go_upto_region 1 with fail
  clear hW
  go_wp2_with fail
  with_reducible refine HM.out.mono ?_
  rintro e w1 ⟨L, p, own, B, va, vc, rfl, hl1, hl6, hb⟩
  have hbx : BothAt w0 own p 8 B L (.slice va L.length vc) (w1.alloc (.cells #[.int .i64 8, .slice va L.length vc] 32)) := hb.keep ((Keeps.refl _ _).alloc _)
  have HB := Lib.hid hbx
  have HX : Hid (Blk (w1.alloc (.cells #[.int .i64 8, .slice va L.length vc] 32)) w1.heap.size #[.int .i64 8, .slice va L.length vc] 32) := Lib.hid (Blk.new _ _ _)
  have HNB : Hid (∀ k, own k → k < w1.heap.size) := Lib.hid fun k q => hb.tu.lt k q
  clear hb hbx HM
  go_upto_region 2 with fail
  generalize w1.alloc _ = w2 at *
  generalize w1.heap.size = bx at *
  have h8 : ((8 : Nat) : Int) = 8 := rfl
  have HG := Lib.hid HB.out.good
  have HKB := Lib.hid (HK0.out.trans' HB.out.kp)
  have HAC : Hid (Blk w2 w.heap.size #[.int .i64 kind, .int .i64 e0, .int .i64 a1, .int .i64 a2, .int .i64 b1, .int .i64 b2] 80) := Lib.hid (HBA0.out.kept HB.out.kp id)
  have HCO := Lib.hid (fun W (hk : Keeps (fun _ => False) w2 W) (q : Int × Int) => corner11 (HB.out.ls.keep hk) HB.out.good.toWF hl1 (by omega) (by decide) q false)
  have HTS := Lib.hid (fun W (hk : Keeps (fun _ => False) w2 W) (y z : Int × Int) => fsame (HB.out.tu.keep hk) HB.out.good y z)
  have HTA := Lib.hid (fun W (hk : Keeps (fun _ => False) w2 W) => fall (HB.out.tu.keep hk) HB.out.good)
  have HTH := Lib.hid (fun W (hk : Keeps (fun _ => False) w2 W) (x : Nat) => thas (HB.out.tu.keep hk) ((x : Nat) : Int))
  have HTU := Lib.hid (fun W (hk : Keeps (fun _ => False) w2 W) => HB.out.tu.keep hk)
  have HLOW := Lib.hid (fun k (q : own k) => HB.out.low k q)
  have HW02 := Lib.hid HB.out.kp.size
  clear HB HE0 HBA0
  unfold rval RetPost cArr at HCO
  unfold tptr RetPost cval at HTS
  unfold tptr AllPost at HTA
  unfold tptr RetPost at HTH
  simp only [h8] at HCO
  have HDEC : Hid (∀ x : Nat, x < 8 → decide ((0 : Int) ≤ (x : Int) ∧ (x : Int) < ((8 : Nat) : Int) ∧ Stands L (2 * ((x : Nat) : Int).toNat)) = decide (Stands L (2 * x))) := Lib.hid fun x hx => by
    rw [Bool.eq_iff_iff, decide_eq_true_iff, decide_eq_true_iff, Int.toNat_natCast]
    exact ⟨fun q => q.2.2, fun q => ⟨by omega, by omega, q⟩⟩
  go_upto_block 0 with fail
  go_cut [10] (fun f wc => Hid (∃ z : Int, f = .int .i64 z ∧ (z = -1 ∨ ∃ m : Nat, z = m ∧ m < 8 ∧ ¬ Stands L (2 * m)) ∧ Keeps (fun _ => False) w2 wc))
  case first =>
    as_aux_lemma =>
    go_wp2_with fail
    go_loopw [10, 11] (fun f i wr => ∃ (k : Nat), k ≤ 8 ∧ i = .int .i64 (k : Int) ∧ ∃ z : Int, f = .int .i64 z ∧ Hid ((z = -1 ∨ ∃ m : Nat, z = m ∧ m < 8 ∧ ¬ Stands L (2 * m)) ∧ Keeps (fun _ => False) w2 wr)) (fun _ i _ => 8 - (intOf i).toNat)
    case atStart => exact ⟨0, by decide, rfl, -1, rfl, Lib.hid ⟨Or.inl rfl, Keeps.refl _ _⟩⟩
    case round =>
      obtain ⟨k, hk8, rfl, z, rfl, HR⟩ := hrel
      by_cases hlt : k < 8
      · have hHS := HTH.out _ HR.out.2 k
        rw [HDEC.out k hlt] at hHS
        have HHS := Lib.hid hHS
        clear hHS
        by_cases hs : Stands L (2 * k)
        · rw [decide_eq_true hs] at HHS
          clear hs
          go_wp2_with fail
          with_reducible refine HHS.out.mono ?_
          rintro e w5 ⟨rfl, hk⟩
          have HR2 : Hid ((z = -1 ∨ ∃ m : Nat, z = m ∧ m < 8 ∧ ¬ Stands L (2 * m)) ∧ Keeps (fun _ => False) w2 w5) := Lib.hid ⟨HR.out.1, HR.out.2.trans' hk⟩
          clear hk HR HHS
          go_wp2_with fail
          exact ⟨⟨k + 1, by omega, by simp, z, rfl, HR2⟩, by simp [intOf]; omega⟩
        · rw [decide_eq_false hs] at HHS
          have HSS := Lib.hid hs
          clear hs
          go_wp2_with fail
          with_reducible refine HHS.out.mono ?_
          rintro e w5 ⟨rfl, hk⟩
          have HR2 : Hid (((k : Int) = -1 ∨ ∃ m : Nat, (k : Int) = m ∧ m < 8 ∧ ¬ Stands L (2 * m)) ∧ Keeps (fun _ => False) w2 w5) := Lib.hid ⟨Or.inr ⟨k, rfl, hlt, HSS.out⟩, HR.out.2.trans' hk⟩
          clear hk HR HHS
          go_wp2_with fail
          exact ⟨⟨k + 1, by omega, by simp, (k : Int), rfl, HR2⟩, by simp [intOf]; omega⟩
      · obtain rfl : k = 8 := by omega
        go_wp2_with fail
        go_meet
        exact Lib.hid ⟨z, rfl, HR.out⟩
  case rest =>
    obtain ⟨z, rfl, hz, hkc⟩ := hcut.out
    have HZ := Lib.hid hz
    have HKR := Lib.hid hkc
    clear hcut hz hkc HTH HDEC
    have HCA := Lib.hid (fun W (hk : Keeps (fun _ => False) wc W) => HCO.out W (HKR.out.trans' hk) (a1, a2))
    have HCB := Lib.hid (fun W (hk : Keeps (fun _ => False) wc W) => HCO.out W (HKR.out.trans' hk) (b1, b2))
    have HOKA : Hid (chkErr L (crnR L (a1, a2) false).1 (crnR L (a1, a2) false).2 = 0) := Lib.hid (crn_ok hl1 (a1, a2))
    have HOKB : Hid (chkErr L (crnR L (b1, b2) false).1 (crnR L (b1, b2) false).2 = 0) := Lib.hid (crn_ok hl1 (b1, b2))
    generalize crnR L (a1, a2) false = ca at *
    generalize crnR L (b1, b2) false = cb at *
    obtain ⟨ca1, ca2⟩ := ca
    obtain ⟨cb1, cb2⟩ := cb
    simp only at HCA HCB HOKA HOKB
    obtain ⟨t0, t1, _, _, tl⟩ := (HX.out.kept HKR.out id).cells
    have hac := HAC.out.kept HKR.out id
    have a0 := hac.cell (i := 2)
    have a1' := hac.cell (i := 3)
    have b0 := hac.cell (i := 4)
    have b1' := hac.cell (i := 5)
    have hal := hac.lt
    simp only [List.getElem?_toArray, List.getElem?_cons_zero, List.getElem?_cons_succ] at a0 a1' b0 b1'
    clear hac HCO
    go_upto_region 10 with fail
    go_cut [12, 13] (fun s t wd => Hid (∃ pa pb, s = .pointer (some ⟨pa, 0, none⟩) ∧ t = .pointer (some ⟨pb, 0, none⟩) ∧ Blk wd pa #[.int .i64 ca1, .int .i64 ca2] 23 ∧ Blk wd pb #[.int .i64 cb1, .int .i64 cb2] 23 ∧ Keeps (fun _ => False) wc wd))
    case first =>
      have hK0 : Keeps (fun _ => False) wc wc := Keeps.refl _ _
      have hK : Keeps (fun _ => False) wc wc.drew := (Keeps.refl _ _).drew
      go_region_held3 (fun w' => w'.cell? ⟨bx, 0, none⟩ = some (.int .i64 8) ∧ w'.cell? ⟨bx, 1, none⟩ = some (.slice va L.length vc) ∧ w'.cell? ⟨w.heap.size, 2, none⟩ = some (.int .i64 a1) ∧ w'.cell? ⟨w.heap.size, 3, none⟩ = some (.int .i64 a2) ∧ w'.cell? ⟨w.heap.size, 4, none⟩ = some (.int .i64 b1) ∧ w'.cell? ⟨w.heap.size, 5, none⟩ = some (.int .i64 b2))
        (first | (with_reducible exact six_keep hK t0 t1 a0 a1' b0 b1') | (with_reducible exact six_keep (hK.alloc _) t0 t1 a0 a1' b0 b1') | (with_reducible exact six_keep ((hK.alloc _).alloc _) t0 t1 a0 a1' b0 b1') | (with_reducible exact six_keep (set2_keep hK (by first | omega | (simp; omega))) t0 t1 a0 a1' b0 b1') | (with_reducible exact six_keep (set2_keep (hK.alloc _) (by first | omega | (simp; omega))) t0 t1 a0 a1' b0 b1') | (with_reducible exact six_keep ((set2_keep hK (by first | omega | (simp; omega))).alloc _) t0 t1 a0 a1' b0 b1') | (with_reducible exact six_keep (set2_keep (set2_keep hK (by first | omega | (simp; omega))) (by first | omega | (simp; omega))) t0 t1 a0 a1' b0 b1') | (with_reducible exact six_keep (set2_keep ((hK.alloc _).alloc _) (by first | omega | (simp; omega))) t0 t1 a0 a1' b0 b1') | (with_reducible exact six_keep (set2_keep (set2_keep (hK.alloc _) (by first | omega | (simp; omega))) (by first | omega | (simp; omega))) t0 t1 a0 a1' b0 b1') | (with_reducible exact six_keep (set2_keep ((set2_keep hK (by first | omega | (simp; omega))).alloc _) (by first | omega | (simp; omega))) t0 t1 a0 a1' b0 b1') | (with_reducible exact six_keep (set2_keep (set2_keep ((hK.alloc _).alloc _) (by first | omega | (simp; omega))) (by first | omega | (simp; omega))) t0 t1 a0 a1' b0 b1') | (with_reducible exact six_keep (hK0.alloc _).drew t0 t1 a0 a1' b0 b1') | (with_reducible exact six_keep ((hK0.alloc _).alloc _).drew t0 t1 a0 a1' b0 b1'))
        (first
          | (go_at_call 51; with_reducible refine (HCA.out _ (by first | exact hK | exact (hK0.alloc _).drew | exact ((hK0.alloc _).alloc _).drew)).mono ?_; rintro e5 w5 ⟨rfl, hk5⟩; have hK : Keeps (fun _ => False) wc w5 := (by first | exact hK.trans' hk5 | exact (hK0.alloc _).drew.trans' hk5 | exact ((hK0.alloc _).alloc _).drew.trans' hk5); have hs5 : wc.heap.size ≤ w5.heap.size := hK.size; (first | (with_reducible have hz1 := box2_keptD hk5; (first | simp only [size_alloc, size_drew] at hz1 | skip); obtain ⟨z10, z11, zf10, zf11, zl1⟩ := hz1.cells) | skip); (first | (with_reducible have hz2 := box2_keptD2 hk5; (first | simp only [size_alloc, size_drew] at hz2 | skip); obtain ⟨z20, z21, zf20, zf21, zl2⟩ := hz2.cells) | skip))
          | (go_at_call 51; with_reducible refine (HCB.out _ (by first | exact hK | exact hK.alloc _ | exact (hK.alloc _).alloc _)).mono ?_; rintro e6 w6 ⟨rfl, hk6⟩; have hK : Keeps (fun _ => False) wc w6 := (by first | exact hK.trans' hk6 | exact (hK.alloc _).trans' hk6 | exact ((hK.alloc _).alloc _).trans' hk6); have hs6 : wc.heap.size ≤ w6.heap.size := hK.size; (first | (with_reducible have hy1 := hz1.kept hk6 id) | (with_reducible have hy1 := (hz1.alloc _).kept hk6 id) | (with_reducible have hy1 := ((hz1.alloc _).alloc _).kept hk6 id) | skip); (first | (with_reducible have hy2 := hz2.kept hk6 id) | (with_reducible have hy2 := (hz2.alloc _).kept hk6 id) | skip); (first | (with_reducible have hy3 := box2_kept hk6; simp only [size_alloc, size_drew] at hy3) | (with_reducible have hy3 := box2_kept hk6) | skip); (first | (with_reducible have hy4 := box2_kept2 hk6; simp only [size_alloc, size_drew] at hy4) | (with_reducible have hy4 := box2_kept2 hk6) | skip); (first | (obtain ⟨y10, y11, yf10, yf11, yl1⟩ := hy1.cells) | skip); (first | (obtain ⟨y20, y21, yf20, yf21, yl2⟩ := hy2.cells) | skip); (first | (obtain ⟨y30, y31, yf30, yf31, yl3⟩ := hy3.cells) | skip); (first | (obtain ⟨y40, y41, yf40, yf41, yl4⟩ := hy4.cells) | skip))
          | fail)
      all_goals
        go_wp2_with fail
        go_meet
        refine Lib.hid ⟨_, _, rfl, rfl, ?_, ?_, ?_⟩
        · repeat (first | with_reducible exact Blk.new _ _ _ | with_reducible exact hy1 | with_reducible exact hy2 | with_reducible exact hy3 | with_reducible exact hy4 | with_reducible refine Blk.set2 (x := .int .i64 0) (y := .int .i64 0) ?_ | with_reducible refine Blk.oth2 ?_ (by first | omega | (simp; omega)) | with_reducible exact Blk.newAt _ _ _ (by simp) | with_reducible refine Blk.alloc ?_ _)
        · repeat (first | with_reducible exact Blk.new _ _ _ | with_reducible exact hy1 | with_reducible exact hy2 | with_reducible exact hy3 | with_reducible exact hy4 | with_reducible refine Blk.set2 (x := .int .i64 0) (y := .int .i64 0) ?_ | with_reducible refine Blk.oth2 ?_ (by first | omega | (simp; omega)) | with_reducible exact Blk.newAt _ _ _ (by simp) | with_reducible refine Blk.alloc ?_ _)
        · repeat (first | with_reducible exact hK | with_reducible refine set2_keep ?_ (by first | omega | (simp; omega)) | with_reducible refine Keeps.alloc ?_ _)
    case rest =>
      obtain ⟨pa, pb, rfl, rfl, hba, hbb, hkd⟩ := hcut.out
      have KD := Lib.hid (HKR.out.trans' hkd)
      obtain ⟨y0, y1, _, _, yl⟩ := hba.cells
      obtain ⟨z0, z1, _, _, zl⟩ := hbb.cells
      clear hcut hba hbb hkd t0 t1 a0 a1' b0 b1' HCA HCB HAC tl hal HKR
      go_upto_region 11 with fail
      go_cut [14, 15] (fun s t we => Hid (∃ qa qb, s = .pointer (some ⟨qa, 0, none⟩) ∧ t = .pointer (some ⟨qb, 0, none⟩) ∧ Blk we qa #[.int .i64 ca1, .int .i64 ca2] 41 ∧ Blk we qb #[.int .i64 cb1, .int .i64 cb2] 41 ∧ wc.heap.size ≤ qa ∧ wc.heap.size ≤ qb ∧ Keeps (fun _ => False) wc we))
      case first =>
        as_aux_lemma =>
        go_region
        all_goals
          go_wp2_with fail
          go_meet
          refine Lib.hid ⟨_, _, rfl, rfl, ?_, ?_, ?_, ?_, (((Keeps.refl _ _).alloc _).alloc _).drew⟩
          · first | with_reducible exact ((Blk.new _ _ _).alloc _).drew | with_reducible exact (Blk.newAt _ _ _ (by simp)).drew
          · first | with_reducible exact ((Blk.new _ _ _).alloc _).drew | with_reducible exact (Blk.newAt _ _ _ (by simp)).drew
          · first | omega | (simp; omega) | simp
          · first | omega | (simp; omega) | simp
      case rest =>
        obtain ⟨qa, qb, rfl, rfl, hqa, hqb, hla, hlb, hke⟩ := hcut.out
        have KE := Lib.hid (KD.out.trans' hke)
        have QA := Lib.hid hqa
        have QB := Lib.hid hqb
        have HNQ : Hid (¬ own bx ∧ ¬ own qa ∧ ¬ own qb) := by
          have hb0 := HX.out.lt
          have hb1 := KD.out.size
          exact Lib.hid ⟨fun q => by have := HNB.out _ q; omega, fun q => by have := HNB.out _ q; omega, fun q => by have := HNB.out _ q; omega⟩
        clear hcut hqa hqb hke hla hlb y0 y1 z0 z1 yl zl KD
        have hse : sameErr L (ca1, ca2) (cb1, cb2) = 0 := by
          unfold sameErr
          rw [if_neg (by rw [HOKA.out]; exact fun q => q rfl)]
          exact HOKB.out
        have HSM := Lib.hid (fun W hk => HTS.out W hk (ca1, ca2) (cb1, cb2))
        have hdd : decide (sameErr L (ca1, ca2) (cb1, cb2) = 0 ∧ sameC L 8 (ca1, ca2) (cb1, cb2)) = decide (sameC L 8 (ca1, ca2) (cb1, cb2)) := by rw [Bool.eq_iff_iff, decide_eq_true_iff, decide_eq_true_iff, hse]; simp
        obtain ⟨r, hr⟩ : ∃ r, decide (sameC L 8 (ca1, ca2) (cb1, cb2)) = r := ⟨_, rfl⟩
        have hdr := hdd.trans hr
        rw [hdr, hse, errVal_zero] at HSM
        have HRE := Lib.hid hr
        clear hse hdd hdr HTS hr
        obtain ⟨c0, c1, _, _, _⟩ := QA.out.cells
        obtain ⟨d0, d1, _, _, _⟩ := QB.out.cells
        go_wp2_with fail
        with_reducible refine (HSM.out _ KE.out).mono ?_
        rintro e w5 ⟨rfl, hk⟩
        have K5 := Lib.hid (KE.out.trans' hk)
        have QA5 := Lib.hid (QA.out.kept hk id)
        have QB5 := Lib.hid (QB.out.kept hk id)
        clear hk c0 c1 d0 d1 QA QB KE HSM
        rcases HZ.out with hz | ⟨m, hz, hm8, hns⟩
        · subst hz
          have HKF := Lib.hid (HKB.out.trans' K5.out)
          clear HZ
          go_wp2_with fail
          with_reducible refine (HSU.out _).mono ?_
          rintro e w8 ⟨rfl, hk⟩
          have HF := Lib.hid (HKF.out.trans' hk)
          clear hk
          go_wp2_with fail
          go_ret
          exact ⟨rfl, HF.out⟩
        · subst hz
          have HNS := Lib.hid hns
          have HOA := HOKA
          have hle : layErr 8 L (m : Int) (ca1, ca2) (cb1, cb2) = 0 := by
            unfold layErr
            rw [if_neg (by omega), Int.toNat_natCast, if_neg hns, if_neg (by rw [HOKA.out]; exact fun q => q rfl)]
            exact HOKB.out
          have hly : lay 8 L (m : Int) (ca1, ca2) (cb1, cb2) = layL L m (ca1, ca2) (cb1, cb2) := by
            unfold lay
            rw [if_pos hle, Int.toNat_natCast]
          have hg2 := HG.out.lay (m : Int) (ca1, ca2) (cb1, cb2)
          rw [hly] at hg2
          have HG2 := Lib.hid hg2
          have HLY : Hid (∀ W, Keeps (fun _ => False) w2 W → Calls Tryd.prog 27 #[tptr p, .int .i64 (m : Int), cval ca1 ca2, cval cb1 cb2] W (TPost own p 8 (layL L m (ca1, ca2) (cb1, cb2)) .nilIface W)) := Lib.hid fun W hk => by
            have := tlay (HTU.out W hk) HG.out (m : Int) (ca1, ca2) (cb1, cb2)
            rw [hle, hly, errVal_zero] at this
            exact this
          have HSP := Lib.hid (splits HG.out hm8 hns HOKA.out HOKB.out hg2)
          have HLL : Hid ((layL L m (ca1, ca2) (cb1, cb2)).length = L.length) := Lib.hid (by rw [← hly]; exact lay_length _ _ _ _ _)
          have hm0 : decide ((m : Int) < 0) = false := by simp
          have hF1 : (faces L 8).length ≤ 16 := facesN_le _
          have hF2 : (faces (layL L m (ca1, ca2) (cb1, cb2)) 8).length ≤ 16 := facesN_le _
          have HDG := Lib.hid (fun W (hk : Keeps (fun _ => False) w2 W) (x : Nat) (hx : x < L.length) => (by
            have := tdegree (HTU.out W hk) ((x : Nat) : Int)
            have hv : vErr L ((x : Nat) : Int) = 0 := by unfold vErr; rw [if_neg (by omega)]
            rw [hv, if_pos rfl, Int.toNat_natCast, errVal_zero] at this
            exact this : Calls Tryd.prog 23 #[tptr p, .int .i64 ((x : Nat) : Int)] W (RetPost (.tuple #[.int .i64 ((L.getD x []).length : Int), .nilIface]) W)))
          unfold tptr cval TPost at HLY
          unfold tptr RetPost at HDG
          have HES := Lib.hid (fun n h => empN_pos (L := L) (n := n) h)
          have HEN := Lib.hid (fun n h => empN_neg (L := L) (n := n) h)
          have HES2 := Lib.hid (fun n h => empN_pos (L := layL L m (ca1, ca2) (cb1, cb2)) (n := n) h)
          have HEN2 := Lib.hid (fun n h => empN_neg (L := layL L m (ca1, ca2) (cb1, cb2)) (n := n) h)
          have HEL := Lib.hid (fun n => empN_le L n)
          have HEL2 := Lib.hid (fun n => empN_le (layL L m (ca1, ca2) (cb1, cb2)) n)
          have HE1 : Hid (emp L = empN L L.length) := Lib.hid rfl
          have HE2 : Hid (emp (layL L m (ca1, ca2) (cb1, cb2)) = empN (layL L m (ca1, ca2) (cb1, cb2)) L.length) := Lib.hid (by rw [← HLL.out]; rfl)
          clear HZ hns hle hly hg2 HOA HOKA HOKB
          generalize layL L m (ca1, ca2) (cb1, cb2) = L2 at *
          generalize faces L 8 = F at *
          generalize hFF : faces L2 8 = F2 at *
          have HFF := Lib.hid hFF
          clear hFF
          go_wp2_with fail
          with_reducible refine (HTA.out _ K5.out).mono ?_
          rintro e w6 ⟨v6, rfl, hrs, hk⟩
          obtain ⟨a6, c6, rfl⟩ := hrs.rows.form
          have K6 := Lib.hid (K5.out.trans' hk)
          have QA6 := Lib.hid (QA5.out.kept hk id)
          have QB6 := Lib.hid (QB5.out.kept hk id)
          clear hrs hk K5 QA5 QB5 HTA
          go_upto_block 2 with fail
          go_cut [18] (fun t wd => Hid (∃ N : Nat, t = .int .i64 (N : Int) ∧ N = F.length + empN L L.length ∧ Keeps (fun _ => False) w6 wd))
          case first =>
            as_aux_lemma =>
            go_wp2_with fail
            go_loopw [18, 20] (fun t i wr => ∃ (v N : Nat), v ≤ L.length ∧ t = .int .i64 (N : Int) ∧ i = .int .i64 (v : Int) ∧ Hid (N = F.length + empN L v ∧ Keeps (fun _ => False) w6 wr)) (fun _ i _ => L.length - (intOf i).toNat)
            case atStart => exact ⟨0, F.length, Nat.zero_le _, rfl, rfl, Lib.hid ⟨by rw [empN_zero, Nat.add_zero], Keeps.refl _ _⟩⟩
            case round =>
              obtain ⟨v, N, hv, rfl, rfl, HR⟩ := hrel
              have HKW := Lib.hid (K6.out.trans' HR.out.2)
              obtain ⟨x0, x1, _, _, _⟩ := (HX.out.kept HKW.out id).cells
              by_cases hlt : v < L.length
              · have HD := Lib.hid (HDG.out _ HKW.out v hlt)
                have hNb : N ≤ 22 := by rw [HR.out.1]; have := HEL.out v; omega
                have hvI : (v : Int) < (L.length : Int) := by omega
                by_cases hem : L.getD v [] = []
                · rw [hem] at HD
                  have HN1 : Hid (N + 1 = F.length + empN L (v + 1)) := Lib.hid (by rw [HES.out v hem, HR.out.1]; omega)
                  clear hem
                  go_wp2_with fail
                  with_reducible refine HD.out.mono ?_
                  rintro e w7 ⟨rfl, hk⟩
                  have HR2 : Hid (N + 1 = F.length + empN L (v + 1) ∧ Keeps (fun _ => False) w6 w7) := Lib.hid ⟨HN1.out, HR.out.2.trans' hk⟩
                  clear hk HR HKW x0 x1 HD HN1
                  go_wp2_with fail
                  exact ⟨⟨v + 1, N + 1, by omega, by simp, by simp, HR2⟩, by simp [intOf]; omega⟩
                · have hlen : (((L.getD v []).length : Int) == 0) = false := by
                    rw [beq_eq_false_iff_ne]
                    intro q
                    exact hem (List.eq_nil_of_length_eq_zero (by omega))
                  have HN1 : Hid (N = F.length + empN L (v + 1)) := Lib.hid (by rw [HEN.out v hem, HR.out.1])
                  clear hem
                  generalize (L.getD v []).length = lv at *
                  go_wp2_with fail
                  with_reducible refine HD.out.mono ?_
                  rintro e w7 ⟨rfl, hk⟩
                  have HR2 : Hid (N = F.length + empN L (v + 1) ∧ Keeps (fun _ => False) w6 w7) := Lib.hid ⟨HN1.out, HR.out.2.trans' hk⟩
                  clear hk HR HKW x0 x1 HD HN1
                  go_wp2_with fail
                  exact ⟨⟨v + 1, N, by omega, rfl, by simp, HR2⟩, by simp [intOf]; omega⟩
              · obtain rfl : v = L.length := by omega
                have hvI : decide ((L.length : Int) < (L.length : Int)) = false := by simp
                go_wp2_with fail
                go_meet
                exact Lib.hid ⟨N, rfl, HR.out.1, HR.out.2⟩
          case rest =>
            obtain ⟨N, rfl, hN, hk7⟩ := hcut.out
            have HN := Lib.hid hN
            have K7 := Lib.hid (K6.out.trans' hk7)
            have QA7 := Lib.hid (QA6.out.kept hk7 id)
            have QB7 := Lib.hid (QB6.out.kept hk7 id)
            have hNb : N ≤ 22 := by rw [hN]; have := HEL.out L.length; omega
            clear hcut hN hk7 K6 QA6 QB6 HDG HES HEN
            obtain ⟨c0, c1, _, _, _⟩ := QA7.out.cells
            obtain ⟨d0, d1, _, _, _⟩ := QB7.out.cells
            go_upto_region 22 with fail
            go_wp2_with fail
            with_reducible refine (HLY.out _ K7.out).mono ?_
            rintro e w8 ⟨rfl, ht8, hk⟩
            have HT8 := Lib.hid ht8
            have HB8 : Hid (Blk w8 bx #[.int .i64 8, .slice va L.length vc] 32) := Lib.hid ((HX.out.kept K7.out id).kept hk HNQ.out.1)
            have HK8 : Hid (Keeps (fun _ => False) w w8) := by
              refine Lib.hid ((HKB.out.trans' K7.out).thin hk fun q e => ?_)
              have h1 := (HLOW.out q e).1
              have h2 := HK0.out.size
              omega
            clear ht8 hk QA7 QB7 K7 c0 c1 d0 d1 HLY HTU
            have HTA2 := Lib.hid (fun W (hk : Keeps (fun _ => False) w8 W) => fall (HT8.out.keep hk) HG2.out)
            have HDG2 := Lib.hid (fun W (hk : Keeps (fun _ => False) w8 W) (x : Nat) (hx : x < L.length) => (by
              have := tdegree (HT8.out.keep hk) ((x : Nat) : Int)
              have hv : vErr L2 ((x : Nat) : Int) = 0 := by unfold vErr; rw [HLL.out, if_neg (by omega)]
              rw [hv, if_pos rfl, Int.toNat_natCast, errVal_zero] at this
              exact this : Calls Tryd.prog 23 #[tptr p, .int .i64 ((x : Nat) : Int)] W (RetPost (.tuple #[.int .i64 ((L2.getD x []).length : Int), .nilIface]) W)))
            unfold tptr RetPost at HDG2
            unfold tptr AllPost at HTA2
            rw [HFF.out] at HTA2
            clear HFF
            go_wp2_with fail
            with_reducible refine (HTA2.out _ (Keeps.refl _ _)).mono ?_
            rintro e w9 ⟨v9, rfl, hrs, hk⟩
            obtain ⟨a9, c9, rfl⟩ := hrs.rows.form
            have K9 := Lib.hid hk
            clear hrs hk HTA2
            go_upto_block 4 with fail
            go_cut [19] (fun t wd => Hid (∃ M : Nat, t = .int .i64 (M : Int) ∧ M = F2.length + empN L2 L.length ∧ Keeps (fun _ => False) w9 wd))
            case first =>
              as_aux_lemma =>
              go_wp2_with fail
              go_loopw [19, 23] (fun t i wr => ∃ (v N : Nat), v ≤ L.length ∧ t = .int .i64 (N : Int) ∧ i = .int .i64 (v : Int) ∧ Hid (N = F2.length + empN L2 v ∧ Keeps (fun _ => False) w9 wr)) (fun _ i _ => L.length - (intOf i).toNat)
              case atStart => exact ⟨0, F2.length, Nat.zero_le _, rfl, rfl, Lib.hid ⟨by rw [empN_zero, Nat.add_zero], Keeps.refl _ _⟩⟩
              case round =>
                obtain ⟨v, M, hv, rfl, rfl, HR⟩ := hrel
                have HKW := Lib.hid (K9.out.trans' HR.out.2)
                obtain ⟨x0, x1, _, _, _⟩ := (HB8.out.kept HKW.out id).cells
                by_cases hlt : v < L.length
                · have HD := Lib.hid (HDG2.out _ HKW.out v hlt)
                  have hMb : M ≤ 22 := by rw [HR.out.1]; have := HEL2.out v; omega
                  have hvI : (v : Int) < (L.length : Int) := by omega
                  by_cases hem : L2.getD v [] = []
                  · rw [hem] at HD
                    have HN1 : Hid (M + 1 = F2.length + empN L2 (v + 1)) := Lib.hid (by rw [HES2.out v hem, HR.out.1]; omega)
                    clear hem
                    go_wp2_with fail
                    with_reducible refine HD.out.mono ?_
                    rintro e w7 ⟨rfl, hk⟩
                    have HR2 : Hid (M + 1 = F2.length + empN L2 (v + 1) ∧ Keeps (fun _ => False) w9 w7) := Lib.hid ⟨HN1.out, HR.out.2.trans' hk⟩
                    clear hk HR HKW x0 x1 HD HN1
                    go_wp2_with fail
                    exact ⟨⟨v + 1, M + 1, by omega, by simp, by simp, HR2⟩, by simp [intOf]; omega⟩
                  · have hlen : (((L2.getD v []).length : Int) == 0) = false := by
                      rw [beq_eq_false_iff_ne]
                      intro q
                      exact hem (List.eq_nil_of_length_eq_zero (by omega))
                    have HN1 : Hid (M = F2.length + empN L2 (v + 1)) := Lib.hid (by rw [HEN2.out v hem, HR.out.1])
                    clear hem
                    generalize (L2.getD v []).length = lv at *
                    go_wp2_with fail
                    with_reducible refine HD.out.mono ?_
                    rintro e w7 ⟨rfl, hk⟩
                    have HR2 : Hid (M = F2.length + empN L2 (v + 1) ∧ Keeps (fun _ => False) w9 w7) := Lib.hid ⟨HN1.out, HR.out.2.trans' hk⟩
                    clear hk HR HKW x0 x1 HD HN1
                    go_wp2_with fail
                    exact ⟨⟨v + 1, M, by omega, rfl, by simp, HR2⟩, by simp [intOf]; omega⟩
                · obtain rfl : v = L.length := by omega
                  have hvI : decide ((L.length : Int) < (L.length : Int)) = false := by simp
                  go_wp2_with fail
                  go_meet
                  exact Lib.hid ⟨M, rfl, HR.out.1, HR.out.2⟩
            case rest =>
              obtain ⟨M, rfl, hM, hk10⟩ := hcut.out
              have HKF := Lib.hid (HK8.out.trans' (K9.out.trans' hk10))
              have hkey : (r = true → M = N + 1) ∧ (r = false → M + 1 = N) := by
                have h1 := HSP.out.1
                have h2 := HSP.out.2
                rw [HE1.out, HE2.out] at h1 h2
                have h3 := HN.out
                refine ⟨fun q => ?_, fun q => ?_⟩
                · have := h1 (of_decide_eq_true (HRE.out.trans q)); omega
                · have := h2 (of_decide_eq_false (HRE.out.trans q)); omega
              have hMb : M ≤ 23 := by
                cases hr : r with
                | true => have := hkey.1 hr; omega
                | false => have := hkey.2 hr; omega
              have HKEY := Lib.hid hkey
              clear hcut hM hk10 hkey HSP HN HRE
              cases r with
              | true =>
                have hb : (((M : Nat) : Int) == ((N : Nat) : Int) + 1) = true := by
                  rw [beq_iff_eq]; have := HKEY.out.1 rfl; omega
                clear HKEY
                go_wp2_with fail
                with_reducible refine (HSU.out _).mono ?_
                rintro e w11 ⟨rfl, hk⟩
                have HF := Lib.hid (HKF.out.trans' hk)
                clear hk
                go_wp2_with fail
                go_ret
                exact ⟨rfl, HF.out⟩
              | false =>
                have hb : (((M : Nat) : Int) == ((N : Nat) : Int) - 1) = true := by
                  rw [beq_iff_eq]; have := HKEY.out.2 rfl; omega
                clear HKEY
                go_wp2_with fail
                with_reducible refine (HSU.out _).mono ?_
                rintro e w11 ⟨rfl, hk⟩
                have HF := Lib.hid (HKF.out.trans' hk)
                clear hk
                go_wp2_with fail
                go_ret
                exact ⟨rfl, HF.out⟩
theorem faceSplits_enter (W : World) (hE : ErrT W) (n : Int) (_ : (Lit.int .i64 n).wf = true) (a : Option Addr) (c : Nat) (ls : List Act10) (hr : Rd W a (ls.flatMap actCells)) (hl : ls.length ≤ 9223372036854775807) (x : Act10) :
    Calls Tryd.prog 15 #[.int .i64 n, .slice a ls.length c, actVal x] W (TruePost W) := faceSplits_walk n a c ls x W hE hr hl
end Go.Proofs.YtjmkejkhpdhhbaaDoor
