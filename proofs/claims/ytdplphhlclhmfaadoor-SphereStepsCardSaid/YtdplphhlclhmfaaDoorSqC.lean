/- Chapter 12's laws: SphereSteps. -/
import Derived.Test.YtdplphhlclhmfaaDoorSpX
import Derived.Test.YtdplphhlclhmfaaDoorSpT
import Derived.Deep.RegionHeld3
namespace Go.Proofs.YtdplphhlclhmfaaDoor
open Go Go.RowKit
set_option linter.unusedVariables false
set_option linter.unusedSimpArgs false
set_option maxRecDepth 100000

set_option maxHeartbeats 8000000 in
theorem sphereSteps_walk (n : Int) (a : Option Addr) (c : Nat) (ls : List Act10) (x : Act10) (w : World) (hE : ErrT w) (hz : Rd w a (actsV ls)) (hzl : ls.length ≤ 9223372036854775807) :
    Calls Tryd.prog 5 #[.int .i64 n, .slice a ls.length c, actVal x] w (TruePost w) := by
  obtain ⟨kind, e0, ⟨a1, a2⟩, ⟨b1, b2⟩⟩ := x
  generalize hW : w.alloc (.cells #[.int .i64 kind, .int .i64 e0, .int .i64 a1, .int .i64 a2, .int .i64 b1, .int .i64 b2] 47) = w0
  have hK0 : Keeps (fun _ => False) w w0 := by rw [← hW]; exact (Keeps.refl _ _).alloc _
  have hBA : Blk w0 w.heap.size #[.int .i64 kind, .int .i64 e0, .int .i64 a1, .int .i64 a2, .int .i64 b1, .int .i64 b2] 47 := by rw [← hW]; exact Blk.new _ _ _
  have HK0 := Lib.hid hK0
  have HBA0 := Lib.hid hBA
  have HM := Lib.hid (made12 n a c ls w0 (hE.keep hK0) (hz.keep hK0) hzl)
  have HE0 := Lib.hid (hE.keep hK0)
  clear hE hz hBA hK0
  have HSU := Lib.hid (fun W => sure12 W)
  unfold TruePost at HSU
  unfold MadePost tptr rval at HM
  unfold TruePost actVal
  go_enter Tryd.func5, Tryd.ntmps5
  go_upto_region 1 with fail
  clear hW
  go_wp2_with fail
  with_reducible refine HM.out.mono ?_
  rintro e w1 ⟨L, p, own, B, va, vc, rfl, hl1, hl6, hb⟩
  have hbx : BothAt w0 own p 8 B L (.slice va L.length vc) (w1.alloc (.cells #[.int .i64 8, .slice va L.length vc] 27)) := hb.keep ((Keeps.refl _ _).alloc _)
  have HB := Lib.hid hbx
  have HX : Hid (Blk (w1.alloc (.cells #[.int .i64 8, .slice va L.length vc] 27)) w1.heap.size #[.int .i64 8, .slice va L.length vc] 27) := Lib.hid (Blk.new _ _ _)
  have HNB : Hid (∀ k, own k → k < w1.heap.size) := Lib.hid fun k q => hb.tu.lt k q
  clear hb hbx HM
  go_upto_region 2 with fail
  generalize w1.alloc _ = w2 at *
  generalize w1.heap.size = bx at *
  have h8 : ((8 : Nat) : Int) = 8 := rfl
  have HG := Lib.hid HB.out.good
  have HKB := Lib.hid (HK0.out.trans' HB.out.kp)
  have HAC : Hid (Blk w2 w.heap.size #[.int .i64 kind, .int .i64 e0, .int .i64 a1, .int .i64 a2, .int .i64 b1, .int .i64 b2] 47) := Lib.hid (HBA0.out.kept HB.out.kp id)
  have HCO := Lib.hid (fun W (hk : Keeps (fun _ => False) w2 W) (q : Int × Int) => corner12 (HB.out.ls.keep hk) HB.out.good.toWF hl1 (by omega) (by decide) q false)
  have HTS := Lib.hid (fun W (hk : Keeps (fun _ => False) w2 W) (y z : Int × Int) => slegal (HB.out.tu.keep hk) HB.out.good y z)
  have HLS := Lib.hid (fun W (hk : Keeps (fun _ => False) w2 W) => HB.out.ls.keep hk)
  have HTH := Lib.hid (fun W (hk : Keeps (fun _ => False) w2 W) (x : Nat) => thas (HB.out.tu.keep hk) ((x : Nat) : Int))
  have HTU := Lib.hid (fun W (hk : Keeps (fun _ => False) w2 W) => HB.out.tu.keep hk)
  have HLOW := Lib.hid (fun k (q : own k) => HB.out.low k q)
  have HW02 := Lib.hid HB.out.kp.size
  clear HB HE0 HBA0
  unfold rval RetPost cArr at HCO
  unfold tptr RetPost cval at HTS
  unfold tptr RetPost at HTH
  simp only [h8] at HCO
  have HDEC : Hid (∀ x : Nat, x < 8 → decide ((0 : Int) ≤ (x : Int) ∧ (x : Int) < ((8 : Nat) : Int) ∧ Stands L (2 * ((x : Nat) : Int).toNat)) = decide (Stands L (2 * x))) := Lib.hid fun x hx => by
    rw [Bool.eq_iff_iff, decide_eq_true_iff, decide_eq_true_iff, Int.toNat_natCast]
    exact ⟨fun q => q.2.2, fun q => ⟨by omega, by omega, q⟩⟩
  obtain ⟨i0, hi, hz0, hz1, hz2⟩ := info_parts infoI
  go_upto_block 0 with fail
  go_cut [10] (fun s wc => Hid (∃ (la : Option Addr) (lc : Nat), s = .slice la L.length lc ∧ Rd wc la (nats (List.range L.length)) ∧ Fresh w2.heap.size la ∧ Keeps (fun _ => False) w2 wc))
  case first =>
    as_aux_lemma =>
    go_wp2_with fail
    go_loopw [10, 11] (fun t i wx => ∃ (d : Nat), d ≤ L.length ∧ i = .int .i64 (d : Int) ∧ Hid (wx.ownsRow w2.heap.size 3 1 t d (nats (List.range d)) ∧ Keeps (fun _ => False) w2 wx)) (fun _ i _ => L.length - (intOf i).toNat)
    case atStart => exact ⟨0, Nat.zero_le _, rfl, Lib.hid ⟨World.ownsRow_nil _ _ _ _, Keeps.refl _ _⟩⟩
    case round =>
      obtain ⟨d, hd, rfl, HR⟩ := hrel
      obtain ⟨y0, y1, _, _, _⟩ := (HX.out.kept HR.out.2 id).cells
      by_cases hlt2 : d < L.length
      · have hdI : (d : Int) < (L.length : Int) := by omega
        have hown := HR.out.1
        have hB6 := HR.out.2.size
        go_wp2_with (first | (at_builtin; refine wpList_app1 rfl _ _ 23 rfl w2.heap.size 3 i0 (.int .i64 0) 1 8 Tryd.underlying23 hi hz0 hz1 hz2 rfl (by decide) _ _ _ rfl hown _ 1 1 [.int .i64 (d : Int)] 3 rfl rfl rfl ?c1 ?c2 ?c3 ?c4 ?_))
        case c1 => simp [Value.oneCell']
        case c2 => unfold maxLen; omega
        case c3 => omega
        case c4 => exact hB6
        intro v7 w7 ho hk7 _ _ _
        have HN : Hid (w7.ownsRow w2.heap.size 3 1 v7 (d + 1) (nats (List.range (d + 1))) ∧ Keeps (fun _ => False) w2 w7) := by
          refine Lib.hid ⟨?_, HR.out.2.thin hk7 fun i e => (HR.out.1.lt i e).1⟩
          rw [List.range_succ, nats_append]; exact ho
        clear ho hk7 hown
        go_wp2_with fail
        exact ⟨⟨d + 1, by omega, by first | rfl | trivial, HN⟩, by simp [intOf]; omega⟩
      · obtain rfl : d = L.length := by omega
        have HR0 := HR
        go_wp2_with fail
        go_meet
        obtain ⟨la, lc, e, hrd, _⟩ := Rd.of_own HR0.out.1
        have hfr := Fresh.of_own HR0.out.1 e (Nat.le_refl _)
        subst e
        exact Lib.hid ⟨la, lc, rfl, hrd, hfr, HR0.out.2⟩
  case rest =>
    obtain ⟨la, lc, rfl, hrl, hfl, hkl⟩ := hcut.out
    have HRL := Lib.hid hrl
    have HFL := Lib.hid hfl
    have HKL := Lib.hid hkl
    clear hcut hrl hfl hkl hi hz0 hz1 hz2 i0
    obtain ⟨wl, rfl⟩ : ∃ wl, wl = wc := ⟨_, rfl⟩
    go_upto_block 2 with fail
    go_cut [12] (fun f wc => Hid (∃ z : Int, f = .int .i64 z ∧ (z = -1 ∨ ∃ m : Nat, z = m ∧ m < 8 ∧ ¬ Stands L (2 * m)) ∧ Keeps (fun _ => False) wl wc))
    case first =>
      as_aux_lemma =>
      go_wp2_with fail
      go_loopw [12, 13] (fun f i wr => ∃ (k : Nat), k ≤ 8 ∧ i = .int .i64 (k : Int) ∧ ∃ z : Int, f = .int .i64 z ∧ Hid ((z = -1 ∨ ∃ m : Nat, z = m ∧ m < 8 ∧ ¬ Stands L (2 * m)) ∧ Keeps (fun _ => False) wl wr)) (fun _ i _ => 8 - (intOf i).toNat)
      case atStart => exact ⟨0, by decide, rfl, -1, rfl, Lib.hid ⟨Or.inl rfl, Keeps.refl _ _⟩⟩
      case round =>
        obtain ⟨k, hk8, rfl, z, rfl, HR⟩ := hrel
        by_cases hlt : k < 8
        · have hHS := HTH.out _ (HKL.out.trans' HR.out.2) k
          rw [HDEC.out k hlt] at hHS
          have HHS := Lib.hid hHS
          clear hHS
          by_cases hs : Stands L (2 * k)
          · rw [decide_eq_true hs] at HHS
            clear hs
            go_wp2_with fail
            with_reducible refine HHS.out.mono ?_
            rintro e w5 ⟨rfl, hk⟩
            have HR2 : Hid ((z = -1 ∨ ∃ m : Nat, z = m ∧ m < 8 ∧ ¬ Stands L (2 * m)) ∧ Keeps (fun _ => False) wl w5) := Lib.hid ⟨HR.out.1, HR.out.2.trans' hk⟩
            clear hk HR HHS
            go_wp2_with fail
            exact ⟨⟨k + 1, by omega, by simp, z, rfl, HR2⟩, by simp [intOf]; omega⟩
          · rw [decide_eq_false hs] at HHS
            have HSS := Lib.hid hs
            clear hs
            go_wp2_with fail
            with_reducible refine HHS.out.mono ?_
            rintro e w5 ⟨rfl, hk⟩
            have HR2 : Hid (((k : Int) = -1 ∨ ∃ m : Nat, (k : Int) = m ∧ m < 8 ∧ ¬ Stands L (2 * m)) ∧ Keeps (fun _ => False) wl w5) := Lib.hid ⟨Or.inr ⟨k, rfl, hlt, HSS.out⟩, HR.out.2.trans' hk⟩
            clear hk HR HHS
            go_wp2_with fail
            exact ⟨⟨k + 1, by omega, by simp, (k : Int), rfl, HR2⟩, by simp [intOf]; omega⟩
        · obtain rfl : k = 8 := by omega
          go_wp2_with fail
          go_meet
          exact Lib.hid ⟨z, rfl, HR.out⟩
    case rest =>
      obtain ⟨z, rfl, hz, hkc⟩ := hcut.out
      have HZ := Lib.hid hz
      have HKR := Lib.hid (HKL.out.trans' hkc)
      have HRL2 := Lib.hid (HRL.out.keep hkc)
      clear hcut hz hkc HTH HDEC HRL HKL
      have HCA := Lib.hid (fun W (hk : Keeps (fun _ => False) wc W) => HCO.out W (HKR.out.trans' hk) (a1, a2))
      have HCB := Lib.hid (fun W (hk : Keeps (fun _ => False) wc W) => HCO.out W (HKR.out.trans' hk) (b1, b2))
      have HOKA : Hid (chkErr L (crnR L (a1, a2) false).1 (crnR L (a1, a2) false).2 = 0) := Lib.hid (crn_ok hl1 (a1, a2))
      have HOKB : Hid (chkErr L (crnR L (b1, b2) false).1 (crnR L (b1, b2) false).2 = 0) := Lib.hid (crn_ok hl1 (b1, b2))
      generalize crnR L (a1, a2) false = ca at *
      generalize crnR L (b1, b2) false = cb at *
      obtain ⟨ca1, ca2⟩ := ca
      obtain ⟨cb1, cb2⟩ := cb
      simp only at HCA HCB HOKA HOKB
      obtain ⟨t0, t1, _, _, tl⟩ := (HX.out.kept HKR.out id).cells
      have hac := HAC.out.kept HKR.out id
      have a0 := hac.cell (i := 2)
      have a1' := hac.cell (i := 3)
      have b0 := hac.cell (i := 4)
      have b1' := hac.cell (i := 5)
      have hal := hac.lt
      simp only [List.getElem?_toArray, List.getElem?_cons_zero, List.getElem?_cons_succ] at a0 a1' b0 b1'
      clear hac HCO
      go_upto_region 15 with fail
      go_cut [14, 15] (fun s t wd => Hid (∃ pa pb, s = .pointer (some ⟨pa, 0, none⟩) ∧ t = .pointer (some ⟨pb, 0, none⟩) ∧ Blk wd pa #[.int .i64 ca1, .int .i64 ca2] 45 ∧ Blk wd pb #[.int .i64 cb1, .int .i64 cb2] 45 ∧ wc.heap.size ≤ pa ∧ wc.heap.size ≤ pb ∧ Keeps (fun _ => False) wc wd))
      case first =>
        have hK0 : Keeps (fun _ => False) wc wc := Keeps.refl _ _
        have hK : Keeps (fun _ => False) wc wc.drew := (Keeps.refl _ _).drew
        go_region_held3 (fun w' => w'.cell? ⟨bx, 0, none⟩ = some (.int .i64 8) ∧ w'.cell? ⟨bx, 1, none⟩ = some (.slice va L.length vc) ∧ w'.cell? ⟨w.heap.size, 2, none⟩ = some (.int .i64 a1) ∧ w'.cell? ⟨w.heap.size, 3, none⟩ = some (.int .i64 a2) ∧ w'.cell? ⟨w.heap.size, 4, none⟩ = some (.int .i64 b1) ∧ w'.cell? ⟨w.heap.size, 5, none⟩ = some (.int .i64 b2))
          (first | (with_reducible exact six_keep hK t0 t1 a0 a1' b0 b1') | (with_reducible exact six_keep (hK.alloc _) t0 t1 a0 a1' b0 b1') | (with_reducible exact six_keep ((hK.alloc _).alloc _) t0 t1 a0 a1' b0 b1') | (with_reducible exact six_keep (set2_keep hK (by first | omega | (simp; omega))) t0 t1 a0 a1' b0 b1') | (with_reducible exact six_keep (set2_keep (hK.alloc _) (by first | omega | (simp; omega))) t0 t1 a0 a1' b0 b1') | (with_reducible exact six_keep ((set2_keep hK (by first | omega | (simp; omega))).alloc _) t0 t1 a0 a1' b0 b1') | (with_reducible exact six_keep (set2_keep (set2_keep hK (by first | omega | (simp; omega))) (by first | omega | (simp; omega))) t0 t1 a0 a1' b0 b1') | (with_reducible exact six_keep (set2_keep ((hK.alloc _).alloc _) (by first | omega | (simp; omega))) t0 t1 a0 a1' b0 b1') | (with_reducible exact six_keep (set2_keep (set2_keep (hK.alloc _) (by first | omega | (simp; omega))) (by first | omega | (simp; omega))) t0 t1 a0 a1' b0 b1') | (with_reducible exact six_keep (set2_keep ((set2_keep hK (by first | omega | (simp; omega))).alloc _) (by first | omega | (simp; omega))) t0 t1 a0 a1' b0 b1') | (with_reducible exact six_keep (set2_keep (set2_keep ((hK.alloc _).alloc _) (by first | omega | (simp; omega))) (by first | omega | (simp; omega))) t0 t1 a0 a1' b0 b1') | (with_reducible exact six_keep (hK0.alloc _).drew t0 t1 a0 a1' b0 b1') | (with_reducible exact six_keep ((hK0.alloc _).alloc _).drew t0 t1 a0 a1' b0 b1'))
          (first
            | (go_at_call 18; with_reducible refine (HCA.out _ (by first | exact hK | exact (hK0.alloc _).drew | exact ((hK0.alloc _).alloc _).drew)).mono ?_; rintro e5 w5 ⟨rfl, hk5⟩; have hK : Keeps (fun _ => False) wc w5 := (by first | exact hK.trans' hk5 | exact (hK0.alloc _).drew.trans' hk5 | exact ((hK0.alloc _).alloc _).drew.trans' hk5); have hs5 : wc.heap.size ≤ w5.heap.size := hK.size; (first | (with_reducible have hz1 := box2_keptD hk5; (first | simp only [size_alloc, size_drew] at hz1 | skip); obtain ⟨z10, z11, zf10, zf11, zl1⟩ := hz1.cells) | skip); (first | (with_reducible have hz2 := box2_keptD2 hk5; (first | simp only [size_alloc, size_drew] at hz2 | skip); obtain ⟨z20, z21, zf20, zf21, zl2⟩ := hz2.cells) | skip))
            | (go_at_call 18; with_reducible refine (HCB.out _ (by first | exact hK | exact hK.alloc _ | exact (hK.alloc _).alloc _)).mono ?_; rintro e6 w6 ⟨rfl, hk6⟩; have hK : Keeps (fun _ => False) wc w6 := (by first | exact hK.trans' hk6 | exact (hK.alloc _).trans' hk6 | exact ((hK.alloc _).alloc _).trans' hk6); have hs6 : wc.heap.size ≤ w6.heap.size := hK.size; (first | (with_reducible have hy1 := hz1.kept hk6 id) | (with_reducible have hy1 := (hz1.alloc _).kept hk6 id) | (with_reducible have hy1 := ((hz1.alloc _).alloc _).kept hk6 id) | skip); (first | (with_reducible have hy2 := hz2.kept hk6 id) | (with_reducible have hy2 := (hz2.alloc _).kept hk6 id) | skip); (first | (with_reducible have hy3 := box2_kept hk6; simp only [size_alloc, size_drew] at hy3) | (with_reducible have hy3 := box2_kept hk6) | skip); (first | (with_reducible have hy4 := box2_kept2 hk6; simp only [size_alloc, size_drew] at hy4) | (with_reducible have hy4 := box2_kept2 hk6) | skip); (first | (obtain ⟨y10, y11, yf10, yf11, yl1⟩ := hy1.cells) | skip); (first | (obtain ⟨y20, y21, yf20, yf21, yl2⟩ := hy2.cells) | skip); (first | (obtain ⟨y30, y31, yf30, yf31, yl3⟩ := hy3.cells) | skip); (first | (obtain ⟨y40, y41, yf40, yf41, yl4⟩ := hy4.cells) | skip))
            | fail)
        all_goals
          go_wp2_with fail
          go_meet
          refine Lib.hid ⟨_, _, rfl, rfl, ?_, ?_, by first | omega | (simp; omega) | simp, by first | omega | (simp; omega) | simp, ?_⟩
          · repeat (first | with_reducible exact Blk.new _ _ _ | with_reducible exact hy1 | with_reducible exact hy2 | with_reducible exact hy3 | with_reducible exact hy4 | with_reducible refine Blk.set2 (x := .int .i64 0) (y := .int .i64 0) ?_ | with_reducible refine Blk.oth2 ?_ (by first | omega | (simp; omega)) | with_reducible exact Blk.newAt _ _ _ (by simp) | with_reducible refine Blk.alloc ?_ _)
          · repeat (first | with_reducible exact Blk.new _ _ _ | with_reducible exact hy1 | with_reducible exact hy2 | with_reducible exact hy3 | with_reducible exact hy4 | with_reducible refine Blk.set2 (x := .int .i64 0) (y := .int .i64 0) ?_ | with_reducible refine Blk.oth2 ?_ (by first | omega | (simp; omega)) | with_reducible exact Blk.newAt _ _ _ (by simp) | with_reducible refine Blk.alloc ?_ _)
          · repeat (first | with_reducible exact hK | with_reducible refine set2_keep ?_ (by first | omega | (simp; omega)) | with_reducible refine Keeps.alloc ?_ _)
      case rest =>
        obtain ⟨pa, pb, rfl, rfl, hba, hbb, hpa, hpb, hkd⟩ := hcut.out
        have KD := Lib.hid (HKR.out.trans' hkd)
        obtain ⟨y0, y1, _, _, yl⟩ := hba.cells
        obtain ⟨z0, z1, _, _, zl⟩ := hbb.cells
        have HPA := Lib.hid hba
        have HPB := Lib.hid hbb
        have HPL : Hid (bx < pa ∧ bx < pb) := Lib.hid (by have h1 := HX.out.lt; have h2 := HKR.out.size; omega)
        have HRL3 := Lib.hid (HRL2.out.keep hkd)
        clear hcut hba hbb hkd hpa hpb t0 t1 a0 a1' b0 b1' HCA HCB HAC tl hal HKR
        go_upto_region 16 with fail
        go_cut [16, 17] (fun s t we => Hid (∃ qa qb, s = .pointer (some ⟨qa, 0, none⟩) ∧ t = .pointer (some ⟨qb, 0, none⟩) ∧ Blk we qa #[.int .i64 ca1, .int .i64 ca2] 51 ∧ Blk we qb #[.int .i64 cb1, .int .i64 cb2] 51 ∧ wc.heap.size ≤ qa ∧ wc.heap.size ≤ qb ∧ Keeps (fun _ => False) wc we))
        case first =>
          as_aux_lemma =>
          go_region
          all_goals
            go_wp2_with fail
            go_meet
            refine Lib.hid ⟨_, _, rfl, rfl, ?_, ?_, ?_, ?_, (((Keeps.refl _ _).alloc _).alloc _).drew⟩
            · first | with_reducible exact ((Blk.new _ _ _).alloc _).drew | with_reducible exact (Blk.newAt _ _ _ (by simp)).drew
            · first | with_reducible exact ((Blk.new _ _ _).alloc _).drew | with_reducible exact (Blk.newAt _ _ _ (by simp)).drew
            · first | omega | (simp; omega) | simp
            · first | omega | (simp; omega) | simp
        case rest =>
          obtain ⟨qa, qb, rfl, rfl, hqa, hqb, hla, hlb, hke⟩ := hcut.out
          have KE := Lib.hid (KD.out.trans' hke)
          have QA := Lib.hid hqa
          have QB := Lib.hid hqb
          have HRL4 := Lib.hid (HRL3.out.keep hke)
          have PA4 := Lib.hid (HPA.out.kept hke id)
          have PB4 := Lib.hid (HPB.out.kept hke id)
          have HNP : Hid (¬ own pa ∧ ¬ own pb ∧ ∀ b off, la = some ⟨b, off, none⟩ → ¬ own b) := by
            have h1 := HPL.out
            have h2 := HX.out.lt
            exact Lib.hid ⟨fun q => by have := HNB.out _ q; omega, fun q => by have := HNB.out _ q; omega, fun b off e q => by have h3 := HFL.out b off e; have := HNB.out _ q; omega⟩
          clear HPA HPB HRL3 HPL HFL
          have HNQ : Hid (¬ own bx ∧ ¬ own qa ∧ ¬ own qb) := by
            have hb0 := HX.out.lt
            have hb1 := KD.out.size
            exact Lib.hid ⟨fun q => by have := HNB.out _ q; omega, fun q => by have := HNB.out _ q; omega, fun q => by have := HNB.out _ q; omega⟩
          clear hcut hqa hqb hke hla hlb y0 y1 z0 z1 yl zl KD
          have hse : sameErr L (ca1, ca2) (cb1, cb2) = 0 := by
            unfold sameErr
            rw [if_neg (by rw [HOKA.out]; exact fun q => q rfl)]
            exact HOKB.out
          have HSM := Lib.hid (fun W hk => HTS.out W hk (ca1, ca2) (cb1, cb2))
          have hdd : decide (sameErr L (ca1, ca2) (cb1, cb2) = 0 ∧ legalC L 8 (ca1, ca2) (cb1, cb2)) = decide (legalC L 8 (ca1, ca2) (cb1, cb2)) := by rw [Bool.eq_iff_iff, decide_eq_true_iff, decide_eq_true_iff, hse]; simp
          obtain ⟨r, hr⟩ : ∃ r, decide (legalC L 8 (ca1, ca2) (cb1, cb2)) = r := ⟨_, rfl⟩
          have hdr := hdd.trans hr
          rw [hdr, hse, errVal_zero] at HSM
          have HRE := Lib.hid hr
          clear hse hdd hdr HTS hr
          obtain ⟨c0, c1, _, _, _⟩ := QA.out.cells
          obtain ⟨d0, d1, _, _, _⟩ := QB.out.cells
          go_wp2_with fail
          with_reducible refine (HSM.out _ KE.out).mono ?_
          rintro e w5 ⟨rfl, hk⟩
          have K5 := Lib.hid (KE.out.trans' hk)
          have QA5 := Lib.hid (QA.out.kept hk id)
          have QB5 := Lib.hid (QB.out.kept hk id)
          have HRL5 := Lib.hid (HRL4.out.keep hk)
          have PA5 := Lib.hid (PA4.out.kept hk id)
          have PB5 := Lib.hid (PB4.out.kept hk id)
          clear hk c0 c1 d0 d1 QA QB KE HSM HRL4 PA4 PB4
          obtain ⟨xa, hxa, lA, hlA, _⟩ := chk_ok HOKA.out
          obtain ⟨xb, hxb, lB, hlB, _⟩ := chk_ok HOKB.out
          have hxaN := (List.getElem?_eq_some_iff.1 hlA).1
          have hxbN := (List.getElem?_eq_some_iff.1 hlB).1
          subst hxa hxb
          clear hlA hlB
          have HSC : Hid (∀ W, Keeps (fun _ => False) w2 W → Rd W la (nats (List.range L.length)) → Calls Tryd.prog 12 #[tptr p, .slice la L.length lc] W (RetPost (.tuple #[.agg #[.int .i64 (L.length : Nat), .int .i64 (laidN L 8 : Nat), .int .i64 (((faces L 8).length + emp L : Nat)), .int .i64 (many (grp L 8) : Nat)], .nilIface]) W)) := Lib.hid fun W hk hr => by
            have h1 := scount (HTU.out W hk) HG.out la lc (List.range L.length) (by rw [← nats_i64s]; exact hr) (by rw [List.length_range]; omega) (VOk.range L).chk (VOk.range L).lt
            rw [List.length_range, cntM_range HG.out] at h1
            exact h1
          have HGR := Lib.hid (fun W (hk : Keeps (fun _ => False) w2 W) => rgroupsF (HLS.out W hk) HG.out hl1 (by omega) (by decide))
          have hgl : (grp L 8).length = L.length := (grp_ok HG.out).len
          have hE0 : laidN L 8 ≤ 8 := laidN_le L 8
          have hG0 : many (grp L 8) ≤ L.length := by
            unfold many
            rw [hgl]
            have := List.countP_le_length (p := fun v => decide ((grp L 8).getD v 0 = v)) (l := List.range L.length)
            rwa [List.length_range] at this
          have hG1 : 1 ≤ many (grp L 8) := by
            unfold many
            rw [hgl]
            refine List.countP_pos_iff.2 ⟨0, List.mem_range.2 hl1, decide_eq_true ?_⟩
            have := (grp_ok HG.out).le 0 hl1
            omega
          have hF0 : (faces L 8).length + emp L ≤ 22 := by
            have h1 : (faces L 8).length ≤ 16 := facesN_le _
            have h2 : emp L ≤ L.length := cnt_top _ _
            omega
          have HSTM := Lib.hid (fun m hm8 hns hg2 => steps12 (e := m) (a := ((xa : Int), ca2)) (b := ((xb : Int), cb2)) HG.out hm8 hns HOKA.out HOKB.out hg2)
          simp only [Int.toNat_natCast] at HSTM
          generalize laidN L 8 = E0 at *
          generalize (faces L 8).length + emp L = F0 at *
          generalize many (grp L 8) = G0 at *
          unfold tptr RetPost at HSC
          unfold LstFPost rval at HGR
          rw [hgl] at HGR
          simp only [h8] at HGR
          go_wp2_with fail
          with_reducible refine (HSC.out _ K5.out HRL5.out).mono ?_
          rintro e w6 ⟨rfl, hk⟩
          have hk' := hk.alloc (.cells #[.int .i64 (L.length : Nat), .int .i64 (E0 : Nat), .int .i64 (F0 : Nat), .int .i64 (G0 : Nat)] 32)
          have K6 := Lib.hid (K5.out.trans' hk')
          have QA6 := Lib.hid (QA5.out.kept hk' id)
          have QB6 := Lib.hid (QB5.out.kept hk' id)
          have PA6 := Lib.hid (PA5.out.kept hk' id)
          have PB6 := Lib.hid (PB5.out.kept hk' id)
          have HRL6 := Lib.hid (HRL5.out.keep hk')
          have CB6 := Lib.hid (Blk.new w6 #[.int .i64 (L.length : Nat), .int .i64 (E0 : Nat), .int .i64 (F0 : Nat), .int .i64 (G0 : Nat)] 32)
          have HCBX : Hid (bx < w6.heap.size) := Lib.hid (by
            have h1 := HX.out.lt
            have h2 := (K5.out.trans' hk).size
            omega)
          clear hk hk' K5 QA5 QB5 PA5 PB5 HRL5 HSC
          go_upto_region 19 with fail
          have HSZ : Hid (w6.heap.size < (World.alloc w6 (.cells #[.int .i64 (L.length : Nat), .int .i64 (E0 : Nat), .int .i64 (F0 : Nat), .int .i64 (G0 : Nat)] 32)).heap.size) := Lib.hid CB6.out.lt
          generalize World.alloc w6 _ = w6b at *
          generalize w6.heap.size = cb at *
          rcases HZ.out with hz | ⟨m, hz, hm8, hns⟩
          · subst hz
            have HKF := Lib.hid (HKB.out.trans' K6.out)
            clear HZ
            go_wp2_with fail
            with_reducible refine (HSU.out _).mono ?_
            rintro e w8 ⟨rfl, hk⟩
            have HF := Lib.hid (HKF.out.trans' hk)
            clear hk
            go_wp2_with fail
            go_ret
            exact ⟨rfl, HF.out⟩
          · subst hz
            have hle : layErr 8 L (m : Int) ((xa : Int), ca2) ((xb : Int), cb2) = 0 := by
              unfold layErr
              rw [if_neg (by omega), Int.toNat_natCast, if_neg hns, if_neg (by rw [HOKA.out]; exact fun q => q rfl)]
              exact HOKB.out
            have hly : lay 8 L (m : Int) ((xa : Int), ca2) ((xb : Int), cb2) = layL L m ((xa : Int), ca2) ((xb : Int), cb2) := by
              unfold lay
              rw [if_pos hle, Int.toNat_natCast]
            have hg2 := HG.out.lay (m : Int) ((xa : Int), ca2) ((xb : Int), cb2)
            rw [hly] at hg2
            have HG2 := Lib.hid hg2
            have HLY : Hid (∀ W, Keeps (fun _ => False) w2 W → Calls Tryd.prog 24 #[tptr p, .int .i64 (m : Int), cval (xa : Int) ca2, cval (xb : Int) cb2] W (TPost own p 8 (layL L m ((xa : Int), ca2) ((xb : Int), cb2)) .nilIface W)) := Lib.hid fun W hk => by
              have := tlay (HTU.out W hk) HG.out (m : Int) ((xa : Int), ca2) ((xb : Int), cb2)
              rw [hle, hly, errVal_zero] at this
              exact this
            have HST := Lib.hid (HSTM.out m hm8 hns hg2)
            have hm0 : decide ((m : Int) < 0) = false := by simp
            unfold tptr cval TPost at HLY
            clear HZ hns hle hly hg2 HOKA HOKB hm8
            have HSC2 : Hid (∀ W, Tu W own p 8 (layL L m ((xa : Int), ca2) ((xb : Int), cb2)) → Rd W la (nats (List.range L.length)) → Calls Tryd.prog 12 #[tptr p, .slice la L.length lc] W (RetPost (.tuple #[.agg #[.int .i64 (L.length : Nat), .int .i64 (laidN (layL L m ((xa : Int), ca2) ((xb : Int), cb2)) 8 : Nat), .int .i64 (((faces (layL L m ((xa : Int), ca2) ((xb : Int), cb2)) 8).length + emp (layL L m ((xa : Int), ca2) ((xb : Int), cb2)) : Nat)), .int .i64 (many (grp (layL L m ((xa : Int), ca2) ((xb : Int), cb2)) 8) : Nat)], .nilIface]) W)) := Lib.hid fun W ht hr => by
              have hL := HST.out.1
              rw [← hL] at hr ⊢
              have h1 := scount ht HG2.out la lc (List.range (layL L m ((xa : Int), ca2) ((xb : Int), cb2)).length) (by rw [← nats_i64s]; exact hr) (by rw [List.length_range]; omega) (VOk.range _).chk (VOk.range _).lt
              rw [List.length_range, cntM_range HG2.out] at h1
              exact h1
            unfold tptr RetPost at HSC2
            generalize layL L m ((xa : Int), ca2) ((xb : Int), cb2) = L2 at *
            generalize laidN L2 8 = E1 at *
            generalize (faces L2 8).length + emp L2 = F1 at *
            generalize many (grp L2 8) = G1 at *
            obtain ⟨_, hst2, hst3, hst4⟩ := HST.out
            have hLG : legalC L 8 ((xa : Int), ca2) ((xb : Int), cb2) ↔ r = true := by rw [← HRE.out, decide_eq_true_iff]
            rw [hLG] at hst3 hst4
            have HS2 := Lib.hid hst2
            have HS3 := Lib.hid hst3
            have HS4 := Lib.hid hst4
            clear HST hst2 hst3 hst4 hLG HRE
            obtain ⟨x0, x1, _, _, _⟩ := (HX.out.kept K6.out id).cells
            go_wp2_with fail
            with_reducible refine (HGR.out _ K6.out).mono ?_
            rintro e w7 ⟨ga, gc, rfl, hrg, hk, hfg⟩
            have K7 := Lib.hid (K6.out.trans' hk)
            have QA7 := Lib.hid (QA6.out.kept hk id)
            have QB7 := Lib.hid (QB6.out.kept hk id)
            have PA7 := Lib.hid (PA6.out.kept hk id)
            have PB7 := Lib.hid (PB6.out.kept hk id)
            have CB7 := Lib.hid (CB6.out.kept hk id)
            have HRL7 := Lib.hid (HRL6.out.keep hk)
            have HRG7 := Lib.hid hrg
            have HFG7 : Hid (∀ b off, ga = some ⟨b, off, none⟩ → ¬ own b) := Lib.hid fun b off e q => by
              have h1 := hfg b off e
              have h2 := HNB.out _ q
              have h3 := HCBX.out
              have h4 := HSZ.out
              omega
            obtain ⟨c0, c1, _, _, _⟩ := QA7.out.cells
            obtain ⟨d0, d1, _, _, _⟩ := QB7.out.cells
            clear hrg hk hfg K6 QA6 QB6 PA6 PB6 CB6 HRL6 HGR x0 x1
            go_upto_region 22 with fail
            go_wp2_with fail
            with_reducible refine (HLY.out _ K7.out).mono ?_
            rintro e w8 ⟨rfl, ht8, hk⟩
            have HT8 := Lib.hid ht8
            have CB8 := Lib.hid (CB7.out.kept hk fun q => by have h1 := HNB.out _ q; have h2 := HCBX.out; omega)
            have PA8 := Lib.hid (PA7.out.kept hk HNP.out.1)
            have PB8 := Lib.hid (PB7.out.kept hk HNP.out.2.1)
            have HRL8 := Lib.hid (HRL7.out.kept hk HNP.out.2.2)
            have HRG8 := Lib.hid (HRG7.out.kept hk HFG7.out)
            have HK8 : Hid (Keeps (fun _ => False) w w8) := by
              refine Lib.hid ((HKB.out.trans' K7.out).thin hk fun q e => ?_)
              have h1 := (HLOW.out q e).1
              have h2 := HK0.out.size
              omega
            clear ht8 hk K7 QA7 QB7 PA7 PB7 CB7 HRL7 HRG7 HLY HTU c0 c1 d0 d1
            go_wp2_with fail
            with_reducible refine (HSC2.out _ HT8.out HRL8.out).mono ?_
            rintro e w9 ⟨rfl, hk⟩
            have hk' := hk.alloc (.cells #[.int .i64 (L.length : Nat), .int .i64 (E1 : Nat), .int .i64 (F1 : Nat), .int .i64 (G1 : Nat)] 32)
            have CB9 := Lib.hid (CB8.out.kept hk' id)
            have PA9 := Lib.hid (PA8.out.kept hk' id)
            have PB9 := Lib.hid (PB8.out.kept hk' id)
            have HRG9 := Lib.hid (HRG8.out.keep hk')
            have HK9 := Lib.hid (HK8.out.trans' hk')
            have DB9 := Lib.hid (Blk.new w9 #[.int .i64 (L.length : Nat), .int .i64 (E1 : Nat), .int .i64 (F1 : Nat), .int .i64 (G1 : Nat)] 32)
            clear hk hk' CB8 PA8 PB8 HRG8 HK8 HRL8 HT8 HSC2
            go_upto_region 25 with fail
            generalize World.alloc w9 _ = w10 at *
            generalize w9.heap.size = db at *
            obtain ⟨u0, u1, u2, u3⟩ := CB9.out.cells4
            obtain ⟨v0, v1, v2, v3⟩ := DB9.out.cells4
            obtain ⟨p0, _, _, _, _⟩ := PA9.out.cells
            obtain ⟨q0, _, _, _, _⟩ := PB9.out.cells
            have hw1 : IntKind.i64.wrap ((E0 : Int) + 1) = (E0 : Int) + 1 := by rw [IntKind.wrap_i64]; omega
            have hb1 : ((E1 : Int) != (E0 : Int) + 1) = false := by rw [bne_eq_false_iff_eq]; have := HS2.out; omega
            have hwG : IntKind.i64.wrap ((G0 : Int) - 1) = (G0 : Int) - 1 := by rw [IntKind.wrap_i64]; omega
            have hwF : IntKind.i64.wrap ((F0 : Int) - 1) = (F0 : Int) - 1 := by rw [IntKind.wrap_i64]; omega
            have hwF1 : IntKind.i64.wrap ((F0 : Int) + 1) = (F0 : Int) + 1 := by rw [IntKind.wrap_i64]; omega
            obtain ⟨b1, o1, rfl, ea⟩ := HRG9.out.nat (i := xa) (by omega)
            obtain ⟨b2, o2, e, eb⟩ := HRG9.out.nat (i := xb) (by omega)
            cases e
            have hxaI : (xa : Int) < (L.length : Int) := by omega
            have hxbI : (xb : Int) < (L.length : Int) := by omega
            clear HRG9 hgl
            generalize (grp L 8).getD xa 0 = za at *
            generalize (grp L 8).getD xb 0 = zb at *
            by_cases hzz : za = zb
            · obtain ⟨k1, k2, k3⟩ := HS4.out hzz
              have hne : ((za : Int) != (zb : Int)) = false := by rw [bne_eq_false_iff_eq]; omega
              have hbG : ((G1 : Int) == (G0 : Int)) = true := by rw [beq_iff_eq]; omega
              clear HS3 HS4 hzz k1
              cases r with
              | true =>
                have hbF : ((F1 : Int) == (F0 : Int) + 1) = true := by rw [beq_iff_eq]; have := k2 rfl; omega
                clear k2 k3
                go_upto_region 27 with fail
                go_quiet (fail)
                go_wp2_with fail
                with_reducible refine (HSU.out _).mono ?_
                rintro e w11 ⟨rfl, hk⟩
                have HF := Lib.hid (HK9.out.trans' (((Keeps.refl _ _).drewN _).trans' hk))
                clear hk
                go_wp2_with fail
                go_ret
                exact ⟨rfl, HF.out⟩
              | false =>
                have hbF : ((F1 : Int) == (F0 : Int) - 1) = true := by rw [beq_iff_eq]; have := k3 (by decide); omega
                clear k2 k3
                go_upto_region 27 with fail
                go_quiet (fail)
                go_wp2_with fail
                with_reducible refine (HSU.out _).mono ?_
                rintro e w11 ⟨rfl, hk⟩
                have HF := Lib.hid (HK9.out.trans' (((Keeps.refl _ _).drewN _).trans' hk))
                clear hk
                go_wp2_with fail
                go_ret
                exact ⟨rfl, HF.out⟩
            · obtain ⟨k1, k2, k3⟩ := HS3.out hzz
              have hne : ((za : Int) != (zb : Int)) = true := by rw [bne_iff_ne]; omega
              have hbG : ((G1 : Int) == (G0 : Int) - 1) = true := by rw [beq_iff_eq]; omega
              have hbF : ((F1 : Int) == (F0 : Int) - 1) = true := by rw [beq_iff_eq]; omega
              subst k1
              clear HS3 HS4 hzz k2 k3
              go_upto_region 27 with fail
              go_quiet (fail)
              go_wp2_with fail
              with_reducible refine (HSU.out _).mono ?_
              rintro e w11 ⟨rfl, hk⟩
              have HF := Lib.hid (HK9.out.trans' (((Keeps.refl _ _).drewN _).trans' hk))
              clear hk
              go_wp2_with fail
              go_ret
              exact ⟨rfl, HF.out⟩
theorem sphereSteps_enter (W : World) (hE : ErrT W) (n : Int) (_ : (Lit.int .i64 n).wf = true) (a : Option Addr) (c : Nat) (ls : List Act10) (hr : Rd W a (ls.flatMap actCells)) (hl : ls.length ≤ 9223372036854775807) (x : Act10) :
    Calls Tryd.prog 5 #[.int .i64 n, .slice a ls.length c, actVal x] W (TruePost W) := sphereSteps_walk n a c ls x W hE hr hl
end Go.Proofs.YtdplphhlclhmfaaDoor
