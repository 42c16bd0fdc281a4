/- Chapter 11's laws: FaceAts. -/
import Derived.Test.YtjmkejkhpdhhbaaDoorFlM
import Derived.Test.YtjmkejkhpdhhbaaDoorFlS
import Derived.Test.YtjmkejkhpdhhbaaDoorLwU
namespace Go.Proofs.YtjmkejkhpdhhbaaDoor
open Go Go.RowKit
set_option linter.unusedVariables false
set_option linter.unusedSimpArgs false
set_option maxRecDepth 100000

theorem chk_own {E : Nat} {L : List (List Nat)} (h : WF E L) {y : Nat} (hs : Stands L y) : chkErr L ((vtx L y : Nat) : Int) ((y : Nat) : Int) = 0 := by
  have hv := h.vtx_lt hs
  obtain ⟨v, l, i, hl, hi, rfl⟩ := stands_ex hs
  have e := (h.at_ hl hi).1
  rw [e] at hv ⊢
  unfold chkErr
  rw [if_neg (by omega), if_neg (by omega), Int.toNat_natCast, Int.toNat_natCast, if_neg]
  rintro (q | q)
  · omega
  · rw [getD_some hl] at q
    exact q (getD_mem hi)
theorem at_face {E : Nat} {L : List (List Nat)} (h : Good E L) {y : Nat} (hs : Stands L y) : nxt L y ∈ orb L E (tw y) := by
  have := itf_orb h (h.twin _ hs) 1
  have e : itf L (tw y) 1 = nxt L y := by show fnx L (tw y) = _; unfold fnx; rw [tw_tw]
  rwa [e] at this
theorem mem_dartsN {L : List (List Nat)} {n d : Nat} : d ∈ dartsN L n ↔ d < n ∧ Stands L d := by simp [dartsN]
set_option maxHeartbeats 4000000 in
theorem faceAts_walk (n : Int) (a : Option Addr) (c : Nat) (ls : List Act10) (d : Int) (w : World) (hE : ErrT w) (hz : Rd w a (actsV ls)) (hzl : ls.length ≤ 9223372036854775807) :
    Calls Tryd.prog 13 #[.int .i64 n, .slice a ls.length c, .int .i64 d] w (TruePost w) := by
  have HM := Lib.hid (made11 n a c ls w hE hz hzl)
  clear hE hz
  have HSU := Lib.hid (fun W => sure11 W)
  unfold TruePost at HSU
  unfold MadePost tptr rval at HM
  unfold TruePost
  go_enter Tryd.func13, Tryd.ntmps13
  go_wp2_with fail
  with_reducible refine HM.out.mono ?_
  rintro e w1 ⟨L, p, own, B, va, vc, rfl, hl1, hl6, hb⟩
  have hbx : BothAt w own p 8 B L (.slice va L.length vc) (w1.alloc (.cells #[.int .i64 8, .slice va L.length vc] 32)) := hb.keep ((Keeps.refl _ _).alloc _)
  have HB := Lib.hid hbx
  have HX : Hid (Blk (w1.alloc (.cells #[.int .i64 8, .slice va L.length vc] 32)) w1.heap.size #[.int .i64 8, .slice va L.length vc] 32) := Lib.hid (Blk.new _ _ _)
  clear hb hbx HM
  go_upto_region 2 with fail
  generalize w1.alloc _ = w2 at *
  generalize w1.heap.size = bx at *
  have h8 : ((8 : Nat) : Int) = 8 := rfl
  have HD := Lib.hid (rdarts HB.out.ls HB.out.good.toWF hl1 (by omega) (by decide))
  unfold DsPost rval at HD
  simp only [h8] at HD
  obtain ⟨x0, x1, _, _, _⟩ := HX.out.cells
  have hdl : (dartsN L (2 * 8)).length ≤ 16 := by
    unfold dartsN
    have := List.length_filter_le (fun d => decide (Stands L d)) (List.range (2 * 8))
    simpa using this
  have HMEM : Hid (∀ i, i < (dartsN L (2 * 8)).length → (dartsN L (2 * 8)).getD i 0 < 16 ∧ Stands L ((dartsN L (2 * 8)).getD i 0)) := fun i hi => mem_dartsN.1 (getD_mem hi)
  generalize dartsN L (2 * 8) = D at *
  go_upto_region 4 with fail
  go_wp2_with fail
  with_reducible refine HD.out.mono ?_
  rintro e w3 ⟨v3, rfl, hro, hk⟩
  obtain ⟨a3, c3, rfl, hrd, _⟩ := Rd.of_own hro
  have HB3 := Lib.hid (HB.out.keep hk)
  have HR3 := Lib.hid hrd
  clear hro hrd hk HD HB HX x0 x1
  go_upto_region 5 with fail
  by_cases hD0 : D.length = 0
  · have hlb : ((D.length : Int) == 0) = true := by simp [hD0]
    have HK := Lib.hid HB3.out.kp
    clear HB3 HR3
    go_wp2_with fail
    with_reducible refine (HSU.out _).mono ?_
    rintro e w8 ⟨rfl, hk⟩
    have HF := Lib.hid (HK.out.trans' hk)
    clear hk
    go_wp2_with fail
    go_ret
    exact ⟨rfl, HF.out⟩
  · have hDp : 0 < D.length := Nat.pos_of_ne_zero hD0
    have hlb : ((D.length : Int) == 0) = false := by rw [beq_eq_false_iff_ne]; omega
    have hl1' : (D.length : Int) ≠ 0 := by omega
    have hk := Nat.mod_lt (unsg d) hDp
    have HM2 := mod_valK d D.length hDp (by omega)
    have HM3 := mod_val d D.length hDp (by omega)
    obtain ⟨b, off, rfl, hcell⟩ := HR3.out.nat hk
    obtain ⟨hy16, hs⟩ := HMEM.out _ hk
    generalize D.getD (unsg d % D.length) 0 = y at *
    generalize unsg d % D.length = m at *
    have hml : (m : Int) < (D.length : Int) := by omega
    go_upto_region 8 with fail
    have hG := HB3.out.good
    have HTU := Lib.hid HB3.out.tu
    have HKW := Lib.hid HB3.out.kp
    have HOR := torigin HTU.out ((y : Nat) : Int)
    rw [dErr_stands hG.toWF hs, if_pos rfl, Int.toNat_natCast, errVal_zero] at HOR
    have HAT := fun W (hk : Keeps (fun _ => False) w3 W) => fat (HTU.out.keep hk) hG ((vtx L y : Nat) : Int) ((y : Nat) : Int)
    rw [chk_own hG.toWF hs, if_pos rfl, atC_nat, errVal_zero] at HAT
    have HNX := fun W (hk : Keeps (fun _ => False) w3 W) => tnext (HTU.out.keep hk) ((y : Nat) : Int)
    rw [dErr_stands hG.toWF hs, if_pos rfl, Int.toNat_natCast, errVal_zero] at HNX
    have HWK := fun W (hk : Keeps (fun _ => False) w3 W) => fwalk (HTU.out.keep hk) hG (hG.twin _ hs)
    have HIN := Lib.hid (at_face hG hs)
    have hol : (orb L 8 (tw y)).length ≤ 16 := by rw [orb_length]; exact (per_le hG (hG.twin _ hs)).1
    have hxo := xor_one y (by omega)
    have HOR := Lib.hid HOR
    have HAT := Lib.hid HAT
    have HNX := Lib.hid HNX
    have HWK := Lib.hid HWK
    clear hG hs HB3 HTU hcell HR3 HMEM HM2 HM3
    unfold RetPost tptr cval at *
    unfold LPost at HWK
    rw [errVal_zero] at HWK
    generalize orb L 8 (tw y) = R at *
    generalize tw y = ty at *
    generalize nxt L y = z at *
    generalize vtx L y = vy at *
    have hzz : (((z : Nat) : Int) != ((z : Nat) : Int)) = false := by simp
    go_wp2_with fail
    with_reducible refine HOR.out.mono ?_
    rintro e w4 ⟨rfl, hk⟩
    have H4 := Lib.hid hk
    clear hk HOR
    go_wp2_with fail
    with_reducible refine (HAT.out _ H4.out).mono ?_
    rintro e w5 ⟨rfl, hk⟩
    have H5 := Lib.hid (H4.out.trans' hk)
    clear hk HAT H4
    go_wp2_with fail
    with_reducible refine (HNX.out _ H5.out).mono ?_
    rintro e w6 ⟨rfl, hk⟩
    have H6 := Lib.hid (H5.out.trans' hk)
    clear hk HNX H5
    go_wp2_with fail
    with_reducible refine (HWK.out _ H6.out).mono ?_
    rintro e w7 ⟨v7, rfl, hro, hk⟩
    obtain ⟨a7, c7, rfl, hrd, _⟩ := Rd.of_own hro
    have H7 := Lib.hid (HKW.out.trans' (H6.out.trans' hk))
    have HR7 := Lib.hid hrd
    clear hk HWK H6 hro hrd HKW
    go_wp2_with fail
    go_loopw [20, 21] (fun s i wr => ∃ (k : Nat), k ≤ R.length ∧ s = .bool (decide (z ∈ R.take k)) ∧ i = .int .i64 (k : Int) ∧ Hid (Keeps (fun _ => False) w7 wr)) (fun _ i _ => R.length - (intOf i).toNat)
    case atStart => exact ⟨0, Nat.zero_le _, by simp, rfl, Lib.hid (Keeps.refl _ _)⟩
    case round =>
      obtain ⟨k, hkR, rfl, rfl, HK⟩ := hrel
      by_cases hlt : k < R.length
      · obtain ⟨b8, o8, rfl, hc⟩ := (HR7.out.keep HK.out).nat hlt
        have hst : decide (z ∈ R.take (k + 1)) = (decide (z ∈ R.take k) || (((R.getD k 0 : Nat) : Int) == (z : Int))) := by
          rw [take_next hlt, Bool.eq_iff_iff]
          simp only [List.mem_append, List.mem_singleton, decide_eq_true_eq, Bool.or_eq_true, beq_iff_eq]
          constructor
          · rintro (q | q)
            · exact Or.inl q
            · exact Or.inr (by omega)
          · rintro (q | q)
            · exact Or.inl q
            · exact Or.inr (by omega)
        have HST := Lib.hid hst
        clear hst
        generalize R.getD k 0 = x at *
        cases hq : decide (z ∈ R.take k) with
        | true =>
          rw [hq] at HST
          clear hq
          go_wp2_with fail
          exact ⟨⟨k + 1, hlt, by rw [HST.out]; rfl, by simp, HK⟩, by simp [intOf]; omega⟩
        | false =>
          rw [hq] at HST
          clear hq
          go_wp2_with fail
          exact ⟨⟨k + 1, hlt, by rw [HST.out]; rfl, by simp, HK⟩, by simp [intOf]; omega⟩
      · obtain rfl : k = R.length := by omega
        rw [List.take_length, decide_eq_true HIN.out]
        go_wp2_with fail
        with_reducible refine (HSU.out _).mono ?_
        rintro e w8 ⟨rfl, hk⟩
        have HF := Lib.hid (H7.out.trans' (HK.out.trans' hk))
        clear hk
        go_wp2_with fail
        go_ret
        exact ⟨rfl, HF.out⟩
theorem faceAts_enter (W : World) (hE : ErrT W) (n : Int) (_ : (Lit.int .i64 n).wf = true) (a : Option Addr) (c : Nat) (ls : List Act10) (hr : Rd W a (ls.flatMap actCells)) (hl : ls.length ≤ 9223372036854775807) (d : Int) (_ : (Lit.int .i64 d).wf = true) :
    Calls Tryd.prog 13 #[.int .i64 n, .slice a ls.length c, .int .i64 d] W (TruePost W) := faceAts_walk n a c ls d W hE hr hl
end Go.Proofs.YtjmkejkhpdhhbaaDoor
