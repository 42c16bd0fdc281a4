/- Chapter 11's laws: FaceNexts. -/
import Derived.Test.YtjmkejkhpdhhbaaDoorFlM
import Derived.Test.YtjmkejkhpdhhbaaDoorFlS
namespace Go.Proofs.YtjmkejkhpdhhbaaDoor
open Go Go.RowKit
set_option linter.unusedVariables false
set_option linter.unusedSimpArgs false
set_option maxRecDepth 100000

/-- The darts behind all below a bound. -/
def nxP (L : List (List Nat)) (n : Nat) : List Nat := ((List.range n).filter fun d => decide (Stands L d)).map (fnx L)
theorem nxP_zero (L : List (List Nat)) : nxP L 0 = [] := rfl
theorem nxP_step (L : List (List Nat)) (n : Nat) : nxP L (n + 1) = nxP L n ++ if Stands L n then [fnx L n] else [] := by
  unfold nxP
  rw [List.range_succ, List.filter_append, List.map_append]
  congr 1
  by_cases h : Stands L n
  · simp [h]
  · simp [h]
theorem nxP_fresh {E : Nat} {L : List (List Nat)} (h : Good E L) {n : Nat} (hs : Stands L n) : fnx L n ∉ nxP L n := by
  intro q
  unfold nxP at q
  obtain ⟨x, hx, e⟩ := List.mem_map.1 q
  obtain ⟨h1, h2⟩ := List.mem_filter.1 hx
  have := fnx_inj h (of_decide_eq_true h2) hs e
  have := List.mem_range.1 h1
  omega
theorem fndV_s {L : List (List Nat)} {d : Nat} (h : Stands L d) : fndV L d = (vtx L d : Int) := by unfold fndV; rw [Int.toNat_natCast, if_pos ⟨by omega, h⟩]
theorem fndV_n {L : List (List Nat)} {d : Nat} (h : ¬ Stands L d) : fndV L d = -1 := by unfold fndV; rw [Int.toNat_natCast, if_neg fun q => h q.2]
theorem vtx_fnx {E : Nat} {L : List (List Nat)} (h : Good E L) {d : Nat} (hs : Stands L d) : vtx L (fnx L d) = vtx L (tw d) := h.toWF.vtx_nxt (h.twin _ hs)
set_option maxHeartbeats 4000000 in
theorem faceNexts_walk (n : Int) (a : Option Addr) (c : Nat) (ls : List Act10) (w : World) (hE : ErrT w) (hz : Rd w a (actsV ls)) (hzl : ls.length ≤ 9223372036854775807) :
    Calls Tryd.prog 11 #[.int .i64 n, .slice a ls.length c] w (TruePost w) := by
  have HM := Lib.hid (made11 n a c ls w hE hz hzl)
  have HE0 := Lib.hid hE
  obtain ⟨ib, hib, hb0, hb1, hb2⟩ := info_parts infoBo
  have hmkB : ∀ W, (Instr.makeSlice 77 (.int .i64 16) (.int .i64 16)).run Tryd.prog W = .ok (.slice (some ⟨W.heap.size, 0, none⟩) 16 16) (W.alloc (.cells (seenV 8 []).toArray 4)) := fun W => by
    have := run_make (P := Tryd.prog) W 77 4 ib _ Tryd.underlying77 hib hb0 .i64 .i64 16 16 (by omega) (Int.le_refl _) (by rw [hb2]; omega) (by omega)
    rw [this, hb1, show (16 : Int).toNat = 2 * 8 by rfl, Nat.mul_one, show (Value.bool false).cells = #[.bool false] from rfl, zeros_B]
  clear hE hz ib hib hb0 hb1 hb2
  unfold MadePost tptr rval at HM
  unfold TruePost
  go_enter Tryd.func11, Tryd.ntmps11
  go_wp2_with fail
  with_reducible refine HM.out.mono ?_
  rintro e w1 ⟨L, p, own, B, va, vc, rfl, hl1, hl6, hb⟩
  have hbx : BothAt w own p 8 B L (.slice va L.length vc) (w1.alloc (.cells #[.int .i64 8, .slice va L.length vc] 32)) := hb.keep ((Keeps.refl _ _).alloc _)
  have HB := Lib.hid hbx
  have HX : Hid (Blk (w1.alloc (.cells #[.int .i64 8, .slice va L.length vc] 32)) w1.heap.size #[.int .i64 8, .slice va L.length vc] 32) := Lib.hid (Blk.new _ _ _)
  clear hb hbx HM
  go_upto_region 2 with fail
  generalize w1.alloc _ = w2 at *
  generalize w1.heap.size = bx at *
  go_upto_region 4 with fail
  have HM0 : Hid (MarkAt w2 w2.heap.size 8 (intsN (nxP L 0)) (w2.alloc (.cells (seenV 8 []).toArray 4))) := Lib.hid ⟨Blk.new _ _ _, Nat.le_refl _, (Keeps.refl _ _).alloc _⟩
  go_upto_region 5 with fail
  clear hmkB
  generalize w2.alloc _ = w3 at *
  generalize w2.heap.size = sb at *
  have HG := Lib.hid HB.out.good
  have HFI := Lib.hid (fun W (hk : Keeps (fun _ => False) w2 W) (d : Nat) => rfind (HB.out.ls.keep hk) HB.out.good.toWF hl1 (by omega) (by decide) ((d : Nat) : Int))
  have HNX := Lib.hid (fun W (hk : Keeps (fun _ => False) w2 W) (d : Nat) => fnext (HB.out.tu.keep hk) HB.out.good ((d : Nat) : Int))
  have HOR := Lib.hid (fun W (hk : Keeps (fun _ => False) w2 W) (d : Nat) (hs : Stands L d) => torigin (HB.out.tu.keep hk) ((d : Nat) : Int))
  have HKB := Lib.hid HB.out.kp
  have h8 : ((8 : Nat) : Int) = 8 := rfl
  unfold RetPost tptr at HNX HOR
  unfold RetPost rval at HFI
  simp only [h8] at HFI
  clear HB
  go_wp2_with fail
  go_loopw [9] (fun i wr => ∃ (d : Nat), d ≤ 16 ∧ i = .int .i64 (d : Int) ∧ Hid (MarkAt w2 sb 8 (intsN (nxP L d)) wr)) (fun i _ => 16 - (intOf i).toNat)
  case atStart => exact ⟨0, Nat.zero_le _, rfl, HM0⟩
  case round =>
    obtain ⟨d, hd, rfl, HX1⟩ := hrel
    clear HM0
    by_cases hd16 : d < 16
    · obtain ⟨x0, x1, _, _, _⟩ := (HX.out.kept HX1.out.2.2 id).cells
      have hFI := HFI.out wr HX1.out.2.2 d
      have hNX := fun W hk => HNX.out W hk d
      by_cases hs : Stands L d
      · as_aux_lemma =>
        have hst : nxP L (d + 1) = nxP L d ++ [fnx L d] := by rw [nxP_step, if_pos hs]
        have hyE := HG.out.toWF.bdS (fnx_stands HG.out hs)
        have hOA := fun W hk => HOR.out W hk (tw d) (HG.out.twin _ hs)
        have hOB := fun W hk => HOR.out W hk (fnx L d) (fnx_stands HG.out hs)
        rw [dErr_stands HG.out.toWF (HG.out.twin _ hs), if_pos rfl, Int.toNat_natCast, errVal_zero] at hOA
        rw [dErr_stands HG.out.toWF (fnx_stands HG.out hs), if_pos rfl, Int.toNat_natCast, errVal_zero, vtx_fnx HG.out hs] at hOB
        rw [dErr_stands HG.out.toWF hs, if_pos rfl, Int.toNat_natCast, errVal_zero] at hNX
        rw [fndV_s hs] at hFI
        have hfr : ((fnx L d : Nat) : Int) ∉ intsN (nxP L d) := fun q => nxP_fresh HG.out hs (mem_intsN.1 q)
        have HFR := Lib.hid hfr
        have hxo := xor_one d (by omega)
        have HFI1 := Lib.hid hFI
        have HNX1 := Lib.hid hNX
        have HOA := Lib.hid hOA
        have HOB := Lib.hid hOB
        have HST := Lib.hid hst
        clear hFI hNX hOA hOB hfr hs hst HFI HNX HOR
        generalize fnx L d = y at *
        generalize tw d = td at *
        generalize vtx L td = vt at *
        generalize vtx L d = vd at *
        generalize fndI L (d : Int) = fi at *
        have hvv : (((vt : Nat) : Int) != ((vt : Nat) : Int)) = false := by simp
        have hv0 : decide ((vd : Int) ≥ 0) = true := by simp
        have hy0 : decide ((y : Int) < 0) = false := by simp
        have hy15 : decide ((15 : Int) < (y : Int)) = false := by simp; omega
        go_wp2_with fail
        with_reducible refine HFI1.out.mono ?_
        rintro e w4 ⟨rfl, hk⟩
        have H4 := Lib.hid (HX1.out.keep hk)
        clear hk x0 x1 HX1
        go_wp2_with fail
        have hkk := H4.out.2.2
        with_reducible refine (HNX1.out _ hkk).mono ?_
        clear hkk
        rintro e w5 ⟨rfl, hk⟩
        have H5 := Lib.hid (H4.out.keep hk)
        clear hk H4
        go_upto_region 13 with fail
        go_wp2_with fail
        have hkk := H5.out.2.2
        with_reducible refine (HOA.out _ hkk).mono ?_
        clear hkk
        rintro e w6 ⟨rfl, hk⟩
        have H6 := Lib.hid (H5.out.keep hk)
        clear hk H5
        go_wp2_with fail
        have hkk := H6.out.2.2
        with_reducible refine (HOB.out _ hkk).mono ?_
        clear hkk
        rintro e w7 ⟨rfl, hk⟩
        have H7 := Lib.hid (H6.out.keep hk)
        have hsc := H7.out.cell hyE
        rw [decide_eq_false HFR.out] at hsc
        have hfz := H7.out.1.free y
        have HX2 : Hid (MarkAt w2 sb 8 (intsN (nxP L (d + 1))) (w7.setCell ⟨sb, y, none⟩ (.bool true))) := by
          rw [HST.out, intsN_append]
          exact Lib.hid H7.out.push
        clear hk H6 H7
        have hy16 : ((y : Nat) : Int) < 16 := by omega
        go_wp2_with fail
        exact ⟨⟨d + 1, by omega, by simp, HX2⟩, by simp [intOf]; omega⟩
      · as_aux_lemma =>
        have hst : nxP L (d + 1) = nxP L d := by rw [nxP_step, if_neg hs, List.append_nil]
        rw [dErr_none (by omega) hs, if_neg (by decide), errVal_pos (by decide)] at hNX
        rw [fndV_n hs] at hFI
        have HFI1 := Lib.hid hFI
        have HNX1 := Lib.hid hNX
        have HST := Lib.hid hst
        clear hFI hNX hs hst HFI HNX HOR
        unfold errno at HNX1
        generalize fndI L (d : Int) = fi at *
        go_wp2_with fail
        with_reducible refine HFI1.out.mono ?_
        rintro e w4 ⟨rfl, hk⟩
        have H4 := Lib.hid (HX1.out.keep hk)
        clear hk x0 x1 HX1
        go_wp2_with fail
        have hkk := H4.out.2.2
        with_reducible refine (HNX1.out _ hkk).mono ?_
        clear hkk
        rintro e w5 ⟨rfl, hk⟩
        have H5 : Hid (MarkAt w2 sb 8 (intsN (nxP L (d + 1))) w5) := by rw [HST.out]; exact Lib.hid (H4.out.keep hk)
        clear hk H4
        go_wp2_with fail
        exact ⟨⟨d + 1, by omega, by simp, H5⟩, by simp [intOf]; omega⟩
    · obtain rfl : d = 16 := by omega
      have HSU := Lib.hid (fun W => sure11 W)
      unfold TruePost at HSU
      have HK := Lib.hid (HKB.out.trans' HX1.out.2.2)
      clear HX1 HFI HNX HOR
      go_wp2_with fail
      with_reducible refine (HSU.out _).mono ?_
      rintro e w8 ⟨rfl, hk⟩
      have HF := Lib.hid (HK.out.trans' hk)
      clear hk
      go_wp2_with fail
      go_ret
      exact ⟨rfl, HF.out⟩
theorem faceNexts_enter (W : World) (hE : ErrT W) (n : Int) (_ : (Lit.int .i64 n).wf = true) (a : Option Addr) (c : Nat) (ls : List Act10) (hr : Rd W a (ls.flatMap actCells)) (hl : ls.length ≤ 9223372036854775807) :
    Calls Tryd.prog 11 #[.int .i64 n, .slice a ls.length c] W (TruePost W) := faceNexts_walk n a c ls W hE hr hl
end Go.Proofs.YtjmkejkhpdhhbaaDoor
