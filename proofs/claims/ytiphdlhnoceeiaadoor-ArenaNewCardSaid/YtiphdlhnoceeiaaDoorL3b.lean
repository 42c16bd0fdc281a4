/- Chapter 3's laws: ArenaNew. -/
import Derived.Test.YtiphdlhnoceeiaaDoorL3a
import Derived.Test.YtiphdlhnoceeiaaDoorAr5
import Derived.Test.YtiphdlhnoceeiaaDoorNum
namespace Go.Proofs.YtiphdlhnoceeiaaDoor
open Go Go.RowKit
set_option linter.unusedVariables false
set_option linter.unusedSimpArgs false
set_option maxRecDepth 100000

set_option maxHeartbeats 4000000 in
theorem arenaNew_walk (x : Int) (w : World) (hT : Tab w) (hE : ErrT w) : Calls Tryd.prog 11 #[.int .i64 x] w (TruePost w) := by
  have HT := Lib.hid hT
  have HE := Lib.hid hE
  clear hT hE
  have HK : Hid (Keeps (fun _ => False) w w) := Keeps.refl _ _
  go_enter Tryd.func11, Tryd.ntmps11
  go_wp2_with fail
  have hc := Lib.hid fun w0 => (show Calls Tryd.prog _ _ w0 (NilPost (.tuple #[.agg #[.int .u32 0, .int .u32 0], .iface 92 (.int .i64 1)]) w0) from nilAdd w0)
  refine (hc.out _).mono ?_
  rintro e w1 ⟨rfl, hk⟩
  have HK := Lib.hid ((by first | exact HK.out | exact HK.out.alloc _ : Keeps (fun _ => False) w _).trans' hk)
  clear hk hc
  go_wp2_with fail
  have hc := Lib.hid fun w0 => (show Calls Tryd.prog _ _ w0 (NilPost (.tuple #[.int .i64 0, .iface 92 (.int .i64 1)]) w0) from nilFind w0)
  refine (hc.out _).mono ?_
  rintro e w2 ⟨rfl, hk⟩
  have HK := Lib.hid ((by first | exact HK.out | exact HK.out.alloc _ : Keeps (fun _ => False) w _).trans' hk)
  clear hk hc
  go_wp2_with fail
  have hc := Lib.hid fun w0 => (show Calls Tryd.prog _ _ w0 (NilPost (.tuple #[.agg #[.int .u32 0, .int .u32 0], .iface 92 (.int .i64 1)]) w0) from nilHandle w0)
  refine (hc.out _).mono ?_
  rintro e w3 ⟨rfl, hk⟩
  have HK := Lib.hid ((by first | exact HK.out | exact HK.out.alloc _ : Keeps (fun _ => False) w _).trans' hk)
  clear hk hc
  go_wp2_with fail
  refine (num03_err 1 _ (HE.out.keep (by first | exact HK.out | exact HK.out.alloc _))).mono ?_
  rintro e w4 ⟨rfl, hk⟩
  have HK := Lib.hid ((by first | exact HK.out | exact HK.out.alloc _ : Keeps (fun _ => False) w _).trans' hk)
  clear hk
  go_wp2_with fail
  refine (num03_err 1 _ (HE.out.keep (by first | exact HK.out | exact HK.out.alloc _))).mono ?_
  rintro e w5 ⟨rfl, hk⟩
  have HK := Lib.hid ((by first | exact HK.out | exact HK.out.alloc _ : Keeps (fun _ => False) w _).trans' hk)
  clear hk
  go_wp2_with fail
  refine (num03_err 1 _ (HE.out.keep (by first | exact HK.out | exact HK.out.alloc _))).mono ?_
  rintro e w6 ⟨rfl, hk⟩
  have HK := Lib.hid ((by first | exact HK.out | exact HK.out.alloc _ : Keeps (fun _ => False) w _).trans' hk)
  clear hk
  go_wp2_with fail
  have hc := Lib.hid fun w0 => (show Calls Tryd.prog _ _ w0 (NilPost (.iface 92 (.int .i64 1)) w0) from nilDrop w0)
  refine (hc.out _).mono ?_
  rintro e w7 ⟨rfl, hk⟩
  have HK := Lib.hid ((by first | exact HK.out | exact HK.out.alloc _ : Keeps (fun _ => False) w _).trans' hk)
  clear hk hc
  go_wp2_with fail
  refine (num03_err 1 _ (HE.out.keep (by first | exact HK.out | exact HK.out.alloc _))).mono ?_
  rintro e w8 ⟨rfl, hk⟩
  have HK := Lib.hid ((by first | exact HK.out | exact HK.out.alloc _ : Keeps (fun _ => False) w _).trans' hk)
  clear hk
  go_wp2_with fail
  have hc := Lib.hid fun w0 => (show Calls Tryd.prog _ _ w0 (NilPost (.int .i64 0) w0) from nilLen w0)
  refine (hc.out _).mono ?_
  rintro e w9 ⟨rfl, hk⟩
  have HK := Lib.hid ((by first | exact HK.out | exact HK.out.alloc _ : Keeps (fun _ => False) w _).trans' hk)
  clear hk hc
  go_wp2_with fail
  have hc := Lib.hid fun w0 => (show Calls Tryd.prog _ _ w0 (NilPost (.slice none 0 0) w0) from nilAll w0)
  refine (hc.out _).mono ?_
  rintro e w10 ⟨rfl, hk⟩
  have HK := Lib.hid ((by first | exact HK.out | exact HK.out.alloc _ : Keeps (fun _ => False) w _).trans' hk)
  clear hk hc
  go_wp2_with fail
  have hc := Lib.hid fun w0 => (show Calls Tryd.prog _ _ w0 (NilPost (.slice none 0 0) w0) from nilPlaces w0)
  refine (hc.out _).mono ?_
  rintro e w11 ⟨rfl, hk⟩
  have HK := Lib.hid ((by first | exact HK.out | exact HK.out.alloc _ : Keeps (fun _ => False) w _).trans' hk)
  clear hk hc
  go_wp2_with fail
  have hc := Lib.hid fun w0 => (show Calls Tryd.prog _ _ w0 (NilPost (.bool true) w0) from nilFull w0)
  refine (hc.out _).mono ?_
  rintro e w12 ⟨rfl, hk⟩
  have HK := Lib.hid ((by first | exact HK.out | exact HK.out.alloc _ : Keeps (fun _ => False) w _).trans' hk)
  clear hk hc
  by_cases hx : x < 1 ∨ 1048576 < x
  · have hb := Lib.hid (anew_bad x w12 hx)
    have hd : (decide (x < 1) || decide (1048576 < x)) = true := by simpa using hx
    go_wp2_with fail
    refine hb.out.mono ?_
    unfold errno
    rintro e w' ⟨rfl, rfl⟩
    rcases hx with hx | hx
    all_goals
      go_wp2_with fail
      refine (num03_err 1 _ (HE.out.keep HK.out)).mono ?_
      rintro e wn ⟨rfl, hk⟩
      have HK := Lib.hid (HK.out.trans' hk)
      have hs := Lib.hid (sure03 wn (HT.out.keep HK.out))
      clear hk
      go_wp2_with fail
      refine hs.out.mono ?_
      rintro e wm ⟨rfl, hk⟩
      have HK := Lib.hid (HK.out.trans' hk)
      clear hk
      go_wp2_with fail
      go_ret
      exact ⟨rfl, HK.out⟩
  · obtain ⟨n, rfl⟩ := Int.eq_ofNat_of_zero_le (show 0 ≤ x by omega)
    have hx1 : 1 ≤ n := by omega
    have hx2 : n ≤ 1048576 := by omega
    have hb := Lib.hid (lnew (n : Int) n rfl w w12 HK.out hx1 hx2)
    clear hx
    go_wp2_with fail
    refine hb.out.mono ?_
    rintro e wa ⟨p, own, rfl, hl⟩
    have hle := Lib.hid (llen hl 0 rfl)
    have hf := Lib.hid (lfull hl false (by rw [tak_nil, cnt_none]; simp; omega))
    clear hl
    go_wp2_with (go_at_call 31; refine hle.out.mono ?_; rintro e w' ⟨rfl, rfl⟩)
    refine hf.out.mono ?_
    rintro e wb ⟨rfl, hl, _⟩
    have HL := Lib.hid hl
    have hp := Lib.hid (aplaces hl.ar)
    clear hl
    go_wp2_with fail
    refine hp.out.mono ?_
    rintro e wc ⟨v, rfl, ho, hk⟩
    obtain ⟨va, vc, rfl⟩ := ownsRow_slice ho
    have HK := Lib.hid (HL.out.keep.trans' hk)
    clear ho hk
    have hs := Lib.hid (sure03 wc (HT.out.keep HK.out))
    go_wp2_with fail
    refine hs.out.mono ?_
    rintro e wm ⟨rfl, hk⟩
    have HK := Lib.hid (HK.out.trans' hk)
    clear hk
    go_wp2_with fail
    go_ret
    exact ⟨rfl, HK.out⟩
theorem arenaNew_enter (W : World) (hT : Tab W) (hE : ErrT W) (n : Int) (_ : (Lit.int .i64 n).wf = true) :
    Calls Tryd.prog 11 #[.int .i64 n] W (TruePost W) := arenaNew_walk n W hT hE
end Go.Proofs.YtiphdlhnoceeiaaDoor
