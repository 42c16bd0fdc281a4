/- Chapter 2's laws: SlotsNew. -/
import Derived.Test.YtiphdlhnoceeiaaDoorL2c
namespace Go.Proofs.YtiphdlhnoceeiaaDoor
open Go Go.RowKit
set_option linter.unusedVariables false
set_option linter.unusedSimpArgs false

theorem all_nil (w : World) : Calls Tryd.prog 24 #[.pointer none] w fun e w' => e = .returned (.slice none 0 0) ∧ w = w' := by
  have hn := Lib.hid (next_nil 0 w)
  go_enter Tryd.func24, Tryd.ntmps24
  go_wp2_with (go_at_call 21; refine hn.out.mono ?_; unfold nextVal; rintro e w' ⟨rfl, rfl⟩)
  refine wp_loop_rounds 1 ?_
  rw [rounds_succ]
  go_wp2_with fail
  go_ret
  exact ⟨rfl, rfl⟩

set_option maxHeartbeats 2000000 in
set_option maxRecDepth 100000 in
theorem slotsNew_walk (x : Int) (w : World) (hT : Tab w) (hE : ErrT w) :
    Calls Tryd.prog 10 #[.int .i64 x] w (TruePost w) := by
  have HT := Lib.hid hT
  have HE := Lib.hid hE
  clear hT hE
  have htake := Lib.hid (take_nil w)
  have hnext := Lib.hid (next_nil 0 w)
  go_enter Tryd.func10, Tryd.ntmps10
  go_wp2_with (first | (go_at_call 33; refine htake.out.mono ?_; rintro e w' ⟨rfl, rfl⟩) | (go_at_call 21; refine hnext.out.mono ?_; unfold nextVal; rintro e w' ⟨rfl, rfl⟩))
  refine (num02_err 1 w HE.out).mono ?_
  rintro e w1 ⟨rfl, hk⟩
  have HK := Lib.hid hk
  have hc := Lib.hid (claim_nil 0 w1)
  clear hk
  go_wp2_with (go_at_call 19; refine hc.out.mono ?_; rintro e w' ⟨rfl, rfl⟩)
  refine (num02_err 1 w1 (HE.out.keep HK.out)).mono ?_
  rintro e w2 ⟨rfl, hk⟩
  have HK2 := Lib.hid (HK.out.trans' hk)
  have hc := Lib.hid (free_nil 0 w2)
  clear hk
  go_wp2_with (go_at_call 35; refine hc.out.mono ?_; rintro e w' ⟨rfl, rfl⟩)
  refine (num02_err 1 w2 (HE.out.keep HK2.out)).mono ?_
  rintro e w3 ⟨rfl, hk⟩
  have HK3 := Lib.hid (HK2.out.trans' hk)
  have h1 := Lib.hid (has_nil 0 w3)
  have h2 := Lib.hid (len_nil w3)
  have h3 := Lib.hid (size_nil w3)
  have h4 := Lib.hid (all_nil w3)
  clear hk
  by_cases hx : x < 1 ∨ 1048576 < x
  · have hb := Lib.hid (new_bad x w3 hx)
    go_wp2_with (first | (go_at_call 25; refine h1.out.mono ?_; rintro e w' ⟨rfl, rfl⟩) | (go_at_call 26; refine h2.out.mono ?_; rintro e w' ⟨rfl, rfl⟩) | (go_at_call 40; refine h3.out.mono ?_; rintro e w' ⟨rfl, rfl⟩) | (go_at_call 24; refine h4.out.mono ?_; rintro e w' ⟨rfl, rfl⟩) | (go_at_call 18; refine hb.out.mono ?_; rintro e w' ⟨rfl, rfl⟩))
    all_goals
      refine (num02_err 1 w3 (HE.out.keep HK3.out)).mono ?_
      rintro e w4 ⟨rfl, hk⟩
      have HK4 := Lib.hid (HK3.out.trans' hk)
      have hs := Lib.hid (sure02 w4 (HT.out.keep HK4.out))
      clear hk
      go_wp2_with (go_at_call 23; refine hs.out.mono ?_; rintro e w5 ⟨rfl, hk5⟩)
      go_ret
      exact ⟨rfl, HK4.out.trans' (by assumption)⟩
  · obtain ⟨n, rfl⟩ := Int.eq_ofNat_of_zero_le (show 0 ≤ x by omega)
    have hb := Lib.hid (snew (n : Int) n rfl w3 (by omega) (by omega))
    have hx1 : 1 ≤ n := by omega
    have hx2 : n ≤ 1048576 := by omega
    clear hx
    go_wp2_with (first | (go_at_call 25; refine h1.out.mono ?_; rintro e w' ⟨rfl, rfl⟩) | (go_at_call 26; refine h2.out.mono ?_; rintro e w' ⟨rfl, rfl⟩) | (go_at_call 40; refine h3.out.mono ?_; rintro e w' ⟨rfl, rfl⟩) | (go_at_call 24; refine h4.out.mono ?_; rintro e w' ⟨rfl, rfl⟩))
    refine hb.out.mono ?_
    rintro e w4 ⟨b, own, rfl, hs, hge, hk⟩
    have H4 := Lib.hid (show SlLoop w b n own _ w4 from ⟨hs, HK3.out.trans' hk⟩)
    have hsz := Lib.hid (ssize hs)
    have hln := slen hs
    rw [cnt_none] at hln
    have hln' := Lib.hid hln
    have hal := sall hs (HT.out.keep H4.out.2)
    have hal' := Lib.hid hal
    clear hs hge hk hln hal
    go_wp2_with (first | (go_at_call 40; refine hsz.out.mono ?_; rintro e w' ⟨rfl, rfl⟩) | (go_at_call 26; refine hln'.out.mono ?_; rintro e w' ⟨rfl, rfl⟩))
    refine hal'.out.mono ?_
    rintro e w5 ⟨v, rfl, ho, hk⟩
    obtain ⟨a5, c5, rfl⟩ := ownsRow_slice ho
    rw [show (allOf (fun _ => false) n).length = 0 from by simp [allOf]]
    have H5 := Lib.hid (H4.out.keeps hk)
    have hs := Lib.hid (sure02 w5 (HT.out.keep H5.out.2))
    clear ho hk
    go_wp2_with (go_at_call 23; refine hs.out.mono ?_; rintro e w6 ⟨rfl, hk6⟩)
    go_ret
    exact ⟨rfl, H5.out.2.trans' (by assumption)⟩

theorem slotsNew_enter (W : World) (hT : Tab W) (hE : ErrT W) (n : Int) (_ : (Lit.int .i64 n).wf = true) :
    Calls Tryd.prog 10 #[.int .i64 n] W (TruePost W) := slotsNew_walk n W hT hE
end Go.Proofs.YtiphdlhnoceeiaaDoor
