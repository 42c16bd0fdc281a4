/- Chapter 10's laws: nothing of nil turns; TurnNew. -/
import Derived.Test.YtjmkejkhpdhhbaaDoorLwA
namespace Go.Proofs.YtjmkejkhpdhhbaaDoor
open Go Go.RowKit
set_option linter.unusedVariables false
set_option linter.unusedSimpArgs false
set_option maxRecDepth 100000

section
variable (w : World)
theorem nvertex (v : Int) : Calls Tryd.prog 58 #[.pointer none, .int .i64 v] w (RetPost (errno 1) w) := by
  unfold RetPost
  go_enter Tryd.func58, Tryd.ntmps58
  go_wp2_with fail
  go_ret
  exact ⟨rfl, Keeps.refl _ _⟩
theorem nedge (v : Int) : Calls Tryd.prog 59 #[.pointer none, .int .i64 v] w (RetPost (errno 1) w) := by
  unfold RetPost
  go_enter Tryd.func59, Tryd.ntmps59
  go_wp2_with fail
  go_ret
  exact ⟨rfl, Keeps.refl _ _⟩
theorem ndart (v : Int) : Calls Tryd.prog 61 #[.pointer none, .int .i64 v] w (RetPost (.tuple #[dval 0 0 0, errno 1]) w) := by
  unfold RetPost
  go_enter Tryd.func61, Tryd.ntmps61
  go_wp2_with fail
  refine bodyPost_ret (v := .tuple #[dval 0 0 0, errno 1]) (by simp [results, Tryd.results61, go_sem, dval, errno]) rfl ?_
  exact ⟨by first | rfl | simp [errno], (Keeps.refl _ _).alloc _⟩
theorem nnext (v : Int) : Calls Tryd.prog 28 #[.pointer none, .int .i64 v] w (RetPost (.tuple #[.int .i64 0, errno 1]) w) := by
  have hd := Lib.hid (ndart w v)
  unfold RetPost dval errno at *
  go_enter Tryd.func28, Tryd.ntmps28
  go_wp2_with fail
  refine (hd.out).mono ?_
  rintro e w1 ⟨rfl, hk⟩
  go_wp2_with fail
  go_ret2
  exact ⟨rfl, hk.alloc _⟩
theorem ndegree (v : Int) : Calls Tryd.prog 23 #[.pointer none, .int .i64 v] w (RetPost (.tuple #[.int .i64 0, errno 1]) w) := by
  have hd := Lib.hid (nvertex w v)
  unfold RetPost errno at *
  go_enter Tryd.func23, Tryd.ntmps23
  go_wp2_with fail
  refine (hd.out).mono ?_
  rintro e w1 ⟨rfl, hk⟩
  have HK := Lib.hid hk
  clear hk
  go_wp2_with fail
  go_ret2
  exact ⟨rfl, HK.out⟩
theorem nround (v : Int) : Calls Tryd.prog 24 #[.pointer none, .int .i64 v] w (RetPost (.tuple #[.slice none 0 0, errno 1]) w) := by
  have hd := Lib.hid (nvertex w v)
  unfold RetPost errno at *
  go_enter Tryd.func24, Tryd.ntmps24
  go_wp2_with fail
  refine (hd.out).mono ?_
  rintro e w1 ⟨rfl, hk⟩
  have HK := Lib.hid hk
  clear hk
  go_wp2_with fail
  go_ret2
  exact ⟨rfl, HK.out⟩
theorem nsizes : Calls Tryd.prog 33 #[.pointer none] w (RetPost (.tuple #[.int .i64 0, .int .i64 0]) w) := by
  unfold RetPost
  go_enter Tryd.func33, Tryd.ntmps33
  go_wp2_with fail
  go_ret2
  exact ⟨rfl, Keeps.refl _ _⟩
theorem nhas (v : Int) : Calls Tryd.prog 25 #[.pointer none, .int .i64 v] w (RetPost (.bool false) w) := by
  have hd := Lib.hid (nedge w v)
  unfold RetPost errno at *
  go_enter Tryd.func25, Tryd.ntmps25
  go_wp2_with fail
  refine (hd.out).mono ?_
  rintro e w1 ⟨rfl, hk⟩
  have HK := Lib.hid hk
  clear hk
  go_wp2_with fail
  go_ret
  exact ⟨rfl, HK.out⟩
theorem ncheck (v b : Int) : Calls Tryd.prog 20 #[.pointer none, .agg #[.int .i64 v, .int .i64 b]] w (RetPost (errno 1) w) := by
  have hd := Lib.hid (nvertex (w.alloc (.cells #[.int .i64 v, .int .i64 b] 41)) v)
  have HK0 := Lib.hid ((Keeps.refl (fun _ => False) w).alloc (.cells #[.int .i64 v, .int .i64 b] 41))
  unfold RetPost errno at *
  go_enter Tryd.func20, Tryd.ntmps20
  go_wp2_with fail
  refine (hd.out).mono ?_
  rintro e w1 ⟨rfl, hk⟩
  have HK := Lib.hid (HK0.out.trans' hk)
  clear hk
  go_wp2_with fail
  go_ret
  exact ⟨rfl, HK.out⟩
theorem nlift (v : Int) : Calls Tryd.prog 31 #[.pointer none, .int .i64 v] w (RetPost (errno 1) w) := by
  have hd := Lib.hid (nedge w v)
  unfold RetPost errno at *
  go_enter Tryd.func31, Tryd.ntmps31
  go_wp2_with fail
  refine (hd.out).mono ?_
  rintro e w1 ⟨rfl, hk⟩
  have HK := Lib.hid hk
  clear hk
  go_wp2_with fail
  go_ret
  exact ⟨rfl, HK.out⟩
theorem nlay (e a1 a2 b1 b2 : Int) : Calls Tryd.prog 27 #[.pointer none, .int .i64 e, .agg #[.int .i64 a1, .int .i64 a2], .agg #[.int .i64 b1, .int .i64 b2]] w (RetPost (errno 1) w) := by
  have hd := Lib.hid (nedge ((w.alloc (.cells #[.int .i64 a1, .int .i64 a2] 41)).alloc (.cells #[.int .i64 b1, .int .i64 b2] 41)) e)
  have HK0 := Lib.hid (((Keeps.refl (fun _ => False) w).alloc (.cells #[.int .i64 a1, .int .i64 a2] 41)).alloc (.cells #[.int .i64 b1, .int .i64 b2] 41))
  unfold RetPost errno at *
  go_enter Tryd.func27, Tryd.ntmps27
  go_wp2_with fail
  refine (hd.out).mono ?_
  rintro e w1 ⟨rfl, hk⟩
  have HK := Lib.hid (HK0.out.trans' hk)
  clear hk
  go_wp2_with fail
  go_ret
  exact ⟨rfl, HK.out⟩
end
end Go.Proofs.YtjmkejkhpdhhbaaDoor
