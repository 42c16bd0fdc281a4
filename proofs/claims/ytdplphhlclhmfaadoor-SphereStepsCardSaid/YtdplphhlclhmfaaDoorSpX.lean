/- sphere: Count of nil; what Count and Flat answer, by the document's numbers. -/
import Derived.Test.YtdplphhlclhmfaaDoorRgE
import Derived.Test.YtdplphhlclhmfaaDoorSpF
namespace Go.Proofs.YtdplphhlclhmfaaDoor
open Go Go.RowKit
set_option linter.unusedVariables false
set_option linter.unusedSimpArgs false
set_option maxRecDepth 100000

section
variable {w : World}
theorem scheck_nil (a : Option Addr) (n c : Nat) : Calls Tryd.prog 71 #[.pointer none, .slice a n c] w (RetPost (errVal 1) w) := by
  have hmf : ∀ (fn : Fn) (first cap : Array Value) (w : World), (Instr.makeFunc fn first cap).run Tryd.prog w = .ok (.func fn first cap) w := fun _ _ _ _ => rfl
  have HS := Lib.hid (nsizes (w := w))
  unfold RetPost at *
  rw [errVal_pos (by decide)]
  go_enter Tryd.func71, Tryd.ntmps71
  go_wp2_with fail
  with_reducible refine HS.out.mono ?_
  rintro e w1 ⟨rfl, hk⟩
  have HK := Lib.hid (hk.alloc (.cells #[.int .i64 0] 3))
  clear hk HS
  go_wp2_with fail
  go_ret
  exact ⟨rfl, HK.out⟩
theorem seach_nil (a : Option Addr) (n c : Nat) : Calls Tryd.prog 42 #[.pointer none, .slice a n c] w (RetPost (.tuple #[.map none, errVal 1]) w) := by
  have HC := Lib.hid (scheck_nil (w := w) a n c)
  rw [errVal_pos (by decide)] at HC ⊢
  unfold RetPost at *
  go_enter Tryd.func42, Tryd.ntmps42
  go_wp2_with fail
  with_reducible refine HC.out.mono ?_
  rintro e w1 ⟨rfl, hk⟩
  have HK := Lib.hid hk
  clear hk HC
  go_wp2_with fail
  refine bodyPost_ret (v := .tuple #[.map none, .iface 87 (.int .i64 (1 : Nat))]) (by simp [results, Tryd.results42, go_sem]) rfl ?_
  exact ⟨rfl, HK.out⟩
theorem scount_nil (a : Option Addr) (n c : Nat) : Calls Tryd.prog 12 #[.pointer none, .slice a n c] w (RetPost (.tuple #[qagg (0, 0, 0, 0), errVal 1]) w) := by
  have hk0 : Keeps (fun _ => False) w (w.alloc (.cells #[.int .i64 0, .int .i64 0, .int .i64 0, .int .i64 0] 32)) := (Keeps.refl _ _).alloc _
  have HC := Lib.hid (seach_nil (w := w.alloc (.cells #[.int .i64 0, .int .i64 0, .int .i64 0, .int .i64 0] 32)) a n c)
  have HB0 : Hid (Blk (w.alloc (.cells #[.int .i64 0, .int .i64 0, .int .i64 0, .int .i64 0] 32)) w.heap.size #[.int .i64 0, .int .i64 0, .int .i64 0, .int .i64 0] 32) := Lib.hid (Blk.new _ _ _)
  have HK0 := Lib.hid hk0
  rw [errVal_pos (by decide)] at HC ⊢
  clear hk0
  unfold RetPost qagg at *
  go_enter Tryd.func12, Tryd.ntmps12
  go_upto_region 1 with fail
  generalize World.alloc w _ = w0 at *
  go_wp2_with fail
  with_reducible refine HC.out.mono ?_
  rintro e w1 ⟨rfl, hk⟩
  have HK := Lib.hid (HK0.out.trans' hk)
  have hb := HB0.out.kept hk id
  have HB := Lib.hid hb
  obtain ⟨c0, c1, c2, c3⟩ := hb.cells4
  have f0 := hb.free 0
  have f1 := hb.free 1
  have f2 := hb.free 2
  have f3 := hb.free 3
  clear hk HC hb HB0 HK0
  go_wp2_with fail
  have HB6 := Lib.hid (HB.out.put4 (.int .i64 0) (.int .i64 0) (.int .i64 0) (.int .i64 0))
  have HK6 := Lib.hid (HK.out.new ((Keeps.refl (fun q => q = w.heap.size) w1).put4 rfl (.int .i64 0) (.int .i64 0) (.int .i64 0) (.int .i64 0)) fun q e => by omega)
  generalize World.setCell _ _ _ = w6 at *
  obtain ⟨k0, k1, k2, k3⟩ := HB6.out.cells4
  refine bodyPost_ret (v := .tuple #[.agg #[.int .i64 0, .int .i64 0, .int .i64 0, .int .i64 0], .iface 87 (.int .i64 (1 : Nat))]) (by simp [results, Tryd.results12, go_sem, k0, k1, k2, k3]) rfl ?_
  exact ⟨rfl, HK6.out⟩
end
section
variable {w : World} {own : Nat → Prop} {p E : Nat} {L : List (List Nat)}
theorem scount_is (h : Tu w own p E L) (hg : Good E L) (a : Option Addr) (c : Nat) (m : List Nat) (hr : Rd w a (nats m)) (hl : m.length ≤ 1048576) (hm : VOk L m) :
    Calls Tryd.prog 12 #[tptr p, .slice a m.length c] w (RetPost (.tuple #[c4val (docCnt L (grp L E) m (faces L E) (-1)), .nilIface]) w) := by
  rw [nats_i64s] at hr
  have := scount h hg a c m hr hl hm.chk hm.lt
  rw [docCnt_all hg hm] at this
  exact this
theorem sflat_is (h : Tu w own p E L) (hg : Good E L) (a : Option Addr) (c : Nat) (m : List Nat) (hr : Rd w a (nats m)) (hl : m.length ≤ 1048576) (hm : VOk L m) :
    Calls Tryd.prog 14 #[tptr p, .slice a m.length c] w (RetPost (.tuple #[.bool (decide (docFlat L (grp L E) m (faces L E))), .nilIface]) w) := by
  rw [nats_i64s] at hr
  refine (sflat h hg a c m hr hl hm.chk hm.lt).mono ?_
  rintro e w1 ⟨t, rfl, ht, hk⟩
  have : t = decide (docFlat L (grp L E) m (faces L E)) := by
    rw [Bool.eq_iff_iff, ht, docFlat_iff hg hm, decide_eq_true_iff]
  rw [this]
  exact ⟨rfl, hk⟩
end
end Go.Proofs.YtdplphhlclhmfaaDoor
