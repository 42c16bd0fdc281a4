/- Chapter 12's laws: sure. -/
import Derived.Test.YtdplphhlclhmfaaSpE
import Derived.Test.YtdplphhlclhmfaaSpL
namespace Go.Proofs.Ytdplphhlclhmfaa
open Go Go.RowKit
set_option linter.unusedVariables false
set_option linter.unusedSimpArgs false
set_option maxRecDepth 100000

theorem nats_cells {w : World} {b : Nat} {l : List Nat} {t : TypeId} (h : Blk w b (nats l).toArray t) : Rd w (some ⟨b, 0, none⟩) (nats l) := .inr ⟨b, 0, rfl, fun i _ => by rw [Nat.zero_add, h.cell, List.getElem?_toArray]⟩
set_option maxHeartbeats 4000000 in
theorem sure12 (w : World) : Calls Try.prog 10 #[] w (TruePost w) := by
  unfold TruePost
  go_enter Try.func10, Try.ntmps10
  go_wp2_with fail
  refine (tnew 2 2 w (by decide) (by decide) (by decide) (by decide)).mono ?_
  rintro e w1 ⟨p, own, rfl, ht, hge, hk1⟩
  have H1 := Lib.hid (And.intro ht (And.intro hge hk1))
  have hg1 := Good.new 2 2
  have hl := Lib.hid (tlay ht hg1 0 (0, -1) (1, -1))
  have e1 : layErr 2 (List.replicate 2 []) 0 (0, -1) (1, -1) = 0 := by decide
  have e2 : lay 2 (List.replicate 2 []) 0 (0, -1) (1, -1) = [[0], [1]] := by decide
  have hg2 := hg1.lay 0 (0, -1) (1, -1)
  rw [e2] at hg2
  rw [e1, e2, errVal_zero] at hl
  clear ht hge hk1 e1 e2
  unfold tptr cval TPost at *
  go_wp2_with fail
  refine hl.out.mono ?_
  rintro e w2 ⟨rfl, ht2, hk2⟩
  have H2 := Lib.hid (And.intro ht2 (H1.out.2.2.thin hk2 H1.out.2.1))
  clear hl ht2 hk2
  have HLT : Hid (∀ W, Keeps (fun _ => False) w2 W → ∀ b, Blk W b #[.int .i64 0, .int .i64 1] 3 → Calls Try.prog 9 #[tptr p, .slice (some ⟨b, 0, none⟩) 2 2] W (RetPost (.tuple #[.agg #[.int .i64 2, .int .i64 1, .int .i64 1, .int .i64 1], .nilIface]) W) ∧ Calls Try.prog 8 #[tptr p, .slice (some ⟨b, 0, none⟩) 2 2] W (RetPost (.tuple #[.bool true, .nilIface]) W)) := Lib.hid fun W hk b hb => by
    have ht := H2.out.1.keep hk
    have hrd : Rd W (some ⟨b, 0, none⟩) (i64s (intsN [0, 1])) := by
      have : Blk W b (nats [0, 1]).toArray 3 := hb
      have := nats_cells this
      rwa [nats_i64s] at this
    have h0 : chk12 [[0], [1]] (intsN [0, 1]) = 0 := by decide
    have hm : ∀ v ∈ [0, 1], v < [[0], [1]].length := by decide
    have hc := scount ht hg2 (some ⟨b, 0, none⟩) 2 [0, 1] hrd (by decide) h0 hm
    have hf := sflat ht hg2 (some ⟨b, 0, none⟩) 2 [0, 1] hrd (by decide) h0 hm
    have e3 : cntM (eachM [[0], [1]] (grp [[0], [1]] 2) [0, 1] (faces [[0], [1]] 2)) [[0], [1]].length = (2, 1, 1, 1) := by decide
    have e4 : flatN (eachM [[0], [1]] (grp [[0], [1]] 2) [0, 1] (faces [[0], [1]] 2)) [[0], [1]].length := by
      have q0 : eachM [[0], [1]] (grp [[0], [1]] 2) [0, 1] (faces [[0], [1]] 2) 0 = some (2, 2, 1) := by decide
      have q1 : eachM [[0], [1]] (grp [[0], [1]] 2) [0, 1] (faces [[0], [1]] 2) 1 = none := by decide
      intro k x hk hx
      match k, hk with
      | 0, _ => rw [q0] at hx; cases hx; decide
      | 1, _ => rw [q1] at hx; cases hx
    rw [e3] at hc
    refine ⟨hc, hf.mono ?_⟩
    rintro e w' ⟨t, rfl, q1, q2⟩
    rw [q1.2 e4]
    exact ⟨rfl, q2⟩
  clear hg1 hg2
  unfold RetPost tptr at HLT
  go_upto_region 4 with fail
  have hb4 : Blk (w2.alloc (.cells #[.int .i64 0, .int .i64 1] 3)) w2.heap.size #[.int .i64 0, .int .i64 1] 3 := Blk.new _ _ _
  have HK4 : Hid (Keeps (fun _ => False) w2 (w2.alloc (.cells #[.int .i64 0, .int .i64 1] 3))) := Lib.hid ((Keeps.refl _ _).alloc _)
  have HC4 := Lib.hid (HLT.out _ HK4.out _ hb4).1
  clear hb4
  go_wp2_with fail
  with_reducible refine HC4.out.mono ?_
  rintro e w3 ⟨rfl, hk⟩
  have HK3 := Lib.hid (HK4.out.trans' hk)
  clear hk HC4 HK4
  go_upto_region 5 with fail
  have hb5 := Blk.new w3 #[.int .i64 2, .int .i64 1, .int .i64 1, .int .i64 1] 36
  have HB5 := Lib.hid hb5
  have HK5 := Lib.hid (HK3.out.alloc (.cells #[.int .i64 2, .int .i64 1, .int .i64 1, .int .i64 1] 36))
  clear hb5 HK3
  generalize World.alloc w3 _ = w5 at *
  generalize w3.heap.size = cb at *
  have hb6 : Blk (w5.alloc (.cells #[.int .i64 0, .int .i64 1] 3)) w5.heap.size #[.int .i64 0, .int .i64 1] 3 := Blk.new _ _ _
  have HK6 : Hid (Keeps (fun _ => False) w5 (w5.alloc (.cells #[.int .i64 0, .int .i64 1] 3))) := Lib.hid ((Keeps.refl _ _).alloc _)
  have HC6 := Lib.hid (HLT.out _ (HK5.out.trans' HK6.out) _ hb6).2
  clear hb6
  go_wp2_with fail
  with_reducible refine HC6.out.mono ?_
  rintro e w7 ⟨rfl, hk⟩
  have HK7 := Lib.hid (H2.out.2.trans' (HK5.out.trans' (HK6.out.trans' hk)))
  obtain ⟨d0, d1, d2, d3⟩ := (HB5.out.kept (HK6.out.trans' hk) id).cells4
  clear hk HC6 HK6 HK5 HB5 HLT
  go_wp2_with fail
  go_ret
  exact ⟨rfl, HK7.out⟩
end Go.Proofs.Ytdplphhlclhmfaa
