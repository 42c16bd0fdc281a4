/- The document's Count. -/
import Derived.Test.YtdplphhlclhmfaaDoorRgC
import Derived.Test.YtdplphhlclhmfaaDoorSpS
import Derived.Deep.RegionHeld3
namespace Go.Proofs.YtdplphhlclhmfaaDoor
open Go Go.RowKit
set_option linter.unusedVariables false
set_option linter.unusedSimpArgs false
set_option maxRecDepth 100000

/-- The counts in memory. -/
def c4val (c : Cnt4) : Value := .agg #[.int .i64 (c.1 : Nat), .int .i64 (c.2.1 : Nat), .int .i64 (c.2.2.1 : Nat), .int .i64 (c.2.2.2 : Nat)]
def CAt (w : World) (cb : Nat) (c : Cnt4) (wr : World) : Prop :=
  Blk wr cb #[.int .i64 (c.1 : Nat), .int .i64 (c.2.1 : Nat), .int .i64 (c.2.2.1 : Nat), .int .i64 (c.2.2.2 : Nat)] 41 ∧ w.heap.size ≤ cb ∧ Keeps (fun _ => False) w wr
section
variable {w wr w1 : World} {cb : Nat} {a b c d : Nat}
theorem CAt.keep {q : Cnt4} (h : CAt w cb q wr) (hk : Keeps (fun _ => False) wr w1) : CAt w cb q w1 := ⟨h.1.kept hk id, h.2.1, h.2.2.trans' hk⟩
theorem CAt.put0 (h : CAt w cb (a, b, c, d) wr) (x : Nat) : CAt w cb (x, b, c, d) (wr.setCell ⟨cb, 0, none⟩ (.int .i64 (x : Nat))) := ⟨by
  have := h.1.set 0 (.int .i64 (x : Nat))
  simpa using this, h.2.1, h.2.2.setNew h.2.1 _ _⟩
theorem CAt.put1 (h : CAt w cb (a, b, c, d) wr) (x : Nat) : CAt w cb (a, x, c, d) (wr.setCell ⟨cb, 1, none⟩ (.int .i64 (x : Nat))) := ⟨by
  have := h.1.set 1 (.int .i64 (x : Nat))
  simpa using this, h.2.1, h.2.2.setNew h.2.1 _ _⟩
theorem CAt.put2 (h : CAt w cb (a, b, c, d) wr) (x : Nat) : CAt w cb (a, b, x, d) (wr.setCell ⟨cb, 2, none⟩ (.int .i64 (x : Nat))) := ⟨by
  have := h.1.set 2 (.int .i64 (x : Nat))
  simpa using this, h.2.1, h.2.2.setNew h.2.1 _ _⟩
theorem CAt.put3 (h : CAt w cb (a, b, c, d) wr) (x : Nat) : CAt w cb (a, b, c, x) (wr.setCell ⟨cb, 3, none⟩ (.int .i64 (x : Nat))) := ⟨by
  have := h.1.set 3 (.int .i64 (x : Nat))
  simpa using this, h.2.1, h.2.2.setNew h.2.1 _ _⟩
theorem CAt.cells (h : CAt w cb (a, b, c, d) wr) : wr.cell? ⟨cb, 0, none⟩ = some (.int .i64 (a : Nat)) ∧ wr.cell? ⟨cb, 1, none⟩ = some (.int .i64 (b : Nat)) ∧ wr.cell? ⟨cb, 2, none⟩ = some (.int .i64 (c : Nat)) ∧ wr.cell? ⟨cb, 3, none⟩ = some (.int .i64 (d : Nat)) ∧ wr.frozen? ⟨cb, 0, none⟩ = false ∧ wr.frozen? ⟨cb, 1, none⟩ = false ∧ wr.frozen? ⟨cb, 2, none⟩ = false ∧ wr.frozen? ⟨cb, 3, none⟩ = false := by
  obtain ⟨h0, h1, h2, h3⟩ := h.1.cells4
  exact ⟨h0, h1, h2, h3, h.1.free 0, h.1.free 1, h.1.free 2, h.1.free 3⟩
end
/-- Bounds. -/
def CBd (c : Cnt4) (n : Nat) : Prop := c.1 ≤ n ∧ c.2.1 ≤ 4194304 * n ∧ c.2.2.1 ≤ n ∧ c.2.2.2 ≤ n
theorem cStep_bd {L : List (List Nat)} {g : List Nat} {of : Int} {c : Cnt4} {n v : Nat} (h : CBd c n) (hl : (L.getD v []).length ≤ 4194304) : CBd (cStep L g of c v) (n + 1) := by
  obtain ⟨h1, h2, h3, h4⟩ := h
  have := List.countP_le_length (p := fun d => decide (d % 2 = 0)) (l := L.getD v [])
  unfold cStep
  split
  · refine ⟨?_, ?_, ?_, ?_⟩ <;> simp only <;> (try split) <;> omega
  · exact ⟨by omega, by omega, by omega, by omega⟩
theorem fStep_bd {L : List (List Nat)} {g : List Nat} {of : Int} {c : Cnt4} {n : Nat} {f : List Nat} (h : CBd c n) : CBd (fStep L g of c f) (n + 1) := by
  obtain ⟨h1, h2, h3, h4⟩ := h
  unfold fStep
  split
  · refine ⟨?_, ?_, ?_, ?_⟩ <;> simp only <;> omega
  · exact ⟨by omega, by omega, by omega, by omega⟩
section
variable {w : World} {B E : Nat} {v : Value} {L : List (List Nat)}
set_option maxHeartbeats 8000000 in
theorem rcount12 (h : LsRow w B v L) (hg : Good E L) (h0 : 0 < L.length) (hV : L.length ≤ 1048576) (hE : E ≤ 1048576) (a : Option Addr) (c : Nat) (m : List Nat) (hr : Rd w a (nats m)) (hl : m.length ≤ 1048576) (hm : ∀ v ∈ m, v < L.length) (of : Int) :
    Calls Tryd.prog 16 #[rval E v, .slice a m.length c, .int .i64 of] w (RetPost (c4val (docCnt L (grp L E) m (faces L E) of)) w) := by
  obtain ⟨g, vc, rfl, hc, hB, hat⟩ := h.at_ h0
  generalize hW : (w.alloc (.cells #[.int .i64 (E : Int), .slice (some ⟨g, 0, none⟩) L.length vc] 27)).alloc (.cells #[.int .i64 0, .int .i64 0, .int .i64 0, .int .i64 0] 41) = w0
  have hK0 : Keeps (fun _ => False) w w0 := by rw [← hW]; exact ((Keeps.refl _ _).alloc _).alloc _
  have HB : Hid (Blk w0 w.heap.size #[.int .i64 (E : Int), .slice (some ⟨g, 0, none⟩) L.length vc] 27) := by rw [← hW]; exact Lib.hid ((Blk.new _ _ _).alloc _)
  have HRB : Hid (Blk w0 (w.heap.size + 1) #[.int .i64 0, .int .i64 0, .int .i64 0, .int .i64 0] 41) := by rw [← hW]; exact Lib.hid (Blk.newAt _ _ _ (by simp))
  have HK0 := Lib.hid hK0
  have HG := Lib.hid (rgroups (h.keep hK0) hg h0 hV hE)
  have HALL := Lib.hid (fun W (hk : Keeps (fun _ => False) w0 W) => rall ((h.keep hK0).keep hk) hg h0 hV hE)
  have HF : Hid (∀ W, Keeps (fun _ => False) w0 W → ∀ d : Nat, Stands L d → Calls Tryd.prog 32 #[rval E (.slice (some ⟨g, 0, none⟩) L.length vc), .int .i64 (d : Int)] W (RetPost (.tuple #[.int .i64 (vtx L d : Nat), .int .i64 (pos L d : Nat)]) W)) := Lib.hid fun W hk d hs => by
    have := rfind ((h.keep hK0).keep hk) hg.toWF h0 hV hE (d : Int)
    rw [(fndV_at hg.toWF hs).1, (fndV_at hg.toWF hs).2] at this
    exact this
  have HR := Lib.hid fun W (hk : Keeps (fun _ => False) w0 W) => (hr.keep hK0).keep hk
  have HAT : Hid (∀ W, Keeps (fun _ => False) w0 W → ∀ i, i < L.length → ∃ a c, W.cell? ⟨g, i, none⟩ = some (.slice a (L.getD i []).length c) ∧ Rd W a (nats (L.getD i []))) := Lib.hid fun W hk i hi => by
    obtain ⟨u, hu, hrow⟩ := hat i _ (some_getD (by omega))
    obtain ⟨a, c, rfl, hrd⟩ := hrow.rd
    exact ⟨a, c, hk.cellF (hK0.cellF hu), (hrd.keep hK0).keep hk⟩
  have HM : Hid (∀ k, k < m.length → m.getD k 0 < L.length) := Lib.hid fun k hk => hm _ (getD_mem hk)
  have hgl : (grp L E).length = L.length := (grp_ok hg).len
  have HLL : Hid (∀ v, v < L.length → (L.getD v []).length ≤ 4194304) := Lib.hid fun v hv => by
    have h1 : (L.getD v []).length ≤ (List.range (2 * E)).length := List.Nodup.length_le_of_subset (hg.toWF.nd (some_getD hv)) (fun x hx => List.mem_range.2 (hg.toWF.bd (some_getD hv) hx))
    rw [List.length_range] at h1
    omega
  have HFH : Hid (∀ f ∈ faces L E, Stands L (f.getD 0 0) ∧ 1 ≤ f.length ∧ vtx L (f.getD 0 0) < L.length) := Lib.hid fun f hf => ⟨(faces_head hf).1, (faces_head hf).2, hg.toWF.vtx_lt (faces_head hf).1⟩
  have hFl : (faces L E).length ≤ 2097152 := by
    have h1 : (faces L E).length ≤ (List.range (2 * E)).length := by
      unfold faces facesN
      rw [List.length_map]
      exact List.length_filter_le _ _
    rw [List.length_range] at h1
    omega
  have hDC : docCnt L (grp L E) m (faces L E) of = (faces L E).foldl (fStep L (grp L E) of) (m.foldl (cStep L (grp L E) of) (0, 0, 0, 0)) := rfl
  have HDC := Lib.hid hDC
  obtain ⟨x0, x1, _, _, _⟩ := HB.out.cells
  clear h hr hat hK0 hm hg hDC
  generalize docCnt L (grp L E) m (faces L E) of = dc at *
  generalize faces L E = F at *
  generalize grp L E = gr at *
  unfold LstPost rval at HG
  unfold AllPost rval at HALL
  unfold RetPost rval at HF
  unfold RetPost rval
  rw [hgl] at HG
  generalize hN : L.length = N at *
  clear hN
  go_enter Tryd.func16, Tryd.ntmps16
  go_upto_region 1 with fail
  clear hW
  go_wp2_with fail
  with_reducible refine HG.out.mono ?_
  rintro e w1 ⟨ga, gc, rfl, hr1, hk1⟩
  have HR1 := Lib.hid (fun W (hk : Keeps (fun _ => False) w1 W) => hr1.keep hk)
  have HK1 := Lib.hid hk1
  clear hr1 hk1 HG x0 x1
  go_upto_region 3 with fail
  have HC0 : Hid (CAt w1 w1.heap.size ((m.take 0).foldl (cStep L gr of) (0, 0, 0, 0)) (w1.alloc (.cells #[.int .i64 0, .int .i64 0, .int .i64 0, .int .i64 0] 41)) ∧ CBd ((m.take 0).foldl (cStep L gr of) (0, 0, 0, 0)) 0) := Lib.hid ⟨⟨Blk.new _ _ _, Nat.le_refl _, (Keeps.refl _ _).alloc _⟩, ⟨Nat.le_refl _, Nat.le_refl _, Nat.le_refl _, Nat.le_refl _⟩⟩
  generalize World.alloc w1 _ = w2 at *
  generalize w1.heap.size = cb at *
  generalize hbx : w.heap.size = bx at *
  have HBE := Lib.hid hbx
  clear hbx
  go_wp2_with fail
  go_loopw [9] (fun i wr => ∃ k : Nat, k ≤ m.length ∧ i = .int .i64 (k : Int) ∧ Hid (CAt w1 cb ((m.take k).foldl (cStep L gr of) (0, 0, 0, 0)) wr ∧ CBd ((m.take k).foldl (cStep L gr of) (0, 0, 0, 0)) k)) (fun i _ => m.length - (intOf i).toNat)
  case atStart => exact ⟨0, Nat.zero_le _, rfl, HC0⟩
  case round =>
    obtain ⟨k, hk, rfl, HX⟩ := hrel
    clear HC0
    by_cases hlt : k < m.length
    · have hst : (m.take (k + 1)).foldl (cStep L gr of) (0, 0, 0, 0) = cStep L gr of ((m.take k).foldl (cStep L gr of) (0, 0, 0, 0)) (m.getD k 0) := foldl_take _ _ _ (by rw [List.getD_eq_getElem?_getD, List.getElem?_eq_getElem hlt]; rfl)
      have hvN := HM.out k hlt
      have hbn : CBd ((m.take (k + 1)).foldl (cStep L gr of) (0, 0, 0, 0)) (k + 1) := by rw [hst]; exact cStep_bd HX.out.2 (HLL.out _ hvN)
      rw [hst] at hbn
      have hkI : (k : Int) < (m.length : Int) := by omega
      have HRR : Hid (∀ W, Keeps (fun _ => False) w1 W → ∃ b off, a = some ⟨b, off, none⟩ ∧ W.cell? ⟨b, off + k, none⟩ = some (.int .i64 ((m.getD k 0 : Nat) : Int))) := Lib.hid fun W hk => (HR.out _ (HK1.out.trans' hk)).nat hlt
      have HGG : Hid (∀ W, Keeps (fun _ => False) w1 W → ∃ b off, ga = some ⟨b, off, none⟩ ∧ W.cell? ⟨b, off + m.getD k 0, none⟩ = some (.int .i64 ((gr.getD (m.getD k 0) 0 : Nat) : Int))) := Lib.hid fun W hk => (HR1.out _ hk).nat (by omega)
      have HRW : Hid (∀ W, Keeps (fun _ => False) w1 W → ∃ a c, W.cell? ⟨g, m.getD k 0, none⟩ = some (.slice a (L.getD (m.getD k 0) []).length c) ∧ Rd W a (nats (L.getD (m.getD k 0) []))) := Lib.hid fun W hk => HAT.out _ (HK1.out.trans' hk) _ hvN
      have HBX := Lib.hid (fun W (hk : Keeps (fun _ => False) w1 W) => HB.out.kept (HK1.out.trans' hk) id)
      have HX1 := Lib.hid HX.out.1
      have HST := Lib.hid hst
      have HBN := Lib.hid hbn
      obtain ⟨hb1, hb2, hb3, hb4⟩ := HX.out.2
      have hLb := HLL.out _ hvN
      clear HX hst hbn
      generalize (m.take k).foldl (cStep L gr of) (0, 0, 0, 0) = c0 at *
      obtain ⟨y0, y1, y2, y3⟩ := c0
      simp only at hb1 hb2 hb3 hb4
      generalize m.getD k 0 = v at *
      obtain ⟨x0, x1, _, _, _⟩ := (HBX.out _ HX1.out.2.2).cells
      obtain ⟨b, off, rfl, e1⟩ := HRR.out _ HX1.out.2.2
      obtain ⟨gb, go, rfl, e2⟩ := HGG.out _ HX1.out.2.2
      have hvI : (v : Int) < (N : Int) := by omega
      have hmt : meant of (gr.getD v 0) = (decide (of < 0) || decide (((gr.getD v 0 : Nat) : Int) = of)) := rfl
      by_cases hC : 0 ≤ of ∧ ((gr.getD v 0 : Nat) : Int) ≠ of
      · as_aux_lemma =>
        have d1 : decide (0 ≤ of) = true := decide_eq_true hC.1
        have d2 : (((gr.getD v 0 : Nat) : Int) != of) = true := by rw [bne_iff_ne]; exact hC.2
        have hE2 : Hid (cStep L gr of (y0, y1, y2, y3) v = (y0, y1, y2, y3)) := Lib.hid (by
          unfold cStep
          rw [hmt, decide_eq_false (by omega), decide_eq_false hC.2, if_neg (by decide)])
        clear hC hmt HRR HGG HRW HAT HR1 HR HLL HM HF HALL HFH
        generalize gr.getD v 0 = z at *
        go_wp2_with fail
        exact ⟨⟨k + 1, by omega, by first | rfl | trivial, Lib.hid ⟨by rw [HST.out, hE2.out]; exact HX1.out, by rw [HST.out]; exact HBN.out⟩⟩, by simp [intOf]; omega⟩
      · skip
        have hE2 : Hid (cStep L gr of (y0, y1, y2, y3) v = (y0 + 1, y1 + (L.getD v []).countP (fun d => decide (d % 2 = 0)), y2 + (if L.getD v [] = [] then 1 else 0), y3 + (if gr.getD v 0 = v then 1 else 0))) := Lib.hid (by
          unfold cStep
          rw [hmt, if_pos]
          by_cases q : of < 0
          · rw [decide_eq_true q]; rfl
          · rw [decide_eq_false q, decide_eq_true (Decidable.not_not.1 fun z => hC ⟨by omega, z⟩)]; rfl)
        have hAB : (decide (0 ≤ of) = false) ∨ (decide (0 ≤ of) = true ∧ (((gr.getD v 0 : Nat) : Int) != of) = false) := by
          by_cases q : 0 ≤ of
          · exact Or.inr ⟨decide_eq_true q, bne_eq_false_iff_eq.2 (Decidable.not_not.1 fun z => hC ⟨q, z⟩)⟩
          · exact Or.inl (decide_eq_false q)
        generalize gr.getD v 0 = z at *
        have hw0 : IntKind.i64.wrap ((y0 : Int) + 1) = (y0 : Int) + 1 := by rw [IntKind.wrap_i64]; omega
        have hw2 : IntKind.i64.wrap ((y2 : Int) + 1) = (y2 : Int) + 1 := by rw [IntKind.wrap_i64]; omega
        have hw3 : IntKind.i64.wrap ((y3 : Int) + 1) = (y3 : Int) + 1 := by rw [IntKind.wrap_i64]; omega
        have HP0 : Hid (CAt w1 cb (y0 + 1, y1, y2, y3) (wr.setCell ⟨cb, 0, none⟩ (.int .i64 ((y0 : Int) + 1)))) := Lib.hid (HX1.out.put0 (y0 + 1))
        obtain ⟨z0, z1, z2, z3, f0, f1, f2, f3⟩ := HX1.out.cells
        clear hmt hC HAT HR1 HR HM HF HALL HFH
        go_upto_region 6 with fail
        go_cut [35] (fun s wc => s = .bool false ∧ Hid (CAt w1 cb (y0, y1, y2, y3) wc))
        case first =>
          rcases hAB with d1 | ⟨d1, d2⟩
          all_goals
            go_wp2_with fail
            go_meet
            exact ⟨rfl, HX1⟩
        case rest =>
          obtain ⟨rfl, HY⟩ := hcut
          clear HX1 hAB x0 x1 e1 e2 z0 z1 z2 z3 f0 f1 f2 f3 HP0
          obtain ⟨z0, z1, z2, z3, f0, f1, f2, f3⟩ := HY.out.cells
          have HP0 := Lib.hid (HY.out.put0 (y0 + 1))
          go_upto_region 7 with fail
          go_cut [] (fun w5 => Hid (CAt w1 cb (y0 + 1, y1, y2, y3) w5))
          case first =>
            go_wp2_with fail
            go_meet
            exact HP0
          case rest =>
            have HX5 := Lib.hid hcut.out
            clear hcut HP0 HY z0 z1 z2 z3 f0 f1 f2 f3 hw0
            obtain ⟨b, off, e, e1⟩ := HRR.out _ HX5.out.2.2
            cases e
            obtain ⟨gb, go, e, e2⟩ := HGG.out _ HX5.out.2.2
            cases e
            have HZV : Hid (((z : Int) == (v : Int)) = decide (z = v)) := Lib.hid (by rw [Bool.eq_iff_iff, beq_iff_eq, decide_eq_true_iff]; omega)
            obtain ⟨bb, hbb⟩ : ∃ bb, ((z : Int) == (v : Int)) = bb := ⟨_, rfl⟩
            have HBB : Hid (bb = decide (z = v)) := Lib.hid (by rw [← hbb]; exact HZV.out)
            clear HZV
            go_upto_region 8 with fail
            go_quiet (fail)
            go_upto_if 51 with fail
            clear hbb
            generalize hgw : World.drewN _ _ = w6 at *
            have HX6 : Hid (CAt w1 cb (y0 + 1, y1, y2, y3) w6) := Lib.hid (by rw [← hgw]; exact HX5.out.keep ((Keeps.refl _ _).drewN _))
            clear hgw e1 e2 HX5
            go_cut [] (fun w7 => Hid (CAt w1 cb (y0 + 1, y1, y2, y3 + (if z = v then 1 else 0)) w7))
            case first =>
              cases bb with
              | true =>
                obtain ⟨z0, z1, z2, z3, f0, f1, f2, f3⟩ := HX6.out.cells
                have HP := Lib.hid (HX6.out.put3 (y3 + 1))
                go_wp2_with fail
                go_meet
                rw [if_pos (of_decide_eq_true HBB.out.symm)]
                exact HP
              | false =>
                go_wp2_with fail
                go_meet
                rw [if_neg (of_decide_eq_false HBB.out.symm)]
                exact HX6
            case rest =>
              have HX7 := Lib.hid hcut.out
              clear hcut HX6 HBB hw3
              clear bb
              generalize (if z = v then 1 else 0) = a3 at *
              obtain ⟨b, off, e, e1⟩ := HRR.out _ HX7.out.2.2
              cases e
              obtain ⟨x0, x1, _, _, _⟩ := (HBX.out _ HX7.out.2.2).cells
              obtain ⟨ra, rc, er, _⟩ := HRW.out _ HX7.out.2.2
              obtain ⟨bb, hbb⟩ : ∃ bb, ((((L.getD v []).length : Nat) : Int) == 0) = bb := ⟨_, rfl⟩
              have HBB : Hid (bb = decide (L.getD v [] = [])) := Lib.hid (by
                rw [← hbb, Bool.eq_iff_iff, beq_iff_eq, decide_eq_true_iff, ← List.length_eq_zero_iff]
                omega)
              generalize hln : (L.getD v []).length = ln at *
              go_upto_region 10 with fail
              go_quiet (fail)
              go_upto_if 65 with fail
              clear hbb
              generalize hgw : World.drewN _ _ = w8 at *
              have HX8 : Hid (CAt w1 cb (y0 + 1, y1, y2, y3 + a3) w8) := Lib.hid (by rw [← hgw]; exact HX7.out.keep ((Keeps.refl _ _).drewN _))
              clear hgw e1 x0 x1 er HX7
              go_cut [] (fun w9 => Hid (CAt w1 cb (y0 + 1, y1, y2 + (if L.getD v [] = [] then 1 else 0), y3 + a3) w9))
              case first =>
                cases bb with
                | true =>
                  obtain ⟨z0, z1, z2, z3, f0, f1, f2, f3⟩ := HX8.out.cells
                  have HP := Lib.hid (HX8.out.put2 (y2 + 1))
                  go_wp2_with fail
                  go_meet
                  rw [if_pos (of_decide_eq_true HBB.out.symm)]
                  exact HP
                | false =>
                  go_wp2_with fail
                  go_meet
                  rw [if_neg (of_decide_eq_false HBB.out.symm)]
                  exact HX8
              case rest =>
                have HX9 : Hid (CAt w1 cb (y0 + 1, y1 + ((L.getD v []).take 0).countP (fun d => decide (d % 2 = 0)), y2 + (if L.getD v [] = [] then 1 else 0), y3 + a3) wc) := Lib.hid hcut.out
                clear hcut HX8 HBB hw2
                clear bb
                generalize (if L.getD v [] = [] then 1 else 0) = a2 at *
                go_wp2_with fail
                go_loopw [10] (fun i wx => ∃ j : Nat, j ≤ ln ∧ i = .int .i64 (j : Int) ∧ Hid (CAt w1 cb (y0 + 1, y1 + ((L.getD v []).take j).countP (fun d => decide (d % 2 = 0)), y2 + a2, y3 + a3) wx)) (fun i _ => ln - (intOf i).toNat)
                case atStart => exact ⟨0, Nat.zero_le _, rfl, HX9⟩
                case round =>
                  obtain ⟨j, hj, rfl, HX⟩ := hrel
                  clear HX9
                  obtain ⟨b, off, e, e1⟩ := HRR.out _ HX.out.2.2
                  cases e
                  obtain ⟨x0, x1, _, _, _⟩ := (HBX.out _ HX.out.2.2).cells
                  obtain ⟨ra, rc, er, hrd⟩ := HRW.out _ HX.out.2.2
                  by_cases hjl : j < ln
                  · as_aux_lemma =>
                    obtain ⟨rb, ro, rfl, ed⟩ := hrd.nat (i := j) (by omega)
                    have hjI : (j : Int) < (ln : Int) := by omega
                    have hTK : ((L.getD v []).take (j + 1)).countP (fun d => decide (d % 2 = 0)) = ((L.getD v []).take j).countP (fun d => decide (d % 2 = 0)) + if (L.getD v []).getD j 0 % 2 = 0 then 1 else 0 := by
                      rw [List.take_add_one, List.getElem?_eq_getElem (by omega), List.getD_eq_getElem?_getD (l := L.getD v []) (i := j), List.getElem?_eq_getElem (show j < (L.getD v []).length by omega), List.countP_append]
                      simp only [Option.toList_some, List.countP_cons, List.countP_nil, Option.getD_some, decide_eq_true_eq, Nat.zero_add]
                    have hcl := List.countP_le_length (p := fun d => decide (d % 2 = 0)) (l := (L.getD v []).take j)
                    rw [List.length_take] at hcl
                    have HTK := Lib.hid hTK
                    have HX1 := Lib.hid HX.out
                    have HRD : Hid (∀ W, Keeps (fun _ => False) wr W → W.cell? ⟨rb, ro + j, none⟩ = some (.int .i64 (((L.getD v []).getD j 0 : Nat) : Int))) := Lib.hid fun W hk => hk.cellF ed
                    clear HX hrd hTK
                    generalize ((L.getD v []).take j).countP (fun d => decide (d % 2 = 0)) = cp at *
                    obtain ⟨d, hdj⟩ : ∃ d, (L.getD v []).getD j 0 = d := ⟨_, rfl⟩
                    have HDJ := Lib.hid hdj
                    rw [hdj] at HTK HRD ed
                    clear hdj
                    have hmod : ((d : Int).tmod 2) = ((d % 2 : Nat) : Int) := tmod_two d
                    have hw1 : IntKind.i64.wrap (((y1 + cp : Nat) : Int) + 1) = ((y1 + cp : Nat) : Int) + 1 := by rw [IntKind.wrap_i64]; omega
                    go_upto_region 13 with fail
                    go_quiet (fail)
                    go_upto_region 15 with fail
                    generalize hgw : World.drewN _ _ = w10 at *
                    have hk10 : Keeps (fun _ => False) wr w10 := by rw [← hgw]; exact (Keeps.refl _ _).drewN _
                    have HX10 : Hid (∀ n, CAt w1 cb (y0 + 1, y1 + cp, y2 + a2, y3 + a3) (w10.drewN n)) := Lib.hid fun n => (HX1.out.keep hk10).keep ((Keeps.refl _ _).drewN _)
                    have hkc := HX1.out.2.2.trans' hk10
                    have ed := HRD.out _ hk10
                    clear hgw e1 x0 x1 er HX1 hk10
                    obtain ⟨b, off, e, e1⟩ := HRR.out _ hkc
                    cases e
                    obtain ⟨x0, x1, _, _, _⟩ := (HBX.out _ hkc).cells
                    obtain ⟨ra2, rc2, er, hrd2⟩ := HRW.out _ hkc
                    obtain ⟨rb2, ro2, rfl, ed2⟩ := hrd2.nat (i := j) (by omega)
                    clear hkc hrd2 HRD
                    rw [HDJ.out] at ed2
                    by_cases hev : d % 2 = 0
                    · rw [hev] at hmod
                      rw [if_pos hev] at HTK
                      have hz : ((0 : Nat) : Int) = 0 := rfl
                      rw [hz] at hmod
                      clear hev
                      go_quiet (fail)
                      go_upto_region 16 with fail
                      generalize hgw : World.drewN _ _ = w11 at *
                      have HX11 : Hid (CAt w1 cb (y0 + 1, y1 + cp, y2 + a2, y3 + a3) w11) := Lib.hid (by rw [← hgw]; exact HX10.out _)
                      clear hgw HX10 e1 x0 x1 er ed2
                      obtain ⟨z0, z1, z2, z3, f0, f1, f2, f3⟩ := HX11.out.cells
                      have HP : Hid (CAt w1 cb (y0 + 1, y1 + cp + 1, y2 + a2, y3 + a3) (w11.setCell ⟨cb, 1, none⟩ (.int .i64 (((y1 + cp : Nat) : Int) + 1)))) := Lib.hid (HX11.out.put1 (y1 + cp + 1))
                      obtain ⟨yc, HYC⟩ : ∃ yc, Hid (y1 + cp = yc) := ⟨_, Lib.hid rfl⟩
                      rw [HYC.out] at HP z1 hw1
                      go_wp2_with fail
                      exact ⟨⟨j + 1, by omega, by first | rfl | trivial, Lib.hid (by rw [HTK.out, ← Nat.add_assoc, HYC.out]; exact HP.out)⟩, by simp [intOf]; omega⟩
                    · have hmod2 : ((d % 2 : Nat) : Int) = 1 := by omega
                      rw [hmod2] at hmod
                      rw [if_neg hev, Nat.add_zero] at HTK
                      clear hev hmod2
                      go_quiet (fail)
                      go_wp2_with fail
                      exact ⟨⟨j + 1, by omega, by first | rfl | trivial, Lib.hid (by rw [HTK.out]; exact HX10.out _)⟩, by simp [intOf]; omega⟩
                  · obtain rfl : j = ln := by omega
                    have HFIN : Hid (CAt w1 cb (y0 + 1, y1 + (L.getD v []).countP (fun d => decide (d % 2 = 0)), y2 + a2, y3 + a3) wr) := Lib.hid (by
                      have := HX.out
                      rwa [← hln, List.take_length] at this)
                    clear HX hrd
                    go_upto_region 13 with fail
                    go_quiet (fail)
                    go_wp2_with fail
                    exact ⟨⟨k + 1, by omega, by first | rfl | trivial, Lib.hid ⟨by rw [HST.out, hE2.out]; exact HFIN.out.keep ((Keeps.refl _ _).drewN _), by rw [HST.out]; exact HBN.out⟩⟩, by simp [intOf]; omega⟩
    · obtain rfl : k = m.length := by omega
      have HX1 : Hid (CAt w1 cb (((F.take 0).foldl (fStep L gr of) (m.foldl (cStep L gr of) (0, 0, 0, 0)))) wr ∧ CBd ((F.take 0).foldl (fStep L gr of) (m.foldl (cStep L gr of) (0, 0, 0, 0))) (m.length + 0)) := Lib.hid (by have := HX.out; rwa [List.take_length] at this)
      clear HX HR HAT HM HLL
      generalize m.foldl (cStep L gr of) (0, 0, 0, 0) = c1 at *
      obtain ⟨x0, x1, _, _, _⟩ := (HB.out.kept (HK1.out.trans' HX1.out.1.2.2) id).cells
      have HA := Lib.hid (HALL.out _ (HK1.out.trans' HX1.out.1.2.2))
      clear HALL
      go_wp2_with fail
      with_reducible refine HA.out.mono ?_
      rintro e w4 ⟨vf, rfl, hrs, hk4⟩
      obtain ⟨fa, fc, hvf⟩ := hrs.rows.form
      subst hvf
      have HS0 : Hid (CAt w1 cb (((F.take 0).foldl (fStep L gr of) c1)) w4 ∧ CBd ((F.take 0).foldl (fStep L gr of) c1) (m.length + 0) ∧ RsAt w4 wr.heap.size (.slice fa F.length fc) F) := Lib.hid ⟨HX1.out.1.keep hk4, HX1.out.2, hrs⟩
      have HLT : Hid (cb < wr.heap.size) := Lib.hid HX1.out.1.1.lt
      clear hrs hk4 HA HX1 x0 x1
      generalize wr.heap.size = B4 at *
      go_wp2_with fail
      go_loopw [12] (fun i wx => ∃ j : Nat, j ≤ F.length ∧ i = .int .i64 (j : Int) ∧ Hid (CAt w1 cb (((F.take j).foldl (fStep L gr of) c1)) wx ∧ CBd ((F.take j).foldl (fStep L gr of) c1) (m.length + j) ∧ RsAt wx B4 (.slice fa F.length fc) F)) (fun i _ => F.length - (intOf i).toNat)
      case atStart => exact ⟨0, Nat.zero_le _, rfl, HS0⟩
      case round =>
        obtain ⟨j, hj, rfl, HX⟩ := hrel
        clear HS0
        by_cases hjF : j < F.length
        · as_aux_lemma =>
          obtain ⟨f, hf⟩ : ∃ f, F[j]? = some f := ⟨_, List.getElem?_eq_getElem hjF⟩
          have hfm : f ∈ F := List.mem_iff_getElem?.2 ⟨j, hf⟩
          obtain ⟨hfs, hfl, hfv⟩ := HFH.out f hfm
          obtain ⟨b1, o1, A1, C1, rfl, q1, hr1⟩ := HX.out.2.2.rows.at_ hf
          obtain ⟨b2, o2, rfl, q2⟩ := hr1.nat (i := 0) (by omega)
          rw [Nat.add_zero] at q2
          obtain ⟨x0, x1, _, _, _⟩ := (HB.out.kept (HK1.out.trans' HX.out.1.2.2) id).cells
          have hst : (F.take (j + 1)).foldl (fStep L gr of) c1 = fStep L gr of ((F.take j).foldl (fStep L gr of) c1) f := foldl_take _ _ _ hf
          have hbn : CBd (fStep L gr of ((F.take j).foldl (fStep L gr of) c1) f) (m.length + j + 1) := fStep_bd HX.out.2.1
          have HST := Lib.hid hst
          have HBN := Lib.hid hbn
          have HX1 := Lib.hid HX.out.1
          have HRS := Lib.hid HX.out.2.2
          obtain ⟨hb1, hb2, hb3, hb4⟩ := HX.out.2.1
          have hft : fStep L gr of ((F.take j).foldl (fStep L gr of) c1) f = if meant of (gr.getD (vtx L (f.getD 0 0)) 0) = true then (((F.take j).foldl (fStep L gr of) c1).1, ((F.take j).foldl (fStep L gr of) c1).2.1, ((F.take j).foldl (fStep L gr of) c1).2.2.1 + 1, ((F.take j).foldl (fStep L gr of) c1).2.2.2) else (F.take j).foldl (fStep L gr of) c1 := rfl
          clear HX hst hbn
          generalize (F.take j).foldl (fStep L gr of) c1 = c0 at *
          obtain ⟨y0, y1, y2, y3⟩ := c0
          simp only at hb1 hb2 hb3 hb4 hft
          have HFF := Lib.hid (fun W hk => HF.out W hk _ hfs)
          have HGG : Hid (∀ W, Keeps (fun _ => False) w1 W → ∃ b off, ga = some ⟨b, off, none⟩ ∧ W.cell? ⟨b, off + vtx L (f.getD 0 0), none⟩ = some (.int .i64 ((gr.getD (vtx L (f.getD 0 0)) 0 : Nat) : Int))) := Lib.hid fun W hk => (HR1.out _ hk).nat (by omega)
          have hjI : (j : Int) < (F.length : Int) := by omega
          have hflI : (0 : Int) < (f.length : Int) := by omega
          have hmt : ∀ z, meant of z = (decide (of < 0) || decide (((z : Nat) : Int) = of)) := fun z => rfl
          have hfl0 : 0 < f.length := hfl
          have hK : Keeps (fun _ => False) wr wr.drew := (Keeps.refl _ _).drew
          clear hr1 hfm hf hfs HF HR1 HFH
          generalize pos L (f.getD 0 0) = pp at *
          generalize vtx L (f.getD 0 0) = v at *
          generalize f.getD 0 0 = d at *
          generalize f.length = fl at *
          go_upto_region 21 with fail
          go_region_held3 (fun w' => w'.cell? ⟨bx, 0, none⟩ = some (.int .i64 (E : Int)) ∧ w'.cell? ⟨bx, 1, none⟩ = some (.slice (some ⟨g, 0, none⟩) N vc) ∧ w'.cell? ⟨b1, o1 + j, none⟩ = some (.slice (some ⟨b2, o2, none⟩) fl C1) ∧ w'.cell? ⟨b2, o2, none⟩ = some (.int .i64 (d : Int)))
            (first | exact ⟨hK.cellF x0, hK.cellF x1, hK.cellF q1, hK.cellF q2⟩ | fail)
            (first
              | (go_at_call 32; have hKK := HK1.out.trans' (HX1.out.2.2.trans' hK); with_reducible refine (HFF.out _ hKK).mono ?_; rintro e5 w5 ⟨rfl, hk5⟩; have hK : Keeps (fun _ => False) wr w5 := hK.trans' hk5)
              | fail)
          all_goals
            have HX5 := Lib.hid (HX1.out.keep hK)
            have HRS5 := Lib.hid (HRS.out.keep hK)
            clear hK hKK hk5 x0 x1 q1 q2 HX1 HRS HFF
            obtain ⟨gb, go, rfl, e2⟩ := HGG.out _ HX5.out.2.2
            have hvI : (v : Int) < (N : Int) := by omega
            generalize gr.getD v 0 = z at *
            by_cases hC : 0 ≤ of ∧ ((z : Nat) : Int) ≠ of
            · have d1 : decide (of < 0) = false := decide_eq_false (by omega)
              have d2 : (((z : Nat) : Int) == of) = false := by rw [beq_eq_false_iff_ne]; exact hC.2
              have HE : Hid (fStep L gr of (y0, y1, y2, y3) f = (y0, y1, y2, y3)) := Lib.hid (by rw [hft, hmt, d1, decide_eq_false hC.2, if_neg (by decide)])
              clear hC hmt hft
              go_wp2_with fail
              exact ⟨⟨j + 1, by omega, by first | rfl | trivial, Lib.hid ⟨by rw [HST.out, HE.out]; exact HX5.out, by rw [HST.out]; exact HBN.out, HRS5.out⟩⟩, by simp [intOf]; omega⟩
            · have HE : Hid (fStep L gr of (y0, y1, y2, y3) f = (y0, y1, y2 + 1, y3)) := Lib.hid (by
                rw [hft, hmt, if_pos]
                by_cases q : of < 0
                · rw [decide_eq_true q]; rfl
                · rw [decide_eq_false q, decide_eq_true (Decidable.not_not.1 fun z => hC ⟨by omega, z⟩)]; rfl)
              have hAB : (decide (of < 0) = true) ∨ (decide (of < 0) = false ∧ (((z : Nat) : Int) == of) = true) := by
                by_cases q : of < 0
                · exact Or.inl (decide_eq_true q)
                · exact Or.inr ⟨decide_eq_false q, beq_iff_eq.2 (Decidable.not_not.1 fun z => hC ⟨by omega, z⟩)⟩
              have hw2 : IntKind.i64.wrap ((y2 : Int) + 1) = (y2 : Int) + 1 := by rw [IntKind.wrap_i64]; omega
              obtain ⟨z0, z1, z2, z3, f0, f1, f2, f3⟩ := HX5.out.cells
              have HP : Hid (CAt w1 cb (y0, y1, y2 + 1, y3) (w5.setCell ⟨cb, 2, none⟩ (.int .i64 ((y2 : Int) + 1))) ∧ RsAt (w5.setCell ⟨cb, 2, none⟩ (.int .i64 ((y2 : Int) + 1))) B4 (.slice (some ⟨b1, o1, none⟩) F.length fc) F) := Lib.hid ⟨HX5.out.put2 (y2 + 1), HRS5.out.kept (fp := fun q => q = cb) ((Keeps.refl _ _).setCell _ _ (fun _ => rfl)) fun q e => by rw [e]; exact HLT.out⟩
              clear hC hmt hft
              rcases hAB with d1 | ⟨d1, d2⟩
              all_goals
                go_wp2_with fail
                exact ⟨⟨j + 1, by omega, by first | rfl | trivial, Lib.hid ⟨by rw [HST.out, HE.out]; exact HP.out.1, by rw [HST.out]; exact HBN.out, HP.out.2⟩⟩, by simp [intOf]; omega⟩
        · obtain rfl : j = F.length := by omega
          have HEND : Hid (CAt w1 cb dc wr) := Lib.hid (by
            have := HX.out.1
            rw [List.take_length, ← HDC.out] at this
            exact this)
          clear HX HDC HF HFH HR1
          obtain ⟨t1, t2, t3, t4⟩ := dc
          obtain ⟨z0, z1, z2, z3, _, _, _, _⟩ := HEND.out.cells
          have HRB5 := Lib.hid ((HRB.out.kept HK1.out id).kept HEND.out.2.2 id)
          have f0 := HRB5.out.free 0
          have f1 := HRB5.out.free 1
          have f2 := HRB5.out.free 2
          have f3 := HRB5.out.free 3
          obtain ⟨c0, c1, c2, c3⟩ := HRB5.out.cells4
          have HK5 := Lib.hid (HK0.out.trans' (HK1.out.trans' HEND.out.2.2))
          clear HEND HRB HK1 HK0
          go_wp2_with fail
          have HB6 := Lib.hid (HRB5.out.put4 (.int .i64 (t1 : Nat)) (.int .i64 (t2 : Nat)) (.int .i64 (t3 : Nat)) (.int .i64 (t4 : Nat)))
          have HK6 := Lib.hid (HK5.out.new ((Keeps.refl (fun q => q = bx + 1) wr).put4 rfl (.int .i64 (t1 : Nat)) (.int .i64 (t2 : Nat)) (.int .i64 (t3 : Nat)) (.int .i64 (t4 : Nat))) fun q e => by have := HBE.out; omega)
          generalize World.setCell _ _ _ = w6 at *
          obtain ⟨k0, k1, k2, k3⟩ := HB6.out.cells4
          refine bodyPost_ret (v := .agg #[.int .i64 (t1 : Nat), .int .i64 (t2 : Nat), .int .i64 (t3 : Nat), .int .i64 (t4 : Nat)]) (by simp [results, Tryd.results16, go_sem, k0, k1, k2, k3]) rfl ?_
          exact ⟨rfl, HK6.out⟩
end
end Go.Proofs.YtdplphhlclhmfaaDoor
