/- The document's Flat. -/
import Derived.Test.YtdplphhlclhmfaaDoorRgD
namespace Go.Proofs.YtdplphhlclhmfaaDoor
open Go Go.RowKit
set_option linter.unusedVariables false
set_option linter.unusedSimpArgs false
set_option maxRecDepth 100000

theorem three_keep {w0 W : World} (hk : Keeps (fun _ => False) w0 W) {a b c : Addr} {t u v : Value} (h1 : w0.cell? a = some t) (h2 : w0.cell? b = some u) (h3 : w0.cell? c = some v) :
    W.cell? a = some t ∧ W.cell? b = some u ∧ W.cell? c = some v := ⟨hk.cellF h1, hk.cellF h2, hk.cellF h3⟩
theorem set4_keep {w0 W : World} (hk : Keeps (fun _ => False) w0 W) {b : Nat} (hb : w0.heap.size ≤ b) {x y z u : Value} : Keeps (fun _ => False) w0 ((((W.setCell ⟨b, 0, none⟩ x).setCell ⟨b, 1, none⟩ y).setCell ⟨b, 2, none⟩ z).setCell ⟨b, 3, none⟩ u) := (((hk.setNew hb _ _).setNew hb _ _).setNew hb _ _).setNew hb _ _
instance (L : List (List Nat)) (g m : List Nat) (F : List (List Nat)) : Decidable (docFlat L g m F) := by unfold docFlat; infer_instance
theorem cFold_bd {L : List (List Nat)} {g : List Nat} {of : Int} : ∀ (m : List Nat) (c : Cnt4) (n : Nat), CBd c n → (∀ v ∈ m, (L.getD v []).length ≤ 4194304) → CBd (m.foldl (cStep L g of) c) (n + m.length)
  | [], c, n, h, _ => h
  | v :: m, c, n, h, hl => by
    have := cFold_bd (g := g) (of := of) m (cStep L g of c v) (n + 1) (cStep_bd (g := g) (of := of) h (hl v (List.mem_cons_self ..))) fun x hx => hl x (List.mem_cons_of_mem _ hx)
    rw [List.length_cons, show n + (m.length + 1) = n + 1 + m.length by omega]
    exact this
theorem fFold_bd {L : List (List Nat)} {g : List Nat} {of : Int} : ∀ (F : List (List Nat)) (c : Cnt4) (n : Nat), CBd c n → CBd (F.foldl (fStep L g of) c) (n + F.length)
  | [], c, n, h => h
  | f :: F, c, n, h => by
    have := fFold_bd (L := L) (g := g) (of := of) F (fStep L g of c f) (n + 1) (fStep_bd (L := L) (g := g) (of := of) (f := f) h)
    rw [List.length_cons, show n + (F.length + 1) = n + 1 + F.length by omega]
    exact this
section
variable {w : World} {B E : Nat} {v : Value} {L : List (List Nat)}
set_option maxHeartbeats 4000000 in
theorem rflat12 (h : LsRow w B v L) (hg : Good E L) (h0 : 0 < L.length) (hV : L.length ≤ 1048576) (hE : E ≤ 1048576) (a : Option Addr) (c : Nat) (m : List Nat) (hr : Rd w a (nats m)) (hl : m.length ≤ 1048576) (hm : ∀ v ∈ m, v < L.length) :
    Calls Tryd.prog 17 #[rval E v, .slice a m.length c] w (RetPost (.bool (decide (docFlat L (grp L E) m (faces L E)))) w) := by
  obtain ⟨va, vc, rfl⟩ := h.form
  generalize hW : w.alloc (.cells #[.int .i64 (E : Int), .slice va L.length vc] 27) = w0
  have hK0 : Keeps (fun _ => False) w w0 := by rw [← hW]; exact (Keeps.refl _ _).alloc _
  have HB : Hid (Blk w0 w.heap.size #[.int .i64 (E : Int), .slice va L.length vc] 27) := by rw [← hW]; exact Lib.hid (Blk.new _ _ _)
  have HK0 := Lib.hid hK0
  have HG := Lib.hid (rgroups (h.keep hK0) hg h0 hV hE)
  have HCT := Lib.hid (fun W (hk : Keeps (fun _ => False) w0 W) of => rcount12 ((h.keep hK0).keep hk) hg h0 hV hE a c m ((hr.keep hK0).keep hk) hl hm of)
  have HR := Lib.hid fun W (hk : Keeps (fun _ => False) w0 W) => (hr.keep hK0).keep hk
  have HM : Hid (∀ k, k < m.length → m.getD k 0 < L.length ∧ m.getD k 0 ∈ m) := Lib.hid fun k hk => ⟨hm _ (getD_mem hk), getD_mem hk⟩
  have hgl : (grp L E).length = L.length := (grp_ok hg).len
  have HBD : Hid (∀ of, CBd (docCnt L (grp L E) m (faces L E) of) 3145728) := Lib.hid fun of => by
    have hFl : (faces L E).length ≤ 2097152 := by
      have h1 : (faces L E).length ≤ (List.range (2 * E)).length := by
        unfold faces facesN
        rw [List.length_map]
        exact List.length_filter_le _ _
      rw [List.length_range] at h1
      omega
    have h1 := cFold_bd (L := L) (g := grp L E) (of := of) m (0, 0, 0, 0) 0 ⟨Nat.le_refl _, Nat.le_refl _, Nat.le_refl _, Nat.le_refl _⟩ fun v hv => by
      have h1 : (L.getD v []).length ≤ (List.range (2 * E)).length := List.Nodup.length_le_of_subset (hg.toWF.nd (some_getD (hm v hv))) (fun x hx => List.mem_range.2 (hg.toWF.bd (some_getD (hm v hv)) hx))
      rw [List.length_range] at h1
      omega
    obtain ⟨g1, g2, g3, g4⟩ := fFold_bd (L := L) (g := grp L E) (of := of) (faces L E) _ _ h1
    unfold docCnt
    exact ⟨by omega, by omega, by omega, by omega⟩
  obtain ⟨fb, hfb⟩ : ∃ fb, decide (docFlat L (grp L E) m (faces L E)) = fb := ⟨_, rfl⟩
  have HDF : Hid (fb = true ↔ ∀ j, j < m.length → (grp L E).getD (m.getD j 0) 0 = m.getD j 0 → ((docCnt L (grp L E) m (faces L E) ((m.getD j 0 : Nat) : Int)).1 : Int) - ((docCnt L (grp L E) m (faces L E) ((m.getD j 0 : Nat) : Int)).2.1 : Int) + ((docCnt L (grp L E) m (faces L E) ((m.getD j 0 : Nat) : Int)).2.2.1 : Int) = 2) := Lib.hid (by
    rw [← hfb, decide_eq_true_iff]
    unfold docFlat
    constructor
    · intro q j hj
      exact q _ (getD_mem hj)
    · intro q v hv
      obtain ⟨j, hj, e⟩ := mem_getD hv
      have := q j hj
      rwa [e] at this)
  rw [hfb]
  obtain ⟨x0, x1, _, _, _⟩ := HB.out.cells
  clear h hr hK0 hm hg hfb
  generalize docCnt L (grp L E) m (faces L E) = DC at *
  generalize grp L E = gr at *
  unfold LstPost rval at HG
  unfold RetPost rval c4val at HCT
  unfold RetPost rval
  rw [hgl] at HG
  go_enter Tryd.func17, Tryd.ntmps17
  go_upto_region 1 with fail
  clear hW
  go_wp2_with fail
  with_reducible refine HG.out.mono ?_
  rintro e w1 ⟨ga, gc, rfl, hr1, hk1⟩
  have HR1 := Lib.hid (fun W (hk : Keeps (fun _ => False) w1 W) => hr1.keep hk)
  have HK1 := Lib.hid hk1
  clear hr1 hk1 HG x0 x1
  generalize w.heap.size = bx at *
  go_wp2_with fail
  go_loopw [6] (fun i wr => ∃ k : Nat, k ≤ m.length ∧ i = .int .i64 (k : Int) ∧ Hid (Keeps (fun _ => False) w1 wr ∧ ∀ j, j < k → gr.getD (m.getD j 0) 0 = m.getD j 0 → ((DC ((m.getD j 0 : Nat) : Int)).1 : Int) - ((DC ((m.getD j 0 : Nat) : Int)).2.1 : Int) + ((DC ((m.getD j 0 : Nat) : Int)).2.2.1 : Int) = 2)) (fun i _ => m.length - (intOf i).toNat)
  case atStart => exact ⟨0, Nat.zero_le _, rfl, Lib.hid ⟨Keeps.refl _ _, fun j hj => by omega⟩⟩
  case round =>
    obtain ⟨k, hk, rfl, HX⟩ := hrel
    by_cases hlt : k < m.length
    · as_aux_lemma =>
      have hvN := (HM.out k hlt).1
      have hkI : (k : Int) < (m.length : Int) := by omega
      have HRR : Hid (∀ W, Keeps (fun _ => False) w1 W → ∃ b off, a = some ⟨b, off, none⟩ ∧ W.cell? ⟨b, off + k, none⟩ = some (.int .i64 ((m.getD k 0 : Nat) : Int))) := Lib.hid fun W hk => (HR.out _ (HK1.out.trans' hk)).nat hlt
      have HBX := Lib.hid (fun W (hk : Keeps (fun _ => False) w1 W) => HB.out.kept (HK1.out.trans' hk) id)
      obtain ⟨gb, go, rfl, e2⟩ := (HR1.out _ HX.out.1).nat (i := m.getD k 0) (by omega)
      have HCC := Lib.hid (fun W hk => HCT.out W hk ((m.getD k 0 : Nat) : Int))
      have HBB := Lib.hid (HBD.out ((m.getD k 0 : Nat) : Int))
      have HY : Hid ((gr.getD (m.getD k 0) 0 = m.getD k 0 → ((DC ((m.getD k 0 : Nat) : Int)).1 : Int) - ((DC ((m.getD k 0 : Nat) : Int)).2.1 : Int) + ((DC ((m.getD k 0 : Nat) : Int)).2.2.1 : Int) = 2) → ∀ w5, Keeps (fun _ => False) wr w5 → Keeps (fun _ => False) w1 w5 ∧ ∀ j, j < k + 1 → gr.getD (m.getD j 0) 0 = m.getD j 0 → ((DC ((m.getD j 0 : Nat) : Int)).1 : Int) - ((DC ((m.getD j 0 : Nat) : Int)).2.1 : Int) + ((DC ((m.getD j 0 : Nat) : Int)).2.2.1 : Int) = 2) := Lib.hid fun q w5 hk5 => ⟨HX.out.1.trans' hk5, fun j hj => by
        by_cases e : j = k
        · rw [e]; exact q
        · exact HX.out.2 j (by omega)⟩
      have HNO : Hid (gr.getD (m.getD k 0) 0 = m.getD k 0 → ((DC ((m.getD k 0 : Nat) : Int)).1 : Int) - ((DC ((m.getD k 0 : Nat) : Int)).2.1 : Int) + ((DC ((m.getD k 0 : Nat) : Int)).2.2.1 : Int) ≠ 2 → fb = false) := Lib.hid fun q1 q2 => by
        cases hf : fb with
        | false => rfl
        | true => exact absurd (HDF.out.1 hf k hlt q1) q2
      have HKX := Lib.hid HX.out.1
      clear HX HDF HBD HCT HR HM HR1
      generalize m.getD k 0 = v at *
      obtain ⟨b, off, rfl, e1⟩ := HRR.out _ HKX.out
      have hvI : (v : Int) < (L.length : Int) := by omega
      by_cases hv : gr.getD v 0 = v
      · rw [hv] at e2
        have hb : ((v : Int) != (v : Int)) = false := by simp
        have HNO2 := Lib.hid (HNO.out hv)
        have HY2 := Lib.hid (fun q => HY.out fun _ => q)
        clear HNO HY hv
        generalize DC (v : Int) = dc at *
        obtain ⟨t1, t2, t3, t4⟩ := dc
        obtain ⟨b1, b2, b3, b4⟩ := HBB.out
        simp only at b1 b2 b3 b4
        simp only at HNO2 HY2 HCC
        have hw1 : IntKind.i64.wrap ((t1 : Int) - (t2 : Int)) = (t1 : Int) - (t2 : Int) := by rw [IntKind.wrap_i64]; omega
        have hw2 : IntKind.i64.wrap ((t1 : Int) - (t2 : Int) + (t3 : Int)) = (t1 : Int) - (t2 : Int) + (t3 : Int) := by rw [IntKind.wrap_i64]; omega
        go_upto_region 5 with fail
        go_quiet (fail)
        go_upto_region 6 with fail
        generalize hgw : World.drewN _ _ = w2 at *
        have HK2 : Hid (Keeps (fun _ => False) wr w2) := Lib.hid (by rw [← hgw]; exact (Keeps.refl _ _).drewN _)
        have HK12 := Lib.hid (HKX.out.trans' HK2.out)
        clear hgw e1 e2 HBB b1 b2 b3 b4
        obtain ⟨b, off, e, e1⟩ := HRR.out _ HK12.out
        cases e
        obtain ⟨x0, x1, _, _, _⟩ := (HBX.out _ HK12.out).cells
        go_cut [7] (fun s w9 => Hid (∃ pb, s = .pointer (some ⟨pb, 0, none⟩) ∧ Blk w9 pb #[.int .i64 (t1 : Nat), .int .i64 (t2 : Nat), .int .i64 (t3 : Nat), .int .i64 (t4 : Nat)] 41 ∧ Keeps (fun _ => False) w2 w9))
        case first =>
          have hK0 : Keeps (fun _ => False) w2 w2 := Keeps.refl _ _
          have hK : Keeps (fun _ => False) w2 w2.drew := (Keeps.refl _ _).drew
          go_region_held3 (fun w' => w'.cell? ⟨bx, 0, none⟩ = some (.int .i64 (E : Int)) ∧ w'.cell? ⟨bx, 1, none⟩ = some (.slice va L.length vc) ∧ w'.cell? ⟨b, off + k, none⟩ = some (.int .i64 (v : Int)))
            (first | (with_reducible exact three_keep hK x0 x1 e1) | (with_reducible exact three_keep (hK.alloc _) x0 x1 e1) | (with_reducible exact three_keep (hK0.alloc _).drew x0 x1 e1) | (with_reducible exact three_keep (set4_keep hK (by first | omega | (simp; omega))) x0 x1 e1) | (with_reducible exact three_keep (set4_keep (hK.alloc _) (by first | omega | (simp; omega))) x0 x1 e1) | fail)
            (first
              | (go_at_call 16; have hKC := HK1.out.trans' HK12.out; with_reducible refine (HCC.out _ (by first | with_reducible exact hKC.trans' hK | with_reducible exact hKC.trans' (hK.alloc _) | with_reducible exact hKC.trans' (hK0.alloc _).drew)).mono ?_; rintro e5 w5 ⟨rfl, hk5⟩; have hK : Keeps (fun _ => False) w2 w5 := (by first | with_reducible exact hK.trans' hk5 | with_reducible exact (hK.alloc _).trans' hk5 | with_reducible exact (hK0.alloc _).drew.trans' hk5); have hs5 : w2.heap.size ≤ w5.heap.size := hK.size; (first | (with_reducible have hz := box2_keptD hk5; obtain ⟨c0, c1, c2, c3⟩ := hz.cells4; have f0 := hz.free 0; have f1 := hz.free 1; have f2 := hz.free 2; have f3 := hz.free 3) | (with_reducible have hz := box2_kept hk5; obtain ⟨c0, c1, c2, c3⟩ := hz.cells4; have f0 := hz.free 0; have f1 := hz.free 1; have f2 := hz.free 2; have f3 := hz.free 3) | skip))
              | fail)
          all_goals
            go_wp2_with fail
            go_meet
            refine Lib.hid ⟨_, rfl, ?_, ?_⟩
            · first | with_reducible exact Blk.new _ _ _ | with_reducible exact (Blk.new _ _ _).put4 _ _ _ _ | with_reducible exact hz.put4 _ _ _ _
            · first | with_reducible exact hK.alloc _ | with_reducible exact set4_keep hK (by first | omega | (simp; omega)) | with_reducible exact set4_keep (hK.alloc _) (by first | omega | (simp; omega))
        case rest =>
          obtain ⟨pb, rfl, hblk, hk9⟩ := hcut.out
          have HK9 := Lib.hid (HK2.out.trans' hk9)
          have HKF := Lib.hid (HK0.out.trans' (HK1.out.trans' (HKX.out.trans' HK9.out)))
          obtain ⟨c0, c1, c2, _⟩ := hblk.cells4
          clear hcut hblk hk9 HK2 HKX HK12 e1 x0 x1 HCC
          by_cases hq : (t1 : Int) - (t2 : Int) + (t3 : Int) = 2
          · have hne : (((t1 : Int) - (t2 : Int) + (t3 : Int)) != 2) = false := by rw [bne_eq_false_iff_eq]; exact hq
            have HYY := Lib.hid (HY2.out hq _ HK9.out)
            clear hq HY2 HNO2
            go_wp2_with fail
            exact ⟨⟨k + 1, by omega, by first | rfl | trivial, HYY⟩, by simp [intOf]; omega⟩
          · have hne : (((t1 : Int) - (t2 : Int) + (t3 : Int)) != 2) = true := by rw [bne_iff_ne]; exact hq
            have HFF := Lib.hid (HNO2.out hq)
            clear hq HY2 HNO2
            go_wp2_with fail
            go_ret
            exact ⟨by rw [HFF.out]; rfl, HKF.out⟩
      · have hb : (((gr.getD v 0 : Nat) : Int) != (v : Int)) = true := by rw [bne_iff_ne]; omega
        have HYY := Lib.hid (HY.out fun q => absurd q hv)
        clear HY HNO hv
        generalize gr.getD v 0 = z at *
        go_upto_region 5 with fail
        go_quiet (fail)
        go_wp2_with fail
        exact ⟨⟨k + 1, by omega, by first | rfl | trivial, Lib.hid (HYY.out _ ((Keeps.refl _ _).drewN _))⟩, by simp [intOf]; omega⟩
    · obtain rfl : k = m.length := by omega
      have HT : Hid (fb = true) := Lib.hid (HDF.out.2 HX.out.2)
      have HF := Lib.hid (HK0.out.trans' (HK1.out.trans' HX.out.1))
      clear HX
      go_wp2_with fail
      go_ret
      exact ⟨by rw [HT.out]; rfl, HF.out⟩
end
end Go.Proofs.YtdplphhlclhmfaaDoor
