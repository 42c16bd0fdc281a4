/- The document's End, Far. -/
import Derived.Test.YtdplphhlclhmfaaDoorKnB
import Derived.Test.YtdplphhlclhmfaaDoorKiN
namespace Go.Proofs.YtdplphhlclhmfaaDoor
open Go Go.RowKit
set_option linter.unusedVariables false
set_option linter.unusedSimpArgs false
set_option maxRecDepth 100000

section
variable {w : World} {B E : Nat} {v : Value} {L : List (List Nat)}
set_option maxHeartbeats 2000000 in
theorem rend (h : LsRow w B v L) (hg : Good E L) (h0 : 0 < L.length) (hV : L.length ≤ 1048576) (hE : E ≤ 1048576) {d : Nat} (hs : Stands L d) :
    Calls Tryd.prog 68 #[rval E v, .int .i64 (d : Int)] w (RetPost (.int .i64 (De L d : Nat)) w) := by
  obtain ⟨va, vc, rfl⟩ := h.form
  generalize hW : w.alloc (.cells #[.int .i64 (E : Int), .slice va L.length vc] 27) = w0
  have hK0 : Keeps (fun _ => False) w w0 := by rw [← hW]; exact (Keeps.refl _ _).alloc _
  have HB : Hid (Blk w0 w.heap.size #[.int .i64 (E : Int), .slice va L.length vc] 27) := by rw [← hW]; exact Lib.hid (Blk.new _ _ _)
  have HK0 := Lib.hid hK0
  have hbd := hg.toWF.bdS hs
  have hst := hg.twin _ hs
  have HF : Hid (Calls Tryd.prog 32 #[rval E (.slice va L.length vc), .int .i64 ((tw d : Nat) : Int)] w0 (RetPost (.tuple #[.int .i64 (De L d : Nat), .int .i64 (pos L (tw d) : Nat)]) w0)) := Lib.hid (by
    have := rfind (h.keep hK0) hg.toWF h0 hV hE ((tw d : Nat) : Int)
    rw [(fndV_at hg.toWF hst).1, (fndV_at hg.toWF hst).2] at this
    exact this)
  obtain ⟨x0, x1, _, _, _⟩ := HB.out.cells
  have hmod : ((d : Int).tmod 2) = ((d % 2 : Nat) : Int) := tmod_two d
  have hw1 : wrap64 ((d : Int) + 1) = (d : Int) + 1 := by unfold wrap64; omega
  have hw2 : wrap64 ((d : Int) - 1) = (d : Int) - 1 := by unfold wrap64; omega
  have htw : tw d = if d % 2 = 1 then d - 1 else d + 1 := rfl
  clear h hg hs hK0 hst hV hE h0
  generalize De L d = y at *
  generalize pos L (tw d) = py at *
  unfold RetPost rval at HF
  unfold RetPost rval
  by_cases hodd : d % 2 = 1
  · rw [hodd] at hmod
    have hz : ((1 : Nat) : Int) = 1 := rfl
    rw [hz] at hmod
    have hI : ((tw d : Nat) : Int) = (d : Int) - 1 := by rw [htw, if_pos hodd]; omega
    rw [hI] at HF
    clear htw hI hbd
    go_enter Tryd.func68, Tryd.ntmps68
    go_upto_region 1 with fail
    clear hW
    go_wp2_with fail
    with_reducible refine HF.out.mono ?_
    rintro e w1 ⟨rfl, hk⟩
    have HK := Lib.hid (HK0.out.trans' hk)
    clear hk HF x0 x1
    go_wp2_with fail
    go_ret
    exact ⟨rfl, HK.out⟩
  · have hev : d % 2 = 0 := by omega
    rw [hev] at hmod
    have hz : ((0 : Nat) : Int) = 0 := rfl
    rw [hz] at hmod
    have hI : ((tw d : Nat) : Int) = (d : Int) + 1 := by rw [htw, if_neg hodd]; omega
    rw [hI] at HF
    clear htw hI hbd
    go_enter Tryd.func68, Tryd.ntmps68
    go_upto_region 1 with fail
    clear hW
    go_wp2_with fail
    with_reducible refine HF.out.mono ?_
    rintro e w1 ⟨rfl, hk⟩
    have HK := Lib.hid (HK0.out.trans' hk)
    clear hk HF x0 x1
    go_wp2_with fail
    go_ret
    exact ⟨rfl, HK.out⟩
/-- The distances, in memory. -/
def FSt (fb V : Nat) (w0 : World) (f : List Int) (wr : World) : Prop := Blk wr fb (i64s f).toArray 3 ∧ f.length = V ∧ w0.heap.size ≤ fb ∧ Keeps (fun _ => False) w0 wr
theorem FSt.keep {fb V : Nat} {w0 wr w1 : World} {f : List Int} (h : FSt fb V w0 f wr) (hk : Keeps (fun _ => False) wr w1) : FSt fb V w0 f w1 := ⟨h.1.kept hk id, h.2.1, h.2.2.1, h.2.2.2.trans' hk⟩
theorem FSt.cell {fb V : Nat} {w0 wr : World} {f : List Int} (h : FSt fb V w0 f wr) {y : Nat} (hy : y < V) : wr.cell? ⟨fb, y, none⟩ = some (.int .i64 (f.getD y 0)) := by
  rw [h.1.cell, List.getElem?_toArray, i64s_get (by rw [h.2.1]; exact hy)]
theorem FSt.set {fb V : Nat} {w0 wr : World} {f : List Int} (h : FSt fb V w0 f wr) (y : Nat) (v : Int) : FSt fb V w0 (f.set y v) (wr.setCell ⟨fb, y, none⟩ (.int .i64 v)) := by
  refine ⟨?_, by rw [List.length_set]; exact h.2.1, h.2.2.1, h.2.2.2.setNew h.2.2.1 _ _⟩
  have := h.1.set y (.int .i64 v)
  rwa [i64s_set] at this
set_option maxHeartbeats 8000000 in
theorem rfar (h : LsRow w B v L) (hg : Good E L) (h0 : 0 < L.length) (hV : L.length ≤ 1048576) (hE : E ≤ 1048576) {b : Nat} (hb : b < L.length) :
    Calls Tryd.prog 67 #[rval E v, .int .i64 (b : Int)] w (FarPost L b w) := by
  obtain ⟨g, vc, rfl, hc, hB, hat⟩ := h.at_ h0
  generalize hW : w.alloc (.cells #[.int .i64 (E : Int), .slice (some ⟨g, 0, none⟩) L.length vc] 27) = w0
  have hK0 : Keeps (fun _ => False) w w0 := by rw [← hW]; exact (Keeps.refl _ _).alloc _
  have HB : Hid (Blk w0 w.heap.size #[.int .i64 (E : Int), .slice (some ⟨g, 0, none⟩) L.length vc] 27) := by rw [← hW]; exact Lib.hid (Blk.new _ _ _)
  have HK0 := Lib.hid hK0
  have HEN : Hid (∀ W, Keeps (fun _ => False) w0 W → ∀ d : Nat, Stands L d → Calls Tryd.prog 68 #[rval E (.slice (some ⟨g, 0, none⟩) L.length vc), .int .i64 (d : Int)] W (RetPost (.int .i64 (De L d : Nat)) W)) := Lib.hid fun W hk d hs => rend ((h.keep hK0).keep hk) hg h0 hV hE hs
  have HAT : Hid (∀ i, i < L.length → ∃ a c, ∀ W, Keeps (fun _ => False) w0 W → W.cell? ⟨g, i, none⟩ = some (.slice a (L.getD i []).length c) ∧ Rd W a (nats (L.getD i []))) := Lib.hid fun i hi => by
    obtain ⟨u, hu, hrow⟩ := hat i _ (some_getD (by omega))
    obtain ⟨a, c, rfl, hrd⟩ := hrow.rd
    exact ⟨a, c, fun W hk => ⟨hk.cellF (hK0.cellF hu), (hrd.keep hK0).keep hk⟩⟩
  have HG := Lib.hid hg
  have HLL : Hid (∀ v, v < L.length → (L.getD v []).length ≤ 4194304) := Lib.hid fun v hv => by
    have h1 : (L.getD v []).length ≤ (List.range (2 * E)).length := List.Nodup.length_le_of_subset (hg.toWF.nd (some_getD hv)) (fun x hx => List.mem_range.2 (hg.toWF.bd (some_getD hv) hx))
    rw [List.length_range] at h1
    omega
  obtain ⟨ib, hib, hb0, hb1, hb2⟩ := info_parts infoI
  have hmkI : ∀ W, (Instr.makeSlice 23 (.int .i64 (L.length : Int)) (.int .i64 (L.length : Int))).run Tryd.prog W = .ok (.slice (some ⟨W.heap.size, 0, none⟩) L.length L.length) (W.alloc (.cells (i64s (mfill L.length 0)).toArray 3)) := fun W => by
    have := run_make (P := Tryd.prog) W 23 3 ib _ Tryd.underlying23 hib hb0 .i64 .i64 (L.length : Int) (L.length : Int) (by omega) (Int.le_refl _) (by rw [hb2]; omega) (by omega)
    rw [this, hb1, show (Value.int .i64 0).cells = #[.int .i64 0] from rfl, Int.toNat_natCast, Nat.mul_one, madeCells_one]
    unfold mfill i64s
    simp
  obtain ⟨x0, x1, _, _, _⟩ := HB.out.cells
  clear h hg hat hib hb0 hb1 hb2
  unfold RetPost rval at HEN
  unfold FarPost rval
  have hbI : (b : Int) < (L.length : Int) := Int.ofNat_lt.2 hb
  go_enter Tryd.func67, Tryd.ntmps67
  go_upto_region 1 with fail
  clear hW
  go_upto_region 2 with fail
  have HS0 : Hid (FSt w0.heap.size L.length w0 (mfill L.length 0) (w0.alloc (.cells (i64s (mfill L.length 0)).toArray 3))) := Lib.hid ⟨Blk.new _ _ _, mfill_length _ _ (Nat.zero_le _), Nat.le_refl _, (Keeps.refl _ _).alloc _⟩
  clear hmkI x0 x1
  have HBX : Hid (w.heap.size ≤ w0.heap.size) := Lib.hid hK0.size
  generalize w0.alloc _ = w2 at *
  generalize w0.heap.size = fb at *
  generalize hbx : w.heap.size = bx at *
  go_upto_region 3 with fail
  go_loopw [6] (fun i wr => ∃ (k : Nat), k ≤ L.length ∧ i = .int .i64 (k : Int) ∧ Hid (FSt fb L.length w0 (mfill L.length k) wr)) (fun i _ => L.length - (intOf i).toNat)
  case atStart => exact ⟨0, Nat.zero_le _, rfl, HS0⟩
  case round =>
    obtain ⟨k, hk, rfl, HR⟩ := hrel
    clear HS0
    by_cases hkV : k < L.length
    · have hkI : (k : Int) < (L.length : Int) := Int.ofNat_lt.2 hkV
      have f0 := HR.out.1.free k
      have q0 := HR.out.cell hkV
      have HN : Hid (FSt fb L.length w0 (mfill L.length (k + 1)) (wr.setCell ⟨fb, k, none⟩ (.int .i64 (-1)))) := Lib.hid (by
        have := HR.out.set k (-1)
        rwa [mfill_set hkV] at this)
      generalize (mfill L.length k).getD k 0 = z at *
      clear HR
      go_wp2_with fail
      exact ⟨⟨k + 1, by omega, by simp, HN⟩, by simp [intOf]; omega⟩
    · obtain rfl : k = L.length := by omega
      have HO : Hid (FSt fb L.length w0 (List.replicate L.length (-1)) wr) := Lib.hid (by
        have := HR.out
        rwa [show mfill L.length L.length = List.replicate L.length (-1) by unfold mfill; simp] at this)
      clear HR
      have q0 := HO.out.cell hb
      have f0 := HO.out.1.free b
      have H1 : Hid (∃ f, RfI L b f 0 0 (L.getD 0 []) ∧ FSt fb L.length w0 f (wr.setCell ⟨fb, b, none⟩ (.int .i64 0))) := Lib.hid ⟨_, RfI.begin HG.out hb, HO.out.set b 0⟩
      clear HO
      generalize (List.replicate L.length (-1 : Int)).getD b 0 = z at *
      go_upto_region 8 with fail
      clear q0 f0
      go_loopw [7] (fun i wr => ∃ (n : Nat), n ≤ L.length ∧ i = .int .i64 (n : Int) ∧ Hid (∃ f, RfI L b f n 0 (L.getD 0 []) ∧ FSt fb L.length w0 f wr)) (fun i _ => L.length - (intOf i).toNat)
      case atStart => exact ⟨0, Nat.zero_le _, rfl, H1⟩
      case round =>
        obtain ⟨n, hn, rfl, HR⟩ := hrel
        clear H1
        by_cases hnV : n < L.length
        · have hnI : (n : Int) < (L.length : Int) := Int.ofNat_lt.2 hnV
          go_upto_region 11 with fail
          go_loopw [8] (fun i wr => ∃ (v : Nat), v ≤ L.length ∧ i = .int .i64 (v : Int) ∧ Hid (∃ f, RfI L b f n v (L.getD v []) ∧ FSt fb L.length w0 f wr)) (fun i _ => L.length - (intOf i).toNat)
          case atStart => exact ⟨0, Nat.zero_le _, rfl, HR⟩
          case round =>
            obtain ⟨v, hv, rfl, HX⟩ := hrel
            clear HR
            by_cases hvV : v < L.length
            · obtain ⟨f, h1, h2⟩ := HX.out
              clear HX
              have hvI : (v : Int) < (L.length : Int) := Int.ofNat_lt.2 hvV
              have q0 := h2.cell hvV
              by_cases hz : f.getD v 0 = (n : Int)
              · obtain ⟨ra, rc, hrw⟩ := HAT.out v hvV
                have HRW := Lib.hid hrw
                have hll := HLL.out v hvV
                have HDS : Hid (∀ d ∈ L.getD v [], Stands L d ∧ vtx L d = v) := Lib.hid fun d hd => ⟨stands_at (some_getD hvV) hd, HG.out.toWF.vtx (some_getD hvV) hd⟩
                rw [hz] at q0
                have HY : Hid (∃ f, RfI L b f n v ((L.getD v []).drop 0) ∧ f.getD v 0 = (n : Int) ∧ FSt fb L.length w0 f wr) := Lib.hid ⟨f, h1, hz, h2⟩
                clear h1 h2 hz hrw
                clear f
                have HNE : Hid (∀ f wz, RfI L b f n v [] → FSt fb L.length w0 f wz → RfI L b f n (v + 1) (L.getD (v + 1) []) ∧ FSt fb L.length w0 f wz) := Lib.hid fun f wz h1 h2 => ⟨h1.nextV HG.out (Or.inr rfl), h2⟩
                generalize L.getD v [] = row at *
                go_upto_region 15 with fail
                clear q0
                go_loopw [9] (fun i wr => ∃ (j : Nat), j ≤ row.length ∧ i = .int .i64 (j : Int) ∧ Hid (∃ f, RfI L b f n v (row.drop j) ∧ f.getD v 0 = (n : Int) ∧ FSt fb L.length w0 f wr)) (fun i _ => row.length - (intOf i).toNat)
                case atStart => exact ⟨0, Nat.zero_le _, rfl, HY⟩
                case round =>
                  obtain ⟨j, hj, rfl, HZ⟩ := hrel
                  clear HY
                  obtain ⟨f, h1, h2, h3⟩ := HZ.out
                  clear HZ
                  obtain ⟨x0, x1, _, _, _⟩ := (HB.out.kept h3.2.2.2 id).cells
                  have hrc := (HRW.out _ h3.2.2.2).1
                  by_cases hjl : j < row.length
                  · have hd0 : row.drop j = row.getD j 0 :: row.drop (j + 1) := by
                      rw [List.drop_eq_getElem_cons hjl, List.getD_eq_getElem?_getD, List.getElem?_eq_getElem hjl]; rfl
                    obtain ⟨hds, hdx⟩ := HDS.out _ (getD_mem hjl)
                    obtain ⟨b5, o5, e5, hcd⟩ := (HRW.out _ h3.2.2.2).2.nat hjl
                    subst e5
                    have hjI : (j : Int) < (row.length : Int) := by omega
                    rw [hd0] at h1
                    generalize row.getD j 0 = d at *
                    have hyl : De L d < L.length := HG.out.toWF.vtx_lt (HG.out.twin _ hds)
                    have hyI : ((De L d : Nat) : Int) < (L.length : Int) := Int.ofNat_lt.2 hyl
                    have HKE := Lib.hid fun W (hk : Keeps (fun _ => False) wr W) => HEN.out W (h3.2.2.2.trans' hk) d hds
                    have H1 := Lib.hid h1
                    have H2 := Lib.hid h2
                    have H3 := Lib.hid h3
                    have HD := Lib.hid (And.intro hds hdx)
                    have q1 := h3.cell hyl
                    have f1 := h3.1.free (De L d)
                    clear h1 h2 h3 hd0 hds hdx
                    generalize hy : De L d = y at *
                    have HYE := Lib.hid hy
                    clear hy
                    go_upto_region 17 with fail
                    go_cut [10] (fun t wd => t = .int .i64 (y : Int) ∧ Hid (Keeps (fun _ => False) wr wd))
                    case first =>
                      clear H1 H2 H3 HD HYE HDS HRW HNE q1 f1
                      have hK : Keeps (fun _ => False) wr wr.drew := (Keeps.refl _ _).drew
                      go_region_held3 (fun w' => w'.cell? ⟨bx, 0, none⟩ = some (.int .i64 (E : Int)) ∧ w'.cell? ⟨bx, 1, none⟩ = some (.slice (some ⟨g, 0, none⟩) L.length vc) ∧ w'.cell? ⟨g, v, none⟩ = some (.slice (some ⟨b5, o5, none⟩) row.length rc) ∧ w'.cell? ⟨b5, o5 + j, none⟩ = some (.int .i64 (d : Int)))
                        (first | exact ⟨hK.cellF x0, hK.cellF x1, hK.cellF hrc, hK.cellF hcd⟩ | fail)
                        (first
                          | (go_at_call 68; with_reducible refine (HKE.out _ hK).mono ?_; rintro e5 w5 ⟨rfl, hk5⟩; have hK : Keeps (fun _ => False) wr w5 := hK.trans' hk5)
                          | fail)
                      all_goals
                        go_wp2_with fail
                        go_meet
                        exact ⟨rfl, Lib.hid hK⟩
                    case rest =>
                      obtain ⟨rfl, HK5⟩ := hcut
                      have r1 := HK5.out.cellF q1
                      have H35 := Lib.hid (H3.out.keep HK5.out)
                      have f2 := H35.out.1.free y
                      clear HKE H3 q1 f1 x0 x1 hrc hcd HK5
                      by_cases hse : f.getD y 0 < 0
                      · have HN : Hid (∃ f, RfI L b f n v (row.drop (j + 1)) ∧ f.getD v 0 = (n : Int) ∧ FSt fb L.length w0 f (wc.setCell ⟨fb, y, none⟩ (.int .i64 ((n : Int) + 1)))) := Lib.hid (by
                          have h4 := H1.out.found HG.out H2.out HD.out.1 HD.out.2 (by rw [HYE.out]; exact hse)
                          rw [HYE.out] at h4
                          exact ⟨_, h4.1, h4.2, H35.out.set y _⟩)
                        have hw1 : wrap64 ((n : Int) + 1) = (n : Int) + 1 := by unfold wrap64; omega
                        clear H1 H2 HD HYE H35
                        generalize f.getD y 0 = z at *
                        go_wp2_with fail
                        exact ⟨⟨j + 1, by omega, by simp, HN⟩, by simp [intOf]; omega⟩
                      · have HN : Hid (∃ f, RfI L b f n v (row.drop (j + 1)) ∧ f.getD v 0 = (n : Int) ∧ FSt fb L.length w0 f wc) := Lib.hid (by
                          exact ⟨f, H1.out.seen HG.out H2.out HD.out.1 HD.out.2 (by rw [HYE.out]; omega), H2.out, H35.out⟩)
                        clear H1 H2 HD HYE H35
                        generalize f.getD y 0 = z at *
                        go_wp2_with fail
                        exact ⟨⟨j + 1, by omega, by simp, HN⟩, by simp [intOf]; omega⟩
                  · have HN : Hid (∃ f, RfI L b f n (v + 1) (L.getD (v + 1) []) ∧ FSt fb L.length w0 f wr) := Lib.hid ⟨f, HNE.out f wr (by rw [List.drop_eq_nil_of_le (by omega)] at h1; exact h1) h3⟩
                    have hjI : ¬ ((j : Int) < (row.length : Int)) := by omega
                    clear h1 h2 h3
                    go_wp2_with fail
                    exact ⟨⟨v + 1, by omega, by simp, HN⟩, by simp [intOf]; omega⟩
              · have hzb : (f.getD v 0 == (n : Int)) = false := by rw [beq_eq_false_iff_ne]; exact hz
                have hzn : (f.getD v 0 != (n : Int)) = true := by rw [bne_iff_ne]; exact hz
                have HN : Hid (∃ f, RfI L b f n (v + 1) (L.getD (v + 1) []) ∧ FSt fb L.length w0 f wr) := Lib.hid ⟨f, h1.nextV HG.out (Or.inl hz), h2⟩
                clear h1 h2
                generalize f.getD v 0 = z at *
                clear hz
                go_wp2_with fail
                exact ⟨⟨v + 1, by omega, by simp, HN⟩, by simp [intOf]; omega⟩
            · obtain rfl : v = L.length := by omega
              have HN : Hid (∃ f, RfI L b f (n + 1) 0 (L.getD 0 []) ∧ FSt fb L.length w0 f wr) := Lib.hid (by
                obtain ⟨f, h1, h2⟩ := HX.out
                exact ⟨f, h1.nextN HG.out (Nat.le_refl _), h2⟩)
              clear HX
              go_wp2_with fail
              exact ⟨⟨n + 1, by omega, by simp, HN⟩, by simp [intOf]; omega⟩
        · obtain rfl : n = L.length := by omega
          have HF : Hid (∃ f, FarOk L b f ∧ Blk wr fb (i64s f).toArray 3 ∧ bx ≤ fb ∧ Keeps (fun _ => False) w wr) := Lib.hid (by
            obtain ⟨f, h1, h2⟩ := HR.out
            exact ⟨f, h1.done HG.out hb, h2.1, by have := h2.2.2.1; have := HBX.out; omega, HK0.out.trans' h2.2.2.2⟩)
          clear HR
          go_wp2_with fail
          go_ret
          obtain ⟨f, h1, h2, h3, h4⟩ := HF.out
          exact ⟨fb, f, rfl, h1, h2, by rw [hbx]; exact h3, h4⟩
end
end Go.Proofs.YtdplphhlclhmfaaDoor
