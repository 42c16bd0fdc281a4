/- The document's groups of vertices; Legal. -/
import Derived.Test.YtdplphhlclhmfaaDoorRgA
import Derived.Test.YtdplphhlclhmfaaDoorSpG
import Derived.Deep.RegionHeld3
namespace Go.Proofs.YtdplphhlclhmfaaDoor
open Go Go.RowKit
set_option linter.unusedVariables false
set_option linter.unusedSimpArgs false
set_option maxRecDepth 100000

theorem grpS_ok {E : Nat} {L : List (List Nat)} (h : Good E L) {g : List Nat} (hg : GOk L.length g) {d : Nat} (hs : Stands L d) : GOk L.length (grpS L g d) := by
  unfold grpS
  split
  · have h1 : Stands L (d + 1) := by
      have := (h.pair (d / 2)).2 (by rwa [show 2 * (d / 2) = d by omega])
      rwa [show 2 * (d / 2) + 1 = d + 1 by omega] at this
    exact join_ok hg (h.toWF.vtx_lt hs) (h.toWF.vtx_lt h1)
  · exact hg
theorem grpS_fold_ok {E : Nat} {L : List (List Nat)} (h : Good E L) : ∀ (D : List Nat) (g : List Nat), GOk L.length g → (∀ d ∈ D, Stands L d) → GOk L.length (D.foldl (grpS L) g)
  | [], g, hg, _ => hg
  | d :: D, g, hg, hd => grpS_fold_ok h D _ (grpS_ok h hg (hd d (List.mem_cons_self ..))) fun x hx => hd x (List.mem_cons_of_mem _ hx)
/-- A list of numbers, anywhere. -/
def LstPost (l : List Nat) (w : World) (e : Ending) (w' : World) : Prop := ∃ a c, e = .returned (.slice a l.length c) ∧ Rd w' a (nats l) ∧ Keeps (fun _ => False) w w'
def LstFPost (l : List Nat) (w : World) (e : Ending) (w' : World) : Prop := ∃ a c, e = .returned (.slice a l.length c) ∧ Rd w' a (nats l) ∧ Keeps (fun _ => False) w w' ∧ Fresh w.heap.size a
section
variable {w : World} {B E : Nat} {v : Value} {L : List (List Nat)}
set_option maxHeartbeats 4000000 in
theorem rgroupsF (h : LsRow w B v L) (hg : Good E L) (h0 : 0 < L.length) (hV : L.length ≤ 1048576) (hE : E ≤ 1048576) :
    Calls Tryd.prog 23 #[rval E v] w (LstFPost (grp L E) w) := by
  obtain ⟨va, vc, rfl⟩ := h.form
  generalize hW : w.alloc (.cells #[.int .i64 (E : Int), .slice va L.length vc] 27) = w0
  have hK0 : Keeps (fun _ => False) w w0 := by rw [← hW]; exact (Keeps.refl _ _).alloc _
  have HB : Hid (Blk w0 w.heap.size #[.int .i64 (E : Int), .slice va L.length vc] 27) := by rw [← hW]; exact Lib.hid (Blk.new _ _ _)
  have HK0 := Lib.hid hK0
  have HD := Lib.hid (fun W (hk : Keeps (fun _ => False) w0 W) => rdarts ((h.keep hK0).keep hk) hg.toWF h0 hV hE)
  have HN := Lib.hid (rnew07 L.length hV w0)
  have HF : Hid (∀ W, Keeps (fun _ => False) w0 W → ∀ d : Nat, Stands L d → Calls Tryd.prog 32 #[rval E (.slice va L.length vc), .int .i64 (d : Int)] W (RetPost (.tuple #[.int .i64 (vtx L d : Nat), .int .i64 (pos L d : Nat)]) W)) := Lib.hid fun W hk d hs => by
    have := rfind ((h.keep hK0).keep hk) hg.toWF h0 hV hE (d : Int)
    rw [(fndV_at hg.toWF hs).1, (fndV_at hg.toWF hs).2] at this
    exact this
  have HMEM : Hid (∀ i, i < (dartsN L (2 * E)).length → (dartsN L (2 * E)).getD i 0 < 2 * E ∧ Stands L ((dartsN L (2 * E)).getD i 0)) := fun i hi => by have := getD_mem hi; simpa [dartsN] using this
  have hDl : (dartsN L (2 * E)).length ≤ 2 * E := dartsN_le L (2 * E)
  have HG := Lib.hid hg
  have HEND : Hid ((dartsN L (2 * E)).foldl (grpS L) (aloneG L.length) = grp L E) := Lib.hid (grp_darts hg E)
  have HAL : Hid (∀ i, GOk L.length (((dartsN L (2 * E)).take i).foldl (grpS L) (aloneG L.length))) := Lib.hid fun i => grpS_fold_ok hg _ _ (alone_ok _) fun d hd => by
    have := List.mem_of_mem_take hd
    rw [mem_darts hg.toWF] at this
    exact this
  have hGL : (grp L E).length = L.length := (grp_ok hg).len
  have HGL := Lib.hid hGL
  obtain ⟨x0, x1, _, _, _⟩ := HB.out.cells
  clear h hg hK0 hGL
  generalize dartsN L (2 * E) = D at *
  unfold DsPost rval at HD
  unfold DsPost at HN
  rw [show (aloneG L.length).length = L.length by simp [aloneG]] at HN
  unfold RetPost rval at HF
  unfold LstFPost rval
  go_enter Tryd.func23, Tryd.ntmps23
  go_upto_region 1 with fail
  clear hW
  go_wp2_with fail
  with_reducible refine HN.out.mono ?_
  rintro e w2 ⟨v2, rfl, hro, hk⟩
  obtain ⟨a2, c2, rfl, hrd, _⟩ := Rd.of_own hro
  have HFR : Hid (Fresh w.heap.size a2) := Lib.hid (Fresh.of_own hro rfl HK0.out.size)
  have HR2 : Hid (Rd w2 a2 (nats ((D.take 0).foldl (grpS L) (aloneG L.length)))) := Lib.hid hrd
  have HK2 := Lib.hid hk
  obtain ⟨x0, x1, _, _, _⟩ := (HB.out.kept HK2.out id).cells
  clear hro hrd hk HN
  go_wp2_with fail
  with_reducible refine (HD.out _ HK2.out).mono ?_
  rintro e w3 ⟨v3, rfl, hro, hk⟩
  obtain ⟨a3, c3, rfl, hrd, _⟩ := Rd.of_own hro
  have HR3 := Lib.hid hrd
  have HK3 := Lib.hid (HK2.out.trans' hk)
  have HS0 : Hid (Rd w3 a2 (nats ((D.take 0).foldl (grpS L) (aloneG L.length))) ∧ Keeps (fun _ => False) w3 w3 ∧ Fresh w.heap.size a2) := Lib.hid ⟨HR2.out.keep hk, Keeps.refl _ _, HFR.out⟩
  clear hro hrd hk HD HR2 HK2 x0 x1 HFR
  go_wp2_with fail
  go_loopw [3, 5] (fun o i wr => ∃ (j : Nat) (ga : Option Addr) (gc : Nat), j ≤ D.length ∧ i = .int .i64 (j : Int) ∧ o = .slice ga L.length gc ∧ Hid (Rd wr ga (nats ((D.take j).foldl (grpS L) (aloneG L.length))) ∧ Keeps (fun _ => False) w3 wr ∧ Fresh w.heap.size ga)) (fun _ i _ => D.length - (intOf i).toNat)
  case atStart => exact ⟨0, _, _, Nat.zero_le _, rfl, rfl, HS0⟩
  case round =>
    obtain ⟨j, ga, gc, hj, rfl, rfl, HS⟩ := hrel
    clear HS0
    by_cases hlt : j < D.length
    · obtain ⟨x0, x1, _, _, _⟩ := (HB.out.kept (HK3.out.trans' HS.out.2.1) id).cells
      obtain ⟨b, off, rfl, hc⟩ := (HR3.out.keep HS.out.2.1).nat hlt
      obtain ⟨hdE, hs⟩ := HMEM.out j hlt
      have hst : (D.take (j + 1)).foldl (grpS L) (aloneG L.length) = grpS L ((D.take j).foldl (grpS L) (aloneG L.length)) (D.getD j 0) := by
        rw [take_next hlt, List.foldl_append]; rfl
      have hjI : (j : Int) < (D.length : Int) := by omega
      have HGK := Lib.hid (HAL.out j)
      generalize hd : D.getD j 0 = d at *
      clear hd
      have hmod : ((d : Int).tmod 2) = ((d % 2 : Nat) : Int) := tmod_two d
      by_cases hev : d % 2 = 0
      · rw [hev] at hmod
        have hz : ((0 : Nat) : Int) = 0 := rfl
        rw [hz] at hmod
        have h1 : Stands L (d + 1) := by
          have := (HG.out.pair (d / 2)).2 (by rwa [show 2 * (d / 2) = d by omega])
          rwa [show 2 * (d / 2) + 1 = d + 1 by omega] at this
        have hst2 : (D.take (j + 1)).foldl (grpS L) (aloneG L.length) = joinG ((D.take j).foldl (grpS L) (aloneG L.length)) (vtx L d) (vtx L (d + 1)) := by
          rw [hst]; unfold grpS; rw [if_pos hev]
        have hva := HG.out.toWF.vtx_lt hs
        have hvb := HG.out.toWF.vtx_lt h1
        have HFA := Lib.hid (fun W hk => HF.out W hk d hs)
        have HFB : Hid (∀ W, Keeps (fun _ => False) w0 W → _) := Lib.hid (fun W hk => HF.out W hk (d + 1) h1)
        have hd1 : ((d + 1 : Nat) : Int) = (d : Int) + 1 := by omega
        have hwr : IntKind.i64.wrap ((d : Int) + 1) = (d : Int) + 1 := by rw [IntKind.wrap_i64]; omega
        rw [hd1] at HFB
        have HST := Lib.hid hst2
        clear hst hst2 h1 hs hev hd1 HF HAL
        generalize pos L d = pa at *
        generalize pos L (d + 1) = pb at *
        generalize vtx L d = x at *
        generalize vtx L (d + 1) = y at *
        have hK : Keeps (fun _ => False) wr wr.drew := (Keeps.refl _ _).drew
        go_upto_region 7 with fail
        go_region_held3 (fun w' => w'.cell? ⟨w.heap.size, 0, none⟩ = some (.int .i64 (E : Int)) ∧ w'.cell? ⟨w.heap.size, 1, none⟩ = some (.slice va L.length vc) ∧ w'.cell? ⟨b, off + j, none⟩ = some (.int .i64 (d : Int)))
          (first | exact ⟨hK.cellF x0, hK.cellF x1, hK.cellF hc⟩ | fail)
          (first
            | (go_at_call 32; have hKK := HK3.out.trans' (HS.out.2.1.trans' hK); with_reducible refine (HFA.out _ hKK).mono ?_; rintro e5 w5 ⟨rfl, hk5⟩; have hK : Keeps (fun _ => False) wr w5 := hK.trans' hk5)
            | fail)
        all_goals
          have H5 : Hid (Keeps (fun _ => False) wr w5) := Lib.hid hK
          have y0 := hK.cellF x0
          have y1 := hK.cellF x1
          have yc := hK.cellF hc
          clear hK hKK hk5 x0 x1 hc
          have hK : Keeps (fun _ => False) w5 w5.drew := (Keeps.refl _ _).drew
          go_upto_region 8 with fail
          go_region_held3 (fun w' => w'.cell? ⟨w.heap.size, 0, none⟩ = some (.int .i64 (E : Int)) ∧ w'.cell? ⟨w.heap.size, 1, none⟩ = some (.slice va L.length vc) ∧ w'.cell? ⟨b, off + j, none⟩ = some (.int .i64 (d : Int)))
            (first | exact ⟨hK.cellF y0, hK.cellF y1, hK.cellF yc⟩ | fail)
            (first
              | (go_at_call 32; have hKK := HK3.out.trans' (HS.out.2.1.trans' (H5.out.trans' hK)); with_reducible refine (HFB.out _ hKK).mono ?_; rintro e6 w6 ⟨rfl, hk6⟩; have hK : Keeps (fun _ => False) w5 w6 := hK.trans' hk6)
              | fail)
          all_goals
            have H6 : Hid (Keeps (fun _ => False) wr w6) := Lib.hid (H5.out.trans' hK)
            clear hK hKK hk6 y0 y1 yc H5 HFA HFB
            have HJ := Lib.hid (rjoin07 gc (HS.out.1.keep H6.out) HGK.out hV hva hvb)
            unfold JoinDPost at HJ
            go_wp2_with fail
            with_reducible refine HJ.out.mono ?_
            rintro e7 w7 ⟨a7, c7, t7, rfl, hr7, hk7, hf7⟩
            have H7 : Hid (Rd w7 a7 (nats ((D.take (j + 1)).foldl (grpS L) (aloneG L.length))) ∧ Keeps (fun _ => False) w3 w7 ∧ Fresh w.heap.size a7) := Lib.hid ⟨by rw [HST.out]; exact hr7, HS.out.2.1.trans' (H6.out.trans' hk7), hf7 _ (Nat.le_trans HK0.out.size (Nat.le_trans HK3.out.size (Nat.le_trans HS.out.2.1.size H6.out.size))) HS.out.2.2⟩
            clear hr7 hk7 hf7 HJ HS H6
            go_wp2_with fail
            exact ⟨⟨j + 1, a7, c7, by omega, by first | rfl | trivial, by first | rfl | trivial, H7⟩, by simp [intOf]; omega⟩
      · have hmod2 : ((d % 2 : Nat) : Int) = 1 := by omega
        rw [hmod2] at hmod
        have HN : Hid (Rd wr ga (nats ((D.take (j + 1)).foldl (grpS L) (aloneG L.length))) ∧ Keeps (fun _ => False) w3 wr ∧ Fresh w.heap.size ga) := Lib.hid ⟨by rw [hst]; unfold grpS; rw [if_neg hev]; exact HS.out.1, HS.out.2⟩
        clear hst hs hev hmod2 HF HAL x0 x1
        go_wp2_with fail
        exact ⟨⟨j + 1, ga, gc, by omega, by first | rfl | trivial, by first | rfl | trivial, HN⟩, by simp [intOf]; omega⟩
    · obtain rfl : j = D.length := by omega
      have HFIN : Hid (Rd wr ga (nats (grp L E)) ∧ Keeps (fun _ => False) w wr ∧ Fresh w.heap.size ga) := Lib.hid ⟨by have := HS.out.1; rw [List.take_length, HEND.out] at this; exact this, HK0.out.trans' (HK3.out.trans' HS.out.2.1), HS.out.2.2⟩
      clear HS HF HAL HMEM
      go_wp2_with fail
      go_ret
      exact ⟨ga, gc, by rw [HGL.out]; rfl, HFIN.out.1, HFIN.out.2.1, HFIN.out.2.2⟩
theorem rgroups (h : LsRow w B v L) (hg : Good E L) (h0 : 0 < L.length) (hV : L.length ≤ 1048576) (hE : E ≤ 1048576) :
    Calls Tryd.prog 23 #[rval E v] w (LstPost (grp L E) w) := by
  refine (rgroupsF h hg h0 hV hE).mono ?_
  rintro e w1 ⟨a, c, h1, h2, h3, _⟩
  exact ⟨a, c, h1, h2, h3⟩
set_option maxHeartbeats 4000000 in
theorem rlegal (h : LsRow w B v L) (hg : Good E L) (h0 : 0 < L.length) (hV : L.length ≤ 1048576) (hE : E ≤ 1048576) (a b : Int × Int) (ha : chkErr L a.1 a.2 = 0) (hb : chkErr L b.1 b.2 = 0) :
    Calls Tryd.prog 21 #[rval E v, cArr a, cArr b] w (RetPost (.bool (decide (legalC L E a b))) w) := by
  obtain ⟨x, hx, l, hxl, _⟩ := chk_ok ha
  obtain ⟨y, hy, l2, hyl, _⟩ := chk_ok hb
  have hxN := (List.getElem?_eq_some_iff.1 hxl).1
  have hyN := (List.getElem?_eq_some_iff.1 hyl).1
  obtain ⟨a1, a2⟩ := a
  obtain ⟨b1, b2⟩ := b
  simp only at hx hy
  subst hx hy
  obtain ⟨va, vc, rfl⟩ := h.form
  generalize hW : ((w.alloc (.cells #[.int .i64 (E : Int), .slice va L.length vc] 27)).alloc (.cells #[.int .i64 (x : Int), .int .i64 a2] 45)).alloc (.cells #[.int .i64 (y : Int), .int .i64 b2] 45) = w0
  have hK0 : Keeps (fun _ => False) w w0 := by rw [← hW]; exact (((Keeps.refl _ _).alloc _).alloc _).alloc _
  have hB : Blk w0 w.heap.size #[.int .i64 (E : Int), .slice va L.length vc] 27 := by rw [← hW]; exact ((Blk.new _ _ _).alloc _).alloc _
  have hA : Blk w0 (w.heap.size + 1) #[.int .i64 (x : Int), .int .i64 a2] 45 := by rw [← hW]; exact (Blk.newAt _ _ _ (by simp)).alloc _
  have hC : Blk w0 (w.heap.size + 1 + 1) #[.int .i64 (y : Int), .int .i64 b2] 45 := by rw [← hW]; exact Blk.newAt _ _ _ (by simp)
  have HK0 := Lib.hid hK0
  have HBT := Lib.hid hB
  have HBA := Lib.hid hA
  have HBC := Lib.hid hC
  have HG := Lib.hid (rgroups (h.keep hK0) hg h0 hV hE)
  have HSM := Lib.hid (fun W (hk : Keeps (fun _ => False) w0 W) => rsame ((h.keep hK0).keep hk) hg hV hE (x, a2) (y, b2) ha hb)
  have hgl : (grp L E).length = L.length := (grp_ok hg).len
  obtain ⟨x0, x1, _, _, _⟩ := hB.cells
  have hle : legalC L E (x, a2) (y, b2) ↔ sameC L E (x, a2) (y, b2) ∨ (grp L E).getD x 0 ≠ (grp L E).getD y 0 := by unfold legalC; simp only [Int.toNat_natCast]
  have HLE := Lib.hid hle
  clear h hA hB hC hK0 ha hb hg hle
  unfold RetPost rval cArr at HSM
  unfold LstPost rval at HG
  unfold RetPost rval cArr
  simp only at HSM
  go_enter Tryd.func21, Tryd.ntmps21
  go_upto_region 1 with fail
  clear hW
  go_wp2_with fail
  with_reducible refine HG.out.mono ?_
  rintro e w1 ⟨ga, gc, rfl, hr, hk⟩
  obtain ⟨g1, o1, rfl, ex⟩ := hr.nat (i := x) (by omega)
  obtain ⟨g2, o2, e, ey⟩ := hr.nat (i := y) (by omega)
  cases e
  have HK1 := Lib.hid hk
  clear hk hr HG x0 x1
  obtain ⟨x0, x1, _, _, _⟩ := (HBT.out.kept HK1.out id).cells
  obtain ⟨y0, y1, _, _, _⟩ := (HBA.out.kept HK1.out id).cells
  obtain ⟨z0, z1, _, _, _⟩ := (HBC.out.kept HK1.out id).cells
  have hK : Keeps (fun _ => False) w1 w1.drew := (Keeps.refl _ _).drew
  have hxI : (x : Int) < ((grp L E).length : Int) := by omega
  have hyI : (y : Int) < ((grp L E).length : Int) := by omega
  generalize (grp L E).length = gn at *
  by_cases he : (grp L E).getD x 0 = (grp L E).getD y 0
  · have HD : Hid (decide (legalC L E (x, a2) (y, b2)) = decide (sameC L E (x, a2) (y, b2))) := Lib.hid (decide_eq_decide.2 ⟨fun q => (HLE.out.1 q).resolve_right (fun k => k he), fun q => HLE.out.2 (Or.inl q)⟩)
    rw [he] at ex
    clear he HLE
    generalize (grp L E).getD y 0 = r at *
    have hne : ((r : Int) != (r : Int)) = false := by simp
    go_upto_region 2 with fail
    go_region_held3 (fun w' => w'.cell? ⟨w.heap.size, 0, none⟩ = some (.int .i64 (E : Int)) ∧ w'.cell? ⟨w.heap.size, 1, none⟩ = some (.slice va L.length vc) ∧ w'.cell? ⟨w.heap.size + 1, 0, none⟩ = some (.int .i64 (x : Int)) ∧ w'.cell? ⟨w.heap.size + 1, 1, none⟩ = some (.int .i64 a2) ∧ w'.cell? ⟨w.heap.size + 1 + 1, 0, none⟩ = some (.int .i64 (y : Int)) ∧ w'.cell? ⟨w.heap.size + 1 + 1, 1, none⟩ = some (.int .i64 b2) ∧ w'.cell? ⟨g1, o1 + x, none⟩ = some (.int .i64 (r : Int)) ∧ w'.cell? ⟨g1, o1 + y, none⟩ = some (.int .i64 (r : Int)))
      (first | exact ⟨hK.cellF x0, hK.cellF x1, hK.cellF y0, hK.cellF y1, hK.cellF z0, hK.cellF z1, hK.cellF ex, hK.cellF ey⟩ | fail)
      (first
        | (go_at_call 48; have hKK := HK1.out.trans' hK; with_reducible refine (HSM.out _ hKK).mono ?_; rintro e5 w5 ⟨rfl, hk5⟩; have hK : Keeps (fun _ => False) w1 w5 := hK.trans' hk5)
        | fail)
    all_goals
      have HF := Lib.hid (HK0.out.trans' (HK1.out.trans' hK))
      clear hK hKK hk5
      rw [← HD.out] at *
      go_wp2_with fail
      go_ret
      exact ⟨rfl, HF.out⟩
  · have HD : Hid (decide (legalC L E (x, a2) (y, b2)) = true) := Lib.hid (decide_eq_true (HLE.out.2 (Or.inr he)))
    have hne : ((((grp L E).getD x 0 : Nat) : Int) != (((grp L E).getD y 0 : Nat) : Int)) = true := by rw [bne_iff_ne]; omega
    clear he HLE
    generalize (grp L E).getD x 0 = r at *
    generalize (grp L E).getD y 0 = q at *
    go_wp2_with fail
    go_quiet (fail)
    go_wp2_with fail
    go_ret
    exact ⟨by rw [HD.out]; rfl, HK0.out.trans' (HK1.out.trans' ((Keeps.refl _ _).drewN _))⟩
end
end Go.Proofs.YtdplphhlclhmfaaDoor
