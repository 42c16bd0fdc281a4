/- Chapter 10's laws: all that is told of a dart and of a vertex. -/
import Derived.Test.YtjmkejkhpdhhbaaDoorLwF
import Derived.Deep.RegionHeld3
namespace Go.Proofs.YtjmkejkhpdhhbaaDoor
open Go Go.RowKit
set_option linter.unusedVariables false
set_option linter.unusedSimpArgs false
set_option maxRecDepth 100000

section
variable {w : World} {own : Nat → Prop} {p E B : Nat} {L : List (List Nat)}
theorem tround (h : Tu w own p E L) {n : Nat} (hn : n < L.length) :
    Calls Tryd.prog 24 #[tptr p, .int .i64 (n : Int)] w (LPost (rnd (L.getD n [])) 0 w) := by
  by_cases h0 : L.getD n [] = []
  · have hv : vErr L (n : Int) = 0 := by unfold vErr; rw [if_neg (by omega)]
    have := tround_none h (n : Int) (Or.inr (by rw [Int.toNat_natCast]; exact h0))
    rw [hv] at this
    rw [h0, rnd_nil]; exact this
  · exact tround_some h (some_getD hn) h0
end
theorem Tu.len {w : World} {own : Nat → Prop} {p E : Nat} {L : List (List Nat)} (h : Tu w own p E L) {n : Nat} {l : List Nat} (hl : L[n]? = some l) : l.length ≤ 2 * E := by
  obtain ⟨_, _, _, _, _, _, _, _, hr⟩ := h.ex
  exact hr.len hl
section
variable {w : World} {own : Nat → Prop} {p E B : Nat} {v : Value} {L : List (List Nat)}
set_option maxHeartbeats 4000000 in
theorem told10 (ht : Tu w own p E L) (h : LsRow w B v L) (hg : Good E L) (hE : ErrT w) (d u : Int) :
    Calls Tryd.prog 35 #[tptr p, rval E v, .int .i64 d, .int .i64 u] w (TruePost w) := by
  have hV := ht.v2
  have hV1 := ht.v1
  have hEE := ht.e2
  have h0 : 0 < L.length := hV1
  obtain ⟨va, vc, rfl⟩ := h.form
  generalize hW : w.alloc (.cells #[.int .i64 (E : Int), .slice va L.length vc] 32) = w0
  have hK0 : Keeps (fun _ => False) w w0 := by rw [← hW]; exact (Keeps.refl _ _).alloc _
  have HBT : Hid (Blk w0 w.heap.size #[.int .i64 (E : Int), .slice va L.length vc] 32) := by rw [← hW]; exact Blk.new w _ _
  have HT0 := Lib.hid (ht.keep hK0)
  have HL0 := Lib.hid (h.keep hK0)
  have HE0 := Lib.hid (hE.keep hK0)
  have HK0 := Lib.hid hK0
  have HNX := Lib.hid (fun W (hk : Keeps (fun _ => False) w0 W) => tnext (HT0.out.keep hk) d)
  have HPV := Lib.hid (fun W (hk : Keeps (fun _ => False) w0 W) => tprev (HT0.out.keep hk) d)
  have HOR := Lib.hid (fun W (hk : Keeps (fun _ => False) w0 W) => torigin (HT0.out.keep hk) d)
  have HFD := Lib.hid (fun W (hk : Keeps (fun _ => False) w0 W) => rfind (HL0.out.keep hk) hg.toWF h0 hV hEE d)
  have HDG := Lib.hid (fun W (hk : Keeps (fun _ => False) w0 W) => tdegree (HT0.out.keep hk) u)
  have HNM := Lib.hid (fun k W (hk : Keeps (fun _ => False) w0 W) => num10_val k W (HE0.out.keep hk))
  obtain ⟨nx, pv, og, er, fv, fi, hnx, hpv, hor, her, hfv, hfi⟩ : ∃ (nx pv og : Int) (er : Nat) (fv fi : Int), (if dErr E L d = 0 then (nxt L d.toNat : Int) else 0) = nx ∧ (if dErr E L d = 0 then (prv L d.toNat : Int) else 0) = pv ∧ (if dErr E L d = 0 then (vtx L d.toNat : Int) else 0) = og ∧ dErr E L d = er ∧ fndV L d = fv ∧ fndI L d = fi := ⟨_, _, _, _, _, _, rfl, rfl, rfl, rfl, rfl, rfl⟩
  have hcase : Hid ((er = 12 ∧ (d < 0 ∨ 0 ≤ d ∧ (2 * E : Int) ≤ d)) ∨ (er = 13 ∧ 0 ≤ d ∧ d < 2 * E ∧ fv < 0) ∨ ∃ n : Nat, er = 0 ∧ d = n ∧ Stands L n ∧ n < 2 * E ∧ nx = (nxt L n : Nat) ∧ pv = (prv L n : Nat) ∧ og = (vtx L n : Nat) ∧ fv = (vtx L n : Nat)) := by
    have hd := her
    unfold dErr at hd
    by_cases h1 : d < 0 ∨ (2 * E : Int) ≤ d
    · rw [if_pos h1] at hd
      exact Lib.hid (Or.inl ⟨hd.symm, by omega⟩)
    · rw [if_neg h1] at hd
      obtain ⟨n, rfl⟩ := Int.eq_ofNat_of_zero_le (show 0 ≤ d by omega)
      rw [Int.toNat_natCast] at hd hnx hpv hor
      by_cases h2 : Stands L n
      · rw [if_pos h2] at hd
        rw [her, if_pos hd.symm] at hnx hpv hor
        exact Lib.hid (Or.inr (Or.inr ⟨n, hd.symm, rfl, h2, by omega, hnx.symm, hpv.symm, hor.symm, by rw [← hfv, (fndV_at hg.toWF h2).1]⟩))
      · rw [if_neg h2] at hd
        exact Lib.hid (Or.inr (Or.inl ⟨hd.symm, by omega, by omega, by rw [← hfv, fndV_neg h2]; decide⟩))
  rw [hnx, her] at HNX
  rw [hpv, her] at HPV
  rw [hor, her] at HOR
  rw [hfv, hfi] at HFD
  clear hnx hpv hor her hfv hfi
  unfold RetPost tptr at HNX HPV HOR HDG
  unfold RetPost rval at HFD
  unfold NumPost at HNM
  clear hK0 ht h hE
  unfold rval tptr
  have hcaseU : Hid ((u < 0 ∧ vErr L u = 12) ∨ (0 ≤ u ∧ (L.length : Int) ≤ u ∧ vErr L u = 12) ∨ ∃ m : Nat, u = m ∧ m < L.length ∧ vErr L u = 0) := by
    unfold vErr
    by_cases h1 : u < 0 ∨ (L.length : Int) ≤ u
    · rw [if_pos h1]
      by_cases h2 : u < 0
      · exact Lib.hid (Or.inl ⟨h2, rfl⟩)
      · exact Lib.hid (Or.inr (Or.inl ⟨by omega, by omega, rfl⟩))
    · rw [if_neg h1]
      obtain ⟨m, rfl⟩ := Int.eq_ofNat_of_zero_le (show 0 ≤ u by omega)
      exact Lib.hid (Or.inr (Or.inr ⟨m, rfl, by omega, rfl⟩))
  have HNX2 := Lib.hid (fun W (hk : Keeps (fun _ => False) w0 W) n (hs : Stands L n) b hb => rnext (HL0.out.keep hk) hg.toWF hV hEE hs b hb)
  unfold RetPost rval at HNX2
  go_enter Tryd.func35, Tryd.ntmps35
  go_upto_region 1 with fail
  clear hW
  have t0 := HBT.out.cell (i := 0)
  have t1 := HBT.out.cell (i := 1)
  simp only [List.getElem?_toArray, List.getElem?_cons_zero, List.getElem?_cons_succ] at t0 t1
  go_wp2_with fail
  refine (HNX.out w0 (Keeps.refl _ _)).mono ?_
  rintro e w1 ⟨rfl, hk⟩
  have H1 := Lib.hid hk
  clear hk
  go_wp2_with fail
  refine (HPV.out _ H1.out).mono ?_
  rintro e w2 ⟨rfl, hk⟩
  have H2 := Lib.hid (H1.out.trans' hk)
  clear hk H1
  go_wp2_with fail
  refine (HOR.out _ H2.out).mono ?_
  rintro e w3 ⟨rfl, hk⟩
  have H3 := Lib.hid (H2.out.trans' hk)
  have r0 := H3.out.cellF t0
  have r1 := H3.out.cellF t1
  clear hk H2
  go_upto_region 4 with fail
  go_wp2_with fail
  refine (HFD.out _ H3.out).mono ?_
  rintro e w4 ⟨rfl, hk⟩
  have H4 := Lib.hid (H3.out.trans' hk)
  have s0 := H4.out.cellF t0
  have s1 := H4.out.cellF t1
  clear hk H3 HNX HPV HOR HFD r0 r1
  have hw2 : wrap64 (2 * (E : Int)) = 2 * (E : Int) := by unfold wrap64; omega
  rcases hcase.out with ⟨h12, hd⟩ | ⟨h13, hd0, hd1, hfv⟩ | ⟨n, h0e, rfl, hs, hn, rfl, rfl, rfl, rfl⟩
  · rcases hd with hd | ⟨hd, hd2⟩
    · have hd0 : decide (d < 0) = true := by simp; exact hd
      clear hcase
      go_wp2_with fail
      refine (HNM.out _ _ H4.out).mono ?_
      rintro e w5 ⟨rfl, hk⟩
      have H5 := Lib.hid (H4.out.trans' hk)
      clear hk
      go_wp2_with fail
      refine (HNM.out _ _ H5.out).mono ?_
      rintro e w6 ⟨rfl, hk⟩
      have H6 := Lib.hid (H5.out.trans' hk)
      clear hk
      go_wp2_with fail
      refine (HNM.out _ _ H6.out).mono ?_
      rintro e w7 ⟨rfl, hk⟩
      have H7 := Lib.hid (H6.out.trans' hk)
      clear hk
      have HC := H7
      clear H5 H6 H7 H4
      go_upto_region 13 with fail
      rcases hcaseU.out with ⟨hu, hve⟩ | ⟨hu, hu1, hve⟩ | ⟨m, rfl, hm, hve⟩
      · have hu0 : decide (u < 0) = true := by simp; exact hu
        have hRD := Lib.hid (tround_none (HT0.out.keep HC.out) u (Or.inl (by rw [hve]; decide)))
        rw [hve] at hRD
        have HDG2 := HDG
        rw [hve, if_neg (by decide)] at HDG2
        unfold LPost tptr at hRD
        clear hcaseU
        go_wp2_with fail
        refine hRD.out.mono ?_
        rintro e w8 ⟨v8, rfl, hro, hk⟩
        obtain ⟨a8, c8, rfl, _, _⟩ := Rd.of_own hro
        have H8 := Lib.hid (HC.out.trans' hk)
        clear hk hro hRD
        go_wp2_with fail
        refine (HDG2.out _ H8.out).mono ?_
        rintro e w9 ⟨rfl, hk⟩
        have H9 := Lib.hid (H8.out.trans' hk)
        have x0 := H9.out.cellF t0
        have x1 := H9.out.cellF t1
        clear hk H8
        go_wp2_with fail
        refine (HNM.out _ _ H9.out).mono ?_
        rintro e w10 ⟨rfl, hk⟩
        have H10 := Lib.hid (H9.out.trans' hk)
        clear hk
        go_wp2_with fail
        refine (HNM.out _ _ H10.out).mono ?_
        rintro e w11 ⟨rfl, hk⟩
        have H11 := Lib.hid (HK0.out.trans' (H10.out.trans' hk))
        clear hk
        go_wp2_with fail
        go_ret
        exact ⟨rfl, H11.out⟩
      · have hu0 : decide (u < 0) = false := by simp; exact hu
        have hu2 : decide ((L.length : Int) ≤ u) = true := by simp; exact hu1
        have hRD := Lib.hid (tround_none (HT0.out.keep HC.out) u (Or.inl (by rw [hve]; decide)))
        rw [hve] at hRD
        have HDG2 := HDG
        rw [hve, if_neg (by decide)] at HDG2
        unfold LPost tptr at hRD
        clear hcaseU
        go_wp2_with fail
        refine hRD.out.mono ?_
        rintro e w8 ⟨v8, rfl, hro, hk⟩
        obtain ⟨a8, c8, rfl, _, _⟩ := Rd.of_own hro
        have H8 := Lib.hid (HC.out.trans' hk)
        clear hk hro hRD
        go_wp2_with fail
        refine (HDG2.out _ H8.out).mono ?_
        rintro e w9 ⟨rfl, hk⟩
        have H9 := Lib.hid (H8.out.trans' hk)
        have x0 := H9.out.cellF t0
        have x1 := H9.out.cellF t1
        clear hk H8
        go_wp2_with fail
        refine (HNM.out _ _ H9.out).mono ?_
        rintro e w10 ⟨rfl, hk⟩
        have H10 := Lib.hid (H9.out.trans' hk)
        clear hk
        go_wp2_with fail
        refine (HNM.out _ _ H10.out).mono ?_
        rintro e w11 ⟨rfl, hk⟩
        have H11 := Lib.hid (HK0.out.trans' (H10.out.trans' hk))
        clear hk
        go_wp2_with fail
        go_ret
        exact ⟨rfl, H11.out⟩
      · have hu0 : decide ((m : Int) < 0) = false := by simp
        have hu2 : decide ((L.length : Int) ≤ (m : Int)) = false := by simp; exact hm
        obtain ⟨l, hl⟩ : ∃ l, L[m]? = some l := ⟨_, some_getD hm⟩
        have hgd : L.getD m [] = l := getD_some hl
        have HLM := Lib.hid hl
        have hRD := Lib.hid (tround (HT0.out.keep HC.out) hm)
        have HDG2 := HDG
        rw [hve, if_pos rfl, Int.toNat_natCast, errVal_zero, hgd] at HDG2
        rw [hgd] at hRD
        clear hl hgd
        have HRR := Lib.hid (fun W (hk : Keeps (fun _ => False) w0 W) => rround (HL0.out.keep hk) hg.toWF hV hEE HLM.out (m : Int) rfl)
        have HRL := Lib.hid (rnd_length l)
        have hlb : l.length ≤ 2 * E := HT0.out.len HLM.out
        unfold LPost tptr at hRD
        rw [errVal_zero] at hRD
        unfold LsPost rval at HRR
        clear hcaseU
        go_wp2_with fail
        refine hRD.out.mono ?_
        rintro e w8 ⟨v8, rfl, hro, hk⟩
        obtain ⟨a8, c8, rfl, hrd8, _⟩ := Rd.of_own hro
        have H8 := Lib.hid (HC.out.trans' hk)
        have HR8 := Lib.hid hrd8
        clear hk hro hRD hrd8
        go_wp2_with fail
        refine (HDG2.out _ H8.out).mono ?_
        rintro e w9 ⟨rfl, hk⟩
        have H9 := Lib.hid (H8.out.trans' hk)
        have HR9 := Lib.hid (HR8.out.keep hk)
        have x0 := H9.out.cellF t0
        have x1 := H9.out.cellF t1
        clear hk H8 HR8
        go_wp2_with fail
        refine (HRR.out _ H9.out).mono ?_
        rintro e w10 ⟨u10, rfl, hlr, hk⟩
        obtain ⟨a10, c10, rfl, hrd10⟩ := hlr.rd
        have H10 := Lib.hid (H9.out.trans' hk)
        have HIN := Lib.hid (ints10_eq a8 a10 c8 c10 _ _ rfl (by rw [HRL.out]; omega) w10 (HR9.out.keep hk) hrd10)
        unfold TruePost at HIN
        clear hk hlr hrd10 HR9
        go_wp2_with fail
        with_reducible refine HIN.out.mono ?_
        rintro e w11 ⟨rfl, hk⟩
        have H11 := Lib.hid (H10.out.trans' hk)
        obtain ⟨g, gc, hvg, _, _, hgr⟩ := (HL0.out.keep H11.out).at_ h0
        obtain ⟨um, hum, hlm⟩ := hgr m _ HLM.out
        obtain ⟨am, cm, rfl, _⟩ := hlm.rd
        simp only [Value.slice.injEq, true_and] at hvg
        obtain ⟨rfl, rfl⟩ := hvg
        have y0 := H11.out.cellF t0
        have y1 := H11.out.cellF t1
        have hmI : ((m : Nat) : Int) < (L.length : Int) := by omega
        have hll : ((l.length : Int) == (l.length : Int)) = true := by simp
        generalize l.length = lm at *
        have HF := Lib.hid (HK0.out.trans' H11.out)
        clear hk hgr hlm
        go_wp2_with fail
        go_ret
        exact ⟨rfl, HF.out⟩
    · have hd0 : decide (d < 0) = false := by simp; exact hd
      have hd1 : decide (2 * (E : Int) ≤ d) = true := by simp; exact hd2
      clear hcase
      go_wp2_with fail
      refine (HNM.out _ _ H4.out).mono ?_
      rintro e w5 ⟨rfl, hk⟩
      have H5 := Lib.hid (H4.out.trans' hk)
      clear hk
      go_wp2_with fail
      refine (HNM.out _ _ H5.out).mono ?_
      rintro e w6 ⟨rfl, hk⟩
      have H6 := Lib.hid (H5.out.trans' hk)
      clear hk
      go_wp2_with fail
      refine (HNM.out _ _ H6.out).mono ?_
      rintro e w7 ⟨rfl, hk⟩
      have H7 := Lib.hid (H6.out.trans' hk)
      clear hk
      have HC := H7
      clear H5 H6 H7 H4
      go_upto_region 13 with fail
      rcases hcaseU.out with ⟨hu, hve⟩ | ⟨hu, hu1, hve⟩ | ⟨m, rfl, hm, hve⟩
      · have hu0 : decide (u < 0) = true := by simp; exact hu
        have hRD := Lib.hid (tround_none (HT0.out.keep HC.out) u (Or.inl (by rw [hve]; decide)))
        rw [hve] at hRD
        have HDG2 := HDG
        rw [hve, if_neg (by decide)] at HDG2
        unfold LPost tptr at hRD
        clear hcaseU
        go_wp2_with fail
        refine hRD.out.mono ?_
        rintro e w8 ⟨v8, rfl, hro, hk⟩
        obtain ⟨a8, c8, rfl, _, _⟩ := Rd.of_own hro
        have H8 := Lib.hid (HC.out.trans' hk)
        clear hk hro hRD
        go_wp2_with fail
        refine (HDG2.out _ H8.out).mono ?_
        rintro e w9 ⟨rfl, hk⟩
        have H9 := Lib.hid (H8.out.trans' hk)
        have x0 := H9.out.cellF t0
        have x1 := H9.out.cellF t1
        clear hk H8
        go_wp2_with fail
        refine (HNM.out _ _ H9.out).mono ?_
        rintro e w10 ⟨rfl, hk⟩
        have H10 := Lib.hid (H9.out.trans' hk)
        clear hk
        go_wp2_with fail
        refine (HNM.out _ _ H10.out).mono ?_
        rintro e w11 ⟨rfl, hk⟩
        have H11 := Lib.hid (HK0.out.trans' (H10.out.trans' hk))
        clear hk
        go_wp2_with fail
        go_ret
        exact ⟨rfl, H11.out⟩
      · have hu0 : decide (u < 0) = false := by simp; exact hu
        have hu2 : decide ((L.length : Int) ≤ u) = true := by simp; exact hu1
        have hRD := Lib.hid (tround_none (HT0.out.keep HC.out) u (Or.inl (by rw [hve]; decide)))
        rw [hve] at hRD
        have HDG2 := HDG
        rw [hve, if_neg (by decide)] at HDG2
        unfold LPost tptr at hRD
        clear hcaseU
        go_wp2_with fail
        refine hRD.out.mono ?_
        rintro e w8 ⟨v8, rfl, hro, hk⟩
        obtain ⟨a8, c8, rfl, _, _⟩ := Rd.of_own hro
        have H8 := Lib.hid (HC.out.trans' hk)
        clear hk hro hRD
        go_wp2_with fail
        refine (HDG2.out _ H8.out).mono ?_
        rintro e w9 ⟨rfl, hk⟩
        have H9 := Lib.hid (H8.out.trans' hk)
        have x0 := H9.out.cellF t0
        have x1 := H9.out.cellF t1
        clear hk H8
        go_wp2_with fail
        refine (HNM.out _ _ H9.out).mono ?_
        rintro e w10 ⟨rfl, hk⟩
        have H10 := Lib.hid (H9.out.trans' hk)
        clear hk
        go_wp2_with fail
        refine (HNM.out _ _ H10.out).mono ?_
        rintro e w11 ⟨rfl, hk⟩
        have H11 := Lib.hid (HK0.out.trans' (H10.out.trans' hk))
        clear hk
        go_wp2_with fail
        go_ret
        exact ⟨rfl, H11.out⟩
      · have hu0 : decide ((m : Int) < 0) = false := by simp
        have hu2 : decide ((L.length : Int) ≤ (m : Int)) = false := by simp; exact hm
        obtain ⟨l, hl⟩ : ∃ l, L[m]? = some l := ⟨_, some_getD hm⟩
        have hgd : L.getD m [] = l := getD_some hl
        have HLM := Lib.hid hl
        have hRD := Lib.hid (tround (HT0.out.keep HC.out) hm)
        have HDG2 := HDG
        rw [hve, if_pos rfl, Int.toNat_natCast, errVal_zero, hgd] at HDG2
        rw [hgd] at hRD
        clear hl hgd
        have HRR := Lib.hid (fun W (hk : Keeps (fun _ => False) w0 W) => rround (HL0.out.keep hk) hg.toWF hV hEE HLM.out (m : Int) rfl)
        have HRL := Lib.hid (rnd_length l)
        have hlb : l.length ≤ 2 * E := HT0.out.len HLM.out
        unfold LPost tptr at hRD
        rw [errVal_zero] at hRD
        unfold LsPost rval at HRR
        clear hcaseU
        go_wp2_with fail
        refine hRD.out.mono ?_
        rintro e w8 ⟨v8, rfl, hro, hk⟩
        obtain ⟨a8, c8, rfl, hrd8, _⟩ := Rd.of_own hro
        have H8 := Lib.hid (HC.out.trans' hk)
        have HR8 := Lib.hid hrd8
        clear hk hro hRD hrd8
        go_wp2_with fail
        refine (HDG2.out _ H8.out).mono ?_
        rintro e w9 ⟨rfl, hk⟩
        have H9 := Lib.hid (H8.out.trans' hk)
        have HR9 := Lib.hid (HR8.out.keep hk)
        have x0 := H9.out.cellF t0
        have x1 := H9.out.cellF t1
        clear hk H8 HR8
        go_wp2_with fail
        refine (HRR.out _ H9.out).mono ?_
        rintro e w10 ⟨u10, rfl, hlr, hk⟩
        obtain ⟨a10, c10, rfl, hrd10⟩ := hlr.rd
        have H10 := Lib.hid (H9.out.trans' hk)
        have HIN := Lib.hid (ints10_eq a8 a10 c8 c10 _ _ rfl (by rw [HRL.out]; omega) w10 (HR9.out.keep hk) hrd10)
        unfold TruePost at HIN
        clear hk hlr hrd10 HR9
        go_wp2_with fail
        with_reducible refine HIN.out.mono ?_
        rintro e w11 ⟨rfl, hk⟩
        have H11 := Lib.hid (H10.out.trans' hk)
        obtain ⟨g, gc, hvg, _, _, hgr⟩ := (HL0.out.keep H11.out).at_ h0
        obtain ⟨um, hum, hlm⟩ := hgr m _ HLM.out
        obtain ⟨am, cm, rfl, _⟩ := hlm.rd
        simp only [Value.slice.injEq, true_and] at hvg
        obtain ⟨rfl, rfl⟩ := hvg
        have y0 := H11.out.cellF t0
        have y1 := H11.out.cellF t1
        have hmI : ((m : Nat) : Int) < (L.length : Int) := by omega
        have hll : ((l.length : Int) == (l.length : Int)) = true := by simp
        generalize l.length = lm at *
        have HF := Lib.hid (HK0.out.trans' H11.out)
        clear hk hgr hlm
        go_wp2_with fail
        go_ret
        exact ⟨rfl, HF.out⟩
  · have hd0' : decide (d < 0) = false := by simp; exact hd0
    have hd1' : decide (2 * (E : Int) ≤ d) = false := by simp; omega
    have hf : decide (fv < 0) = true := by simp; exact hfv
    clear hcase
    go_wp2_with fail
    refine (HNM.out _ _ H4.out).mono ?_
    rintro e w5 ⟨rfl, hk⟩
    have H5 := Lib.hid (H4.out.trans' hk)
    clear hk
    go_wp2_with fail
    refine (HNM.out _ _ H5.out).mono ?_
    rintro e w6 ⟨rfl, hk⟩
    have H6 := Lib.hid (H5.out.trans' hk)
    clear hk
    go_wp2_with fail
    refine (HNM.out _ _ H6.out).mono ?_
    rintro e w7 ⟨rfl, hk⟩
    have H7 := Lib.hid (H6.out.trans' hk)
    clear hk
    have HC := H7
    clear H5 H6 H7 H4
    go_upto_region 13 with fail
    rcases hcaseU.out with ⟨hu, hve⟩ | ⟨hu, hu1, hve⟩ | ⟨m, rfl, hm, hve⟩
    · have hu0 : decide (u < 0) = true := by simp; exact hu
      have hRD := Lib.hid (tround_none (HT0.out.keep HC.out) u (Or.inl (by rw [hve]; decide)))
      rw [hve] at hRD
      have HDG2 := HDG
      rw [hve, if_neg (by decide)] at HDG2
      unfold LPost tptr at hRD
      clear hcaseU
      go_wp2_with fail
      refine hRD.out.mono ?_
      rintro e w8 ⟨v8, rfl, hro, hk⟩
      obtain ⟨a8, c8, rfl, _, _⟩ := Rd.of_own hro
      have H8 := Lib.hid (HC.out.trans' hk)
      clear hk hro hRD
      go_wp2_with fail
      refine (HDG2.out _ H8.out).mono ?_
      rintro e w9 ⟨rfl, hk⟩
      have H9 := Lib.hid (H8.out.trans' hk)
      have x0 := H9.out.cellF t0
      have x1 := H9.out.cellF t1
      clear hk H8
      go_wp2_with fail
      refine (HNM.out _ _ H9.out).mono ?_
      rintro e w10 ⟨rfl, hk⟩
      have H10 := Lib.hid (H9.out.trans' hk)
      clear hk
      go_wp2_with fail
      refine (HNM.out _ _ H10.out).mono ?_
      rintro e w11 ⟨rfl, hk⟩
      have H11 := Lib.hid (HK0.out.trans' (H10.out.trans' hk))
      clear hk
      go_wp2_with fail
      go_ret
      exact ⟨rfl, H11.out⟩
    · have hu0 : decide (u < 0) = false := by simp; exact hu
      have hu2 : decide ((L.length : Int) ≤ u) = true := by simp; exact hu1
      have hRD := Lib.hid (tround_none (HT0.out.keep HC.out) u (Or.inl (by rw [hve]; decide)))
      rw [hve] at hRD
      have HDG2 := HDG
      rw [hve, if_neg (by decide)] at HDG2
      unfold LPost tptr at hRD
      clear hcaseU
      go_wp2_with fail
      refine hRD.out.mono ?_
      rintro e w8 ⟨v8, rfl, hro, hk⟩
      obtain ⟨a8, c8, rfl, _, _⟩ := Rd.of_own hro
      have H8 := Lib.hid (HC.out.trans' hk)
      clear hk hro hRD
      go_wp2_with fail
      refine (HDG2.out _ H8.out).mono ?_
      rintro e w9 ⟨rfl, hk⟩
      have H9 := Lib.hid (H8.out.trans' hk)
      have x0 := H9.out.cellF t0
      have x1 := H9.out.cellF t1
      clear hk H8
      go_wp2_with fail
      refine (HNM.out _ _ H9.out).mono ?_
      rintro e w10 ⟨rfl, hk⟩
      have H10 := Lib.hid (H9.out.trans' hk)
      clear hk
      go_wp2_with fail
      refine (HNM.out _ _ H10.out).mono ?_
      rintro e w11 ⟨rfl, hk⟩
      have H11 := Lib.hid (HK0.out.trans' (H10.out.trans' hk))
      clear hk
      go_wp2_with fail
      go_ret
      exact ⟨rfl, H11.out⟩
    · have hu0 : decide ((m : Int) < 0) = false := by simp
      have hu2 : decide ((L.length : Int) ≤ (m : Int)) = false := by simp; exact hm
      obtain ⟨l, hl⟩ : ∃ l, L[m]? = some l := ⟨_, some_getD hm⟩
      have hgd : L.getD m [] = l := getD_some hl
      have HLM := Lib.hid hl
      have hRD := Lib.hid (tround (HT0.out.keep HC.out) hm)
      have HDG2 := HDG
      rw [hve, if_pos rfl, Int.toNat_natCast, errVal_zero, hgd] at HDG2
      rw [hgd] at hRD
      clear hl hgd
      have HRR := Lib.hid (fun W (hk : Keeps (fun _ => False) w0 W) => rround (HL0.out.keep hk) hg.toWF hV hEE HLM.out (m : Int) rfl)
      have HRL := Lib.hid (rnd_length l)
      have hlb : l.length ≤ 2 * E := HT0.out.len HLM.out
      unfold LPost tptr at hRD
      rw [errVal_zero] at hRD
      unfold LsPost rval at HRR
      clear hcaseU
      go_wp2_with fail
      refine hRD.out.mono ?_
      rintro e w8 ⟨v8, rfl, hro, hk⟩
      obtain ⟨a8, c8, rfl, hrd8, _⟩ := Rd.of_own hro
      have H8 := Lib.hid (HC.out.trans' hk)
      have HR8 := Lib.hid hrd8
      clear hk hro hRD hrd8
      go_wp2_with fail
      refine (HDG2.out _ H8.out).mono ?_
      rintro e w9 ⟨rfl, hk⟩
      have H9 := Lib.hid (H8.out.trans' hk)
      have HR9 := Lib.hid (HR8.out.keep hk)
      have x0 := H9.out.cellF t0
      have x1 := H9.out.cellF t1
      clear hk H8 HR8
      go_wp2_with fail
      refine (HRR.out _ H9.out).mono ?_
      rintro e w10 ⟨u10, rfl, hlr, hk⟩
      obtain ⟨a10, c10, rfl, hrd10⟩ := hlr.rd
      have H10 := Lib.hid (H9.out.trans' hk)
      have HIN := Lib.hid (ints10_eq a8 a10 c8 c10 _ _ rfl (by rw [HRL.out]; omega) w10 (HR9.out.keep hk) hrd10)
      unfold TruePost at HIN
      clear hk hlr hrd10 HR9
      go_wp2_with fail
      with_reducible refine HIN.out.mono ?_
      rintro e w11 ⟨rfl, hk⟩
      have H11 := Lib.hid (H10.out.trans' hk)
      obtain ⟨g, gc, hvg, _, _, hgr⟩ := (HL0.out.keep H11.out).at_ h0
      obtain ⟨um, hum, hlm⟩ := hgr m _ HLM.out
      obtain ⟨am, cm, rfl, _⟩ := hlm.rd
      simp only [Value.slice.injEq, true_and] at hvg
      obtain ⟨rfl, rfl⟩ := hvg
      have y0 := H11.out.cellF t0
      have y1 := H11.out.cellF t1
      have hmI : ((m : Nat) : Int) < (L.length : Int) := by omega
      have hll : ((l.length : Int) == (l.length : Int)) = true := by simp
      generalize l.length = lm at *
      have HF := Lib.hid (HK0.out.trans' H11.out)
      clear hk hgr hlm
      go_wp2_with fail
      go_ret
      exact ⟨rfl, HF.out⟩
  · subst h0e
    rw [errVal_zero]
    have hd0' : decide ((n : Int) < 0) = false := by simp
    have hd1' : decide (2 * (E : Int) ≤ (n : Int)) = false := by simp; omega
    have hf : decide (((vtx L n : Nat) : Int) < 0) = false := by simp
    have HNXn := Lib.hid (fun W (hk : Keeps (fun _ => False) w0 W) => HNX2.out W hk n hs 1 (Or.inl rfl))
    have HPVn := Lib.hid (fun W (hk : Keeps (fun _ => False) w0 W) => HNX2.out W hk n hs (-1) (Or.inr rfl))
    rw [if_pos rfl] at HNXn
    rw [if_neg (by decide)] at HPVn
    clear hcase HNX2
    go_wp2_with fail
    refine (HNXn.out _ H4.out).mono ?_
    rintro e w5 ⟨rfl, hk⟩
    have H5 := Lib.hid (H4.out.trans' hk)
    have r0 := H5.out.cellF t0
    have r1 := H5.out.cellF t1
    clear hk
    go_wp2_with fail
    refine (HPVn.out _ H5.out).mono ?_
    rintro e w6 ⟨rfl, hk⟩
    have HC := Lib.hid (H5.out.trans' hk)
    clear hk H5 H4 r0 r1
    go_upto_region 13 with fail
    rcases hcaseU.out with ⟨hu, hve⟩ | ⟨hu, hu1, hve⟩ | ⟨m, rfl, hm, hve⟩
    · have hu0 : decide (u < 0) = true := by simp; exact hu
      have hRD := Lib.hid (tround_none (HT0.out.keep HC.out) u (Or.inl (by rw [hve]; decide)))
      rw [hve] at hRD
      have HDG2 := HDG
      rw [hve, if_neg (by decide)] at HDG2
      unfold LPost tptr at hRD
      clear hcaseU
      go_wp2_with fail
      refine hRD.out.mono ?_
      rintro e w8 ⟨v8, rfl, hro, hk⟩
      obtain ⟨a8, c8, rfl, _, _⟩ := Rd.of_own hro
      have H8 := Lib.hid (HC.out.trans' hk)
      clear hk hro hRD
      go_wp2_with fail
      refine (HDG2.out _ H8.out).mono ?_
      rintro e w9 ⟨rfl, hk⟩
      have H9 := Lib.hid (H8.out.trans' hk)
      have x0 := H9.out.cellF t0
      have x1 := H9.out.cellF t1
      clear hk H8
      go_wp2_with fail
      refine (HNM.out _ _ H9.out).mono ?_
      rintro e w10 ⟨rfl, hk⟩
      have H10 := Lib.hid (H9.out.trans' hk)
      clear hk
      go_wp2_with fail
      refine (HNM.out _ _ H10.out).mono ?_
      rintro e w11 ⟨rfl, hk⟩
      have H11 := Lib.hid (HK0.out.trans' (H10.out.trans' hk))
      clear hk
      go_wp2_with fail
      go_ret
      exact ⟨rfl, H11.out⟩
    · have hu0 : decide (u < 0) = false := by simp; exact hu
      have hu2 : decide ((L.length : Int) ≤ u) = true := by simp; exact hu1
      have hRD := Lib.hid (tround_none (HT0.out.keep HC.out) u (Or.inl (by rw [hve]; decide)))
      rw [hve] at hRD
      have HDG2 := HDG
      rw [hve, if_neg (by decide)] at HDG2
      unfold LPost tptr at hRD
      clear hcaseU
      go_wp2_with fail
      refine hRD.out.mono ?_
      rintro e w8 ⟨v8, rfl, hro, hk⟩
      obtain ⟨a8, c8, rfl, _, _⟩ := Rd.of_own hro
      have H8 := Lib.hid (HC.out.trans' hk)
      clear hk hro hRD
      go_wp2_with fail
      refine (HDG2.out _ H8.out).mono ?_
      rintro e w9 ⟨rfl, hk⟩
      have H9 := Lib.hid (H8.out.trans' hk)
      have x0 := H9.out.cellF t0
      have x1 := H9.out.cellF t1
      clear hk H8
      go_wp2_with fail
      refine (HNM.out _ _ H9.out).mono ?_
      rintro e w10 ⟨rfl, hk⟩
      have H10 := Lib.hid (H9.out.trans' hk)
      clear hk
      go_wp2_with fail
      refine (HNM.out _ _ H10.out).mono ?_
      rintro e w11 ⟨rfl, hk⟩
      have H11 := Lib.hid (HK0.out.trans' (H10.out.trans' hk))
      clear hk
      go_wp2_with fail
      go_ret
      exact ⟨rfl, H11.out⟩
    · have hu0 : decide ((m : Int) < 0) = false := by simp
      have hu2 : decide ((L.length : Int) ≤ (m : Int)) = false := by simp; exact hm
      obtain ⟨l, hl⟩ : ∃ l, L[m]? = some l := ⟨_, some_getD hm⟩
      have hgd : L.getD m [] = l := getD_some hl
      have HLM := Lib.hid hl
      have hRD := Lib.hid (tround (HT0.out.keep HC.out) hm)
      have HDG2 := HDG
      rw [hve, if_pos rfl, Int.toNat_natCast, errVal_zero, hgd] at HDG2
      rw [hgd] at hRD
      clear hl hgd
      have HRR := Lib.hid (fun W (hk : Keeps (fun _ => False) w0 W) => rround (HL0.out.keep hk) hg.toWF hV hEE HLM.out (m : Int) rfl)
      have HRL := Lib.hid (rnd_length l)
      have hlb : l.length ≤ 2 * E := HT0.out.len HLM.out
      unfold LPost tptr at hRD
      rw [errVal_zero] at hRD
      unfold LsPost rval at HRR
      clear hcaseU
      go_wp2_with fail
      refine hRD.out.mono ?_
      rintro e w8 ⟨v8, rfl, hro, hk⟩
      obtain ⟨a8, c8, rfl, hrd8, _⟩ := Rd.of_own hro
      have H8 := Lib.hid (HC.out.trans' hk)
      have HR8 := Lib.hid hrd8
      clear hk hro hRD hrd8
      go_wp2_with fail
      refine (HDG2.out _ H8.out).mono ?_
      rintro e w9 ⟨rfl, hk⟩
      have H9 := Lib.hid (H8.out.trans' hk)
      have HR9 := Lib.hid (HR8.out.keep hk)
      have x0 := H9.out.cellF t0
      have x1 := H9.out.cellF t1
      clear hk H8 HR8
      go_wp2_with fail
      refine (HRR.out _ H9.out).mono ?_
      rintro e w10 ⟨u10, rfl, hlr, hk⟩
      obtain ⟨a10, c10, rfl, hrd10⟩ := hlr.rd
      have H10 := Lib.hid (H9.out.trans' hk)
      have HIN := Lib.hid (ints10_eq a8 a10 c8 c10 _ _ rfl (by rw [HRL.out]; omega) w10 (HR9.out.keep hk) hrd10)
      unfold TruePost at HIN
      clear hk hlr hrd10 HR9
      go_wp2_with fail
      with_reducible refine HIN.out.mono ?_
      rintro e w11 ⟨rfl, hk⟩
      have H11 := Lib.hid (H10.out.trans' hk)
      obtain ⟨g, gc, hvg, _, _, hgr⟩ := (HL0.out.keep H11.out).at_ h0
      obtain ⟨um, hum, hlm⟩ := hgr m _ HLM.out
      obtain ⟨am, cm, rfl, _⟩ := hlm.rd
      simp only [Value.slice.injEq, true_and] at hvg
      obtain ⟨rfl, rfl⟩ := hvg
      have y0 := H11.out.cellF t0
      have y1 := H11.out.cellF t1
      have hmI : ((m : Nat) : Int) < (L.length : Int) := by omega
      have hll : ((l.length : Int) == (l.length : Int)) = true := by simp
      generalize l.length = lm at *
      have HF := Lib.hid (HK0.out.trans' H11.out)
      clear hk hgr hlm
      go_wp2_with fail
      go_ret
      exact ⟨rfl, HF.out⟩
end
end Go.Proofs.YtjmkejkhpdhhbaaDoor
