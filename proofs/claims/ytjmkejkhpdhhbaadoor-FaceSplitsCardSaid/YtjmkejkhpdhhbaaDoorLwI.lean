/- Chapter 10's laws: TurnSums. -/
import Derived.Test.YtjmkejkhpdhhbaaDoorLwH
import Derived.Test.YtjmkejkhpdhhbaaDoorLwG
namespace Go.Proofs.YtjmkejkhpdhhbaaDoor
open Go Go.RowKit
set_option linter.unusedVariables false
set_option linter.unusedSimpArgs false
set_option maxRecDepth 100000

theorem six_own {w0 W : World} {fp : Nat → Prop} (hk : Keeps fp w0 W) {b o1 o2 o3 o4 o5 o6 : Nat} (n : ¬ fp b) {t u v x y z : Value} (h1 : w0.cell? ⟨b, o1, none⟩ = some t) (h2 : w0.cell? ⟨b, o2, none⟩ = some u) (h3 : w0.cell? ⟨b, o3, none⟩ = some v) (h4 : w0.cell? ⟨b, o4, none⟩ = some x) (h5 : w0.cell? ⟨b, o5, none⟩ = some y) (h6 : w0.cell? ⟨b, o6, none⟩ = some z) :
    W.cell? ⟨b, o1, none⟩ = some t ∧ W.cell? ⟨b, o2, none⟩ = some u ∧ W.cell? ⟨b, o3, none⟩ = some v ∧ W.cell? ⟨b, o4, none⟩ = some x ∧ W.cell? ⟨b, o5, none⟩ = some y ∧ W.cell? ⟨b, o6, none⟩ = some z := ⟨hk.cellO h1 n, hk.cellO h2 n, hk.cellO h3 n, hk.cellO h4 n, hk.cellO h5 n, hk.cellO h6 n⟩
theorem six_own2 {w0 W : World} {fp : Nat → Prop} (hk : Keeps fp w0 W) {b c o1 o2 o3 o4 o5 o6 : Nat} (n : ¬ fp b) (m : b ≠ c) {p q t u v x y z : Value} (h1 : w0.cell? ⟨b, o1, none⟩ = some t) (h2 : w0.cell? ⟨b, o2, none⟩ = some u) (h3 : w0.cell? ⟨b, o3, none⟩ = some v) (h4 : w0.cell? ⟨b, o4, none⟩ = some x) (h5 : w0.cell? ⟨b, o5, none⟩ = some y) (h6 : w0.cell? ⟨b, o6, none⟩ = some z) :
    ((W.setCell ⟨c, 0, none⟩ p).setCell ⟨c, 1, none⟩ q).cell? ⟨b, o1, none⟩ = some t ∧ ((W.setCell ⟨c, 0, none⟩ p).setCell ⟨c, 1, none⟩ q).cell? ⟨b, o2, none⟩ = some u ∧ ((W.setCell ⟨c, 0, none⟩ p).setCell ⟨c, 1, none⟩ q).cell? ⟨b, o3, none⟩ = some v ∧ ((W.setCell ⟨c, 0, none⟩ p).setCell ⟨c, 1, none⟩ q).cell? ⟨b, o4, none⟩ = some x ∧ ((W.setCell ⟨c, 0, none⟩ p).setCell ⟨c, 1, none⟩ q).cell? ⟨b, o5, none⟩ = some y ∧ ((W.setCell ⟨c, 0, none⟩ p).setCell ⟨c, 1, none⟩ q).cell? ⟨b, o6, none⟩ = some z :=
  ⟨cell_set2 (hk.cellO h1 n) m, cell_set2 (hk.cellO h2 n) m, cell_set2 (hk.cellO h3 n) m, cell_set2 (hk.cellO h4 n) m, cell_set2 (hk.cellO h5 n) m, cell_set2 (hk.cellO h6 n) m⟩
set_option maxHeartbeats 4000000 in
theorem turnSums_walk (n : Int) (a : Option Addr) (c : Nat) (ls : List Act10) (w : World) (hE : ErrT w) (hz : Rd w a (actsV ls)) (hzl : ls.length ≤ 9223372036854775807) :
    Calls Tryd.prog 4 #[.int .i64 n, .slice a ls.length c] w (TruePost w) := by
  have HE0 := Lib.hid hE
  have HZ0 := Lib.hid hz
  obtain ⟨hk1, hk2⟩ := kof_le n 6 (by decide)
  have hk := show wrap64 (1 + wrap64 ((IntKind.u64.wrap n).tmod 6)) = (kof n 6 : Int) from kof_val n 6 (by decide) (by decide)
  generalize kof n 6 = V at *
  clear hE hz
  have HTN := Lib.hid (tnew V 8 w hk1 (by omega) (by decide) (by decide))
  have HRN := Lib.hid (fun W => rnew V 8 W hk1 (by omega))
  unfold NewPost tptr at HTN
  unfold RPost rval at HRN
  go_enter Tryd.func4, Tryd.ntmps4
  go_upto_region 2 with fail
  rw [hk]
  go_wp2_with fail
  refine HTN.out.mono ?_
  rintro e w1 ⟨p, own, rfl, htu, hfr, hk1'⟩
  have HTU := Lib.hid htu
  have HFR := Lib.hid hfr
  have HK1 := Lib.hid hk1'
  clear htu hfr hk1' hk
  go_wp2_with fail
  refine (HRN.out w1).mono ?_
  rintro e w2 ⟨v, rfl, hls, hk2'⟩
  obtain ⟨va, vc, rfl⟩ := hls.form
  have HLA := Lib.hid (LawAt.start (w0 := w) (E := 8) HTU.out HFR.out HK1.out hls hk2')
  clear hls hk2' HTU HFR HK1 HTN HRN
  simp only [List.length_replicate] at HLA
  go_upto_region 6 with fail
  have HLA0 : Hid (∃ L v, LawAt w own p 8 8 w1.heap.size V w2.heap.size L v (w2.alloc (.cells #[.int .i64 8, .slice va V vc] 32))) := ⟨_, _, HLA.out⟩
  clear HLA
  generalize w2.alloc _ = w3 at *
  generalize w2.heap.size = bx at *
  generalize w1.heap.size = B at *
  go_upto_block 0 with fail
  go_cut [] (fun wc => Hid (∃ L v, LawAt w own p 8 8 B V bx L v wc))
  case first =>
    as_aux_lemma =>
    go_wp2_with fail
    go_loopw [9] (fun i wr => ∃ (j : Nat), j ≤ ls.length ∧ j ≤ 40 ∧ i = .int .i64 (j : Int) ∧ Hid (∃ L v, LawAt w own p 8 8 B V bx L v wr)) (fun i _ => ls.length - (intOf i).toNat)
    case atStart => exact ⟨0, Nat.zero_le _, Nat.zero_le _, rfl, HLA0⟩
    case round =>
      obtain ⟨j, hj, hj30, rfl, HS⟩ := hrel
      clear HLA0
      by_cases hlt : j < ls.length ∧ j < 40
      · obtain ⟨L, v, hla⟩ := HS.out
        have HLA := Lib.hid hla
        clear HS
        have h0L : 1 ≤ L.length := by rw [hla.len]; exact hk1
        obtain ⟨va, vc, rfl⟩ := hla.ls.form
        rw [hla.len] at hla HLA
        obtain ⟨hlt, hlt2⟩ := hlt
        obtain ⟨ab, ao, rfl, hab, q0, q1, q2, q3, q4, q5⟩ := actsAt (HZ0.out.keep hla.kp) j hlt
        have HDO := Lib.hid (fun W (hk : Keeps (fun _ => False) wr W) => hla.act HE0.out hk ls[j] (Or.inl rfl))
        have hab0 : ab < w.heap.size := (actsAt HZ0.out j hlt).elim fun b h => by
          obtain ⟨off, he, hb, _⟩ := h
          cases he; exact hb
        have hnab := hla.nold hab0
        have HNB := Lib.hid hla.nbx
        have HG := Lib.hid (actL_good hla.good ls[j])
        have HLN : Hid ((actL 8 L ls[j]).length = V) := (actL_length 8 L ls[j]).trans hla.len
        have hK : Keeps (fun _ => False) wr wr.drew := (Keeps.refl _ _).drew
        obtain ⟨b0, b1, _, _, _⟩ := (hla.keep hK).cells
        unfold actVal rval tptr DoPost at HDO
        unfold rval at HDO
        generalize ls[j].kind = z0 at *
        generalize ls[j].e = z1 at *
        generalize ls[j].a.1 = z2 at *
        generalize ls[j].a.2 = z3 at *
        generalize ls[j].b.1 = z4 at *
        generalize ls[j].b.2 = z5 at *
        generalize actL 8 L ls[j] = L5 at *
        have h8 : ((8 : Nat) : Int) = 8 := rfl
        clear hla
        simp only [h8] at HDO b0
        go_upto_region 9 with fail
        obtain ⟨p0, p1, p2, p3, p4, p5⟩ := six_keep hK q0 q1 q2 q3 q4 q5
        go_region_with (first
            | (go_at_call 18; with_reducible refine (HDO.out _ hK).mono ?_; rintro e5 w5 ⟨v5, rfl, ht5, hls5, hk5'⟩; obtain ⟨va5, vc5, rfl⟩ := hls5.form; have hk5 : Keeps own wr w5 := (hK.mono (fp' := own) fun _ _ q => q.elim).trans' hk5'; obtain ⟨x0, x1, xf0, xf1, xl⟩ := (HLA.out.box.kept hk5 HNB.out).cells)
            | fail)
        all_goals
          have HS2 := Lib.hid (HLA.out.step hk5 ht5 hls5 (Keeps.refl _ _) HG.out HLN.out)
          simp only [h8] at HS2
          clear x0 x1 xf0 xf1 xl b0 b1 q0 q1 q2 q3 q4 q5 p0 p1 p2 p3 p4 p5 hk5 hk5' ht5 hls5
          generalize (World.setCell _ _ _).setCell _ (.slice va5 _ _) = we at *
          have HS3 : Hid (∃ L v, LawAt w own p 8 8 B V bx L v we) := ⟨_, _, HS2.out⟩
          clear HS2
          go_wp2_with fail
          refine ⟨⟨j + 1, by omega, by omega, by simp, HS3⟩, by simp [intOf]; omega⟩
      · rcases (show j < ls.length ∧ ¬ j < 40 ∨ ¬ j < ls.length by omega) with ⟨hja, hjb⟩ | hja
        all_goals
          go_wp2_with fail
          go_meet
          exact HS
  case rest =>
    obtain ⟨L, v, hla⟩ := hcut.out
    have HLA := Lib.hid hla
    have HG := Lib.hid hla.good
    have hlen := hla.len
    have HT := Lib.hid hla.tu
    have HKW := Lib.hid hla.kp
    have HM16 := Lib.hid (many_le hla.good)
    have HSUM := Lib.hid (sums hla.good)
    clear hcut hla HLA0
    go_upto_region 12 with fail
    go_loopw [10, 12] (fun t i wr => ∃ (m : Nat), m ≤ V ∧ t = .int .i64 (manyN L m : Int) ∧ i = .int .i64 (m : Int) ∧ Hid (Keeps (fun _ => False) wc wr)) (fun _ i _ => V - (intOf i).toNat)
    case atStart => exact ⟨0, Nat.zero_le _, by rw [manyN_zero]; rfl, rfl, Lib.hid (Keeps.refl _ _)⟩
    case round =>
      obtain ⟨m, hm, rfl, rfl, HK⟩ := hrel
      by_cases hmV : m < V
      · obtain ⟨l, hl⟩ : ∃ l, L[m]? = some l := ⟨_, some_getD (by omega)⟩
        have HLM := Lib.hid hl
        have hlb : l.length ≤ 2 * 8 := HT.out.len hl
        have hgd : L.getD m [] = l := getD_some hl
        have hmb := HM16.out m
        have hst := manyN_step (L := L) (n := m) (by omega)
        rw [hgd] at hst
        have hmb1 := HM16.out (m + 1)
        have HDG := tdegree (HT.out.keep HK.out) (m : Int)
        have HRD := tround (HT.out.keep HK.out) (n := m) (by omega)
        have hve : vErr L (m : Int) = 0 := by unfold vErr; rw [if_neg (by omega)]
        rw [hve, if_pos rfl, Int.toNat_natCast, hgd, errVal_zero] at HDG
        rw [hgd] at HRD
        unfold RetPost tptr at HDG
        have HRD := Lib.hid (fun W (hk : Keeps (fun _ => False) wc W) => tround (HT.out.keep hk) (n := m) (by omega))
        rw [hgd] at HRD
        unfold LPost tptr at HRD
        rw [errVal_zero] at HRD
        have hw1 : wrap64 ((manyN L m : Int) + (l.length : Int)) = (manyN L (m + 1) : Int) := by rw [hst]; unfold wrap64; omega
        have HW1 := Lib.hid hw1
        have HDG2 := Lib.hid HDG
        clear hw1 hl hgd hve HDG hst hmb hmb1
        go_wp2_with fail
        refine HDG2.out.mono ?_
        rintro e w5 ⟨rfl, hk⟩
        have H5 := Lib.hid (HK.out.trans' hk)
        clear hk HDG2
        go_wp2_with fail
        refine (HRD.out _ H5.out).mono ?_
        rintro e w6 ⟨v6, rfl, hro, hk⟩
        rw [rnd_length] at hro
        obtain ⟨a6, c6, rfl, hrd6, _⟩ := Rd.of_own hro
        have H6 := Lib.hid (H5.out.trans' hk)
        have HR6 := Lib.hid hrd6
        clear hk hro HRD hrd6
        go_upto_region 20 with fail
        go_loopw [17] (fun i wx => ∃ (k : Nat), k ≤ l.length ∧ i = .int .i64 (k : Int) ∧ Hid (Keeps (fun _ => False) w6 wx)) (fun i _ => l.length - (intOf i).toNat)
        case atStart => exact ⟨0, Nat.zero_le _, rfl, Lib.hid (Keeps.refl _ _)⟩
        case round =>
          obtain ⟨k, hk, rfl, HX⟩ := hrel
          by_cases hkl : k < l.length
          · as_aux_lemma =>
            have hr2 := HR6.out.keep HX.out
            have hl0 : 0 < l.length := by omega
            obtain ⟨b1, o1, rfl, g1⟩ := hr2.nat (i := k) (by rw [rnd_length]; exact hkl)
            obtain ⟨b2, o2, he, g0⟩ := hr2.nat (i := 0) (by rw [rnd_length]; exact hl0)
            simp only [Option.some.injEq, Addr.mk.injEq, and_true] at he
            obtain ⟨rfl, rfl⟩ := he
            have hle := rnd_least hkl
            have hsd := rnd_has HG.out HLM.out hkl
            have hbd := HG.out.toWF.bdS (stands_at HLM.out (rnd_mem.1 (getD_mem (l := rnd l) (i := k) (by rw [rnd_length]; exact hkl))))
            generalize (rnd l).getD k 0 = x at *
            generalize (rnd l).getD 0 0 = y at *
            have ht1 : decide ((x : Int) < (y : Int)) = false := by simp; omega
            have ht2 : decide (x < y) = false := by simp; omega
            have hhalf : IntKind.i64.wrap ((x : Int) / 2) = ((x / 2 : Nat) : Int) := by
              rw [IntKind.wrap_i64]; omega
            have HHS := Lib.hid (fun W (hk : Keeps (fun _ => False) wr W) => thas (HT.out.keep (H6.out.trans' (HX.out.trans' hk))) ((x / 2 : Nat) : Int))
            have hdd : decide ((0 : Int) ≤ ((x / 2 : Nat) : Int) ∧ ((x / 2 : Nat) : Int) < ((8 : Nat) : Int) ∧ Stands L (2 * ((x / 2 : Nat) : Int).toNat)) = true := by
              rw [decide_eq_true_eq, Int.toNat_natCast]
              exact ⟨by omega, by omega, hsd⟩
            rw [hdd, show ((x / 2 : Nat) : Int) = (x : Int) / 2 by omega] at HHS
            unfold RetPost tptr at HHS
            have hK : Keeps (fun _ => False) wr wr.drew := (Keeps.refl _ _).drew
            have hk0I : (0 : Int) < (l.length : Int) := by omega
            rw [Nat.add_zero] at g0
            clear hr2 hle hsd hbd hdd
            go_upto_region 22 with fail
            go_region_held3 (fun w' => w'.cell? ⟨b1, o1 + k, none⟩ = some (.int .i64 (x : Int)) ∧ w'.cell? ⟨b1, o1, none⟩ = some (.int .i64 (y : Int)))
              (first | (with_reducible exact ⟨hK.cellF g1, hK.cellF g0⟩) | fail)
              (first
                | (go_at_call 25; with_reducible refine (HHS.out _ hK).mono ?_; rintro e7 w7 ⟨rfl, hk7⟩; have hK := hK.trans' hk7)
                | fail)
            have HX2 := Lib.hid (HX.out.trans' hK)
            clear hK g0 g1
            go_wp2_with fail
            refine ⟨⟨k + 1, by omega, by simp, HX2⟩, by simp [intOf]; omega⟩
          · as_aux_lemma =>
            have hkl' : k = l.length := by omega
            have HK2 := Lib.hid (H6.out.trans' HX.out)
            go_wp2_with fail
            refine ⟨⟨m + 1, by omega, by rw [HW1.out], by simp, HK2⟩, by simp [intOf]; omega⟩
      · obtain rfl : m = V := by omega
        have hmm : manyN L m = 2 * laidN L 8 := by rw [← hlen]; exact HSUM.out
        have hl8 := laidN_le L 8
        have HMM := Lib.hid hmm
        have HKC := Lib.hid (HKW.out.trans' HK.out)
        have HHA := Lib.hid (fun W (hk : Keeps (fun _ => False) wr W) (x : Int) => thas (HT.out.keep (HK.out.trans' hk)) x)
        unfold RetPost tptr at HHA
        clear hmm
        go_upto_region 25 with fail
        go_loopw [11, 18] (fun t i wx => ∃ (k : Nat), k ≤ 8 ∧ t = .int .i64 (laidN L k : Int) ∧ i = .int .i64 (k : Int) ∧ Hid (Keeps (fun _ => False) wr wx)) (fun _ i _ => 8 - (intOf i).toNat)
        case atStart => exact ⟨0, Nat.zero_le _, by rw [laidN_zero]; rfl, rfl, Lib.hid (Keeps.refl _ _)⟩
        case round =>
          obtain ⟨k, hk, rfl, rfl, HX⟩ := hrel
          have hlk := laidN_le L k
          have hst := laidN_step L k
          have hlk1 := laidN_le L (k + 1)
          by_cases hk8 : k < 8
          · have HHK := Lib.hid (HHA.out wr HX.out (k : Int))
            rw [Int.toNat_natCast] at HHK
            by_cases hs : Stands L (2 * k)
            · as_aux_lemma =>
              rw [decide_eq_true (show (0 : Int) ≤ (k : Int) ∧ (k : Int) < ((8 : Nat) : Int) ∧ Stands L (2 * k) from ⟨by omega, by omega, hs⟩)] at HHK
              rw [if_pos hs] at hst
              have HWL : Hid (wrap64 ((laidN L k : Int) + 1) = (laidN L (k + 1) : Int)) := Lib.hid (by rw [hst]; unfold wrap64; omega)
              clear hst hs hlk hlk1
              go_wp2_with fail
              refine HHK.out.mono ?_
              rintro e w7 ⟨rfl, hk7⟩
              have HX2 := Lib.hid (HX.out.trans' hk7)
              clear hk7
              go_wp2_with fail
              refine ⟨⟨k + 1, by omega, by rw [HWL.out], by simp, HX2⟩, by simp [intOf]; omega⟩
            · as_aux_lemma =>
              rw [decide_eq_false (show ¬ ((0 : Int) ≤ (k : Int) ∧ (k : Int) < ((8 : Nat) : Int) ∧ Stands L (2 * k)) from fun q => hs q.2.2)] at HHK
              rw [if_neg hs, Nat.add_zero] at hst
              have HWL : Hid (laidN L (k + 1) = laidN L k) := Lib.hid hst
              clear hst hs hlk hlk1
              go_wp2_with fail
              refine HHK.out.mono ?_
              rintro e w7 ⟨rfl, hk7⟩
              have HX2 := Lib.hid (HX.out.trans' hk7)
              clear hk7
              go_wp2_with fail
              refine ⟨⟨k + 1, by omega, by rw [HWL.out], by simp, HX2⟩, by simp [intOf]; omega⟩
          · as_aux_lemma =>
            obtain rfl : k = 8 := by omega
            have hw2 : wrap64 (2 * (laidN L 8 : Int)) = 2 * (laidN L 8 : Int) := by unfold wrap64; omega
            have hmI : ((manyN L m : Nat) : Int) = 2 * (laidN L 8 : Int) := by rw [HMM.out]; omega
            have hee : (((manyN L m : Nat) : Int) == 2 * (laidN L 8 : Int)) = true := by rw [hmI]; simp
            have HSU := Lib.hid (fun W => sure10 W)
            unfold TruePost at HSU
            clear hlk hst hlk1 hmI
            go_wp2_with fail
            refine (HSU.out _).mono ?_
            rintro e w8 ⟨rfl, hk8⟩
            have HF := Lib.hid (HKC.out.trans' (HX.out.trans' hk8))
            clear hk8
            go_wp2_with fail
            go_ret
            exact ⟨rfl, HF.out⟩
theorem turnSums_enter (W : World) (hE : ErrT W) (n : Int) (_ : (Lit.int .i64 n).wf = true) (a : Option Addr) (c : Nat) (ls : List Act10) (hr : Rd W a (ls.flatMap actCells)) (hl : ls.length ≤ 9223372036854775807) :
    Calls Tryd.prog 4 #[.int .i64 n, .slice a ls.length c] W (TruePost W) := turnSums_walk n a c ls W hE hr hl
end Go.Proofs.YtjmkejkhpdhhbaaDoor
