/- Chapter 10's laws: TurnLoads. -/
import Derived.Test.YtjmkejkhpdhhbaaDoorLwT
import Derived.Test.YtjmkejkhpdhhbaaDoorLwR
namespace Go.Proofs.YtjmkejkhpdhhbaaDoor
open Go Go.RowKit
set_option linter.unusedVariables false
set_option linter.unusedSimpArgs false
set_option maxRecDepth 100000

/-- Load of sizes that cannot be. -/
theorem tload_bad (v x : Int) (w : World) (h : v < 1 ∨ 1048576 < v ∨ x < 1 ∨ 1048576 < x) (u : Value) : Calls Tryd.prog 36 #[.int .i64 v, .int .i64 x, u] w (RetPost (.tuple #[.pointer none, errno 1]) w) := by
  have HTN := Lib.hid (tnew_bad v x w h)
  unfold RetPost errno at *
  go_enter Tryd.func36, Tryd.ntmps36
  go_wp2_with fail
  refine HTN.out.mono ?_
  rintro e w1 ⟨rfl, hk⟩
  have HK := Lib.hid hk
  clear hk
  go_wp2_with fail
  go_ret2
  exact ⟨rfl, HK.out⟩
/-- The sum of the lengths, each no more than 100. -/
def msum (R : List (List Int)) (j : Nat) : Nat := ((R.take j).map fun l => min l.length 100).sum
theorem msum_step {R : List (List Int)} {j : Nat} {l : List Int} (h : R[j]? = some l) : msum R (j + 1) = msum R j + min l.length 100 := by
  unfold msum; rw [List.take_add_one, h]; simp
theorem msum_le (R : List (List Int)) (j : Nat) : msum R j ≤ 100 * j := by
  induction j with
  | zero => simp [msum]
  | succ j ih =>
    cases h : R[j]? with
    | some l => rw [msum_step h]; omega
    | none =>
      have : msum R (j + 1) = msum R j := by unfold msum; rw [List.take_add_one, h]; simp
      omega
theorem msum_mem {R : List (List Int)} {l : List Int} (h : l ∈ R) : min l.length 100 ≤ msum R R.length := by
  unfold msum
  rw [List.take_length]
  induction R with
  | nil => simp at h
  | cons x R ih =>
    rcases List.mem_cons.1 h with rfl | h
    · simp
    · have := ih h; simp at this ⊢; omega
set_option maxHeartbeats 4000000 in
theorem turnLoads_walk (v x : Int) (a : Option Addr) (c : Nat) (R : List (List Int)) (w : World) (hE : ErrT w) (hv : IRows w (.slice a R.length c) R) (hR : R.length ≤ 9223372036854775807) (hr : ∀ l ∈ R, l.length ≤ 9223372036854775807) :
    Calls Tryd.prog 8 #[.int .i64 v, .int .i64 x, .slice a R.length c] w (TruePost w) := by
  have HE := Lib.hid hE
  have HV := Lib.hid hv
  have HRB := Lib.hid hr
  have HSU := Lib.hid (fun W => sure10 W)
  unfold TruePost at HSU
  clear hE hv hr
  go_enter Tryd.func8, Tryd.ntmps8
  go_upto_region 2 with fail
  go_upto_block 0 with fail
  go_cut [7] (fun t wc => Hid (w = wc ∧ ∃ j : Nat, t = .int .i64 (msum R j : Int) ∧ (j = R.length ∨ j = 100) ∧ j ≤ R.length))
  case first =>
    as_aux_lemma =>
    go_wp2_with fail
    go_loopw [7, 8] (fun t i wr => ∃ (j : Nat), j ≤ R.length ∧ j ≤ 100 ∧ t = .int .i64 (msum R j : Int) ∧ i = .int .i64 (j : Int) ∧ Hid (w = wr)) (fun _ i _ => R.length - (intOf i).toNat)
    case atStart => exact ⟨0, Nat.zero_le _, Nat.zero_le _, rfl, rfl, Lib.hid rfl⟩
    case round =>
      obtain ⟨j, hj, hj1, rfl, rfl, HW⟩ := hrel
      obtain rfl := HW.out
      by_cases hlt : j < R.length ∧ j < 100
      · obtain ⟨hlt, hlt2⟩ := hlt
        obtain ⟨l, hl⟩ : ∃ l, R[j]? = some l := ⟨_, List.getElem?_eq_getElem hlt⟩
        obtain ⟨b, off, A, C, rfl, hc, _⟩ := HV.out.at_ hl
        have hms := msum_step hl
        have hle := msum_le R j
        have HMS := Lib.hid hms
        have HLE := Lib.hid hle
        by_cases hbig : 100 < l.length
        · have hbI : (100 : Int) < (l.length : Int) := by omega
          have HW1 : Hid (wrap64 ((msum R j : Int) + 100) = (msum R (j + 1) : Int)) := Lib.hid (by rw [hms]; unfold wrap64; omega)
          clear hms hle hl
          go_wp2_with fail
          exact ⟨⟨j + 1, by omega, by omega, by rw [HW1.out], by simp, by first | exact Lib.hid rfl | exact Lib.hid trivial⟩, by simp [intOf]; omega⟩
        · have hbI : ¬ (100 : Int) < (l.length : Int) := by omega
          have HW1 : Hid (wrap64 ((msum R j : Int) + (l.length : Int)) = (msum R (j + 1) : Int)) := Lib.hid (by rw [hms]; unfold wrap64; omega)
          clear hms hle hl
          go_wp2_with fail
          exact ⟨⟨j + 1, by omega, by omega, by rw [HW1.out], by simp, by first | exact Lib.hid rfl | exact Lib.hid trivial⟩, by simp [intOf]; omega⟩
      · rcases (show j < R.length ∧ ¬ j < 100 ∨ ¬ j < R.length by omega) with ⟨hja, hjb⟩ | hja
        · go_wp2_with fail
          go_meet
          exact Lib.hid ⟨rfl, j, rfl, by omega, hj⟩
        · go_wp2_with fail
          go_meet
          exact Lib.hid ⟨rfl, j, rfl, by omega, hj⟩
  case rest =>
    obtain ⟨rfl, j, rfl, hjj, hjR⟩ := hcut.out
    clear hcut
    by_cases hbm : 60 < msum R j
    · have hb1 : decide ((60 : Int) < (msum R j : Int)) = true := by simp; omega
      have hb2 : decide (60 < msum R j) = true := by simp; exact hbm
      go_wp2_with fail
      with_reducible refine (HSU.out _).mono ?_
      rintro e wz ⟨rfl, hkz⟩
      have HF := Lib.hid (hkz)
      clear hkz
      go_wp2_with fail
      go_ret
      exact ⟨rfl, HF.out⟩
    · have hb1 : decide ((60 : Int) < (msum R j : Int)) = false := by simp; omega
      have hb2 : decide (60 < msum R j) = false := by simp; omega
      by_cases hbl : 60 < R.length
      · have hb3 : decide ((60 : Int) < (R.length : Int)) = true := by simp; omega
        have hb4 : decide (60 < R.length) = true := by simp; exact hbl
        go_wp2_with fail
        with_reducible refine (HSU.out _).mono ?_
        rintro e wz ⟨rfl, hkz⟩
        have HF := Lib.hid (hkz)
        clear hkz
        go_wp2_with fail
        go_ret
        exact ⟨rfl, HF.out⟩
      · have hb3 : decide ((60 : Int) < (R.length : Int)) = false := by simp; omega
        have hb4 : decide (60 < R.length) = false := by simp; omega
        obtain rfl : j = R.length := by omega
        have hrow : Hid (∀ l ∈ R, l.length ≤ 60) := Lib.hid fun l hl => by have := msum_mem hl; omega
        generalize msum R R.length = ms at *
        rcases (show v < 1 ∨ (1 ≤ v ∧ 1048576 < v) ∨ (1 ≤ v ∧ v ≤ 1048576 ∧ x < 1) ∨ (1 ≤ v ∧ v ≤ 1048576 ∧ 1 ≤ x ∧ 1048576 < x) ∨ (1 ≤ v ∧ v ≤ 1048576 ∧ 1 ≤ x ∧ x ≤ 1048576) by omega) with h | ⟨h1, h2⟩ | ⟨h1, h2, h3⟩ | ⟨h1, h2, h3, h4⟩ | ⟨h1, h2, h3, h4⟩
        · as_aux_lemma =>
          have q1 : decide (1 ≤ v) = false := by simp; omega
          have HLB := Lib.hid (tload_bad v x w (by omega) (.slice a R.length c))
          have HNM := Lib.hid (fun W (hk : Keeps (fun _ => False) w W) => num10_err 1 W (HE.out.keep hk))
          unfold RetPost errno at HLB
          unfold NumPost errno at HNM
          go_wp2_with fail
          with_reducible refine HLB.out.mono ?_
          rintro e w1 ⟨rfl, hk1⟩
          have HK1 := Lib.hid hk1
          clear hk1
          go_wp2_with fail
          with_reducible refine (HNM.out _ HK1.out).mono ?_
          rintro e w2 ⟨rfl, hk2⟩
          have HK2 := Lib.hid (HK1.out.trans' hk2)
          clear hk2
          go_wp2_with fail
          with_reducible refine (HSU.out _).mono ?_
          rintro e wz ⟨rfl, hkz⟩
          have HF := Lib.hid (HK2.out.trans' hkz)
          clear hkz
          go_wp2_with fail
          go_ret
          exact ⟨rfl, HF.out⟩
        · as_aux_lemma =>
          have q1 : decide (1 ≤ v) = true := by simp; omega
          have q2 : decide (v ≤ 1048576) = false := by simp; omega
          have HLB := Lib.hid (tload_bad v x w (by omega) (.slice a R.length c))
          have HNM := Lib.hid (fun W (hk : Keeps (fun _ => False) w W) => num10_err 1 W (HE.out.keep hk))
          unfold RetPost errno at HLB
          unfold NumPost errno at HNM
          go_wp2_with fail
          with_reducible refine HLB.out.mono ?_
          rintro e w1 ⟨rfl, hk1⟩
          have HK1 := Lib.hid hk1
          clear hk1
          go_wp2_with fail
          with_reducible refine (HNM.out _ HK1.out).mono ?_
          rintro e w2 ⟨rfl, hk2⟩
          have HK2 := Lib.hid (HK1.out.trans' hk2)
          clear hk2
          go_wp2_with fail
          with_reducible refine (HSU.out _).mono ?_
          rintro e wz ⟨rfl, hkz⟩
          have HF := Lib.hid (HK2.out.trans' hkz)
          clear hkz
          go_wp2_with fail
          go_ret
          exact ⟨rfl, HF.out⟩
        · as_aux_lemma =>
          have q1 : decide (1 ≤ v) = true := by simp; omega
          have q2 : decide (v ≤ 1048576) = true := by simp; omega
          have q3 : decide (1 ≤ x) = false := by simp; omega
          have HLB := Lib.hid (tload_bad v x w (by omega) (.slice a R.length c))
          have HNM := Lib.hid (fun W (hk : Keeps (fun _ => False) w W) => num10_err 1 W (HE.out.keep hk))
          unfold RetPost errno at HLB
          unfold NumPost errno at HNM
          go_wp2_with fail
          with_reducible refine HLB.out.mono ?_
          rintro e w1 ⟨rfl, hk1⟩
          have HK1 := Lib.hid hk1
          clear hk1
          go_wp2_with fail
          with_reducible refine (HNM.out _ HK1.out).mono ?_
          rintro e w2 ⟨rfl, hk2⟩
          have HK2 := Lib.hid (HK1.out.trans' hk2)
          clear hk2
          go_wp2_with fail
          with_reducible refine (HSU.out _).mono ?_
          rintro e wz ⟨rfl, hkz⟩
          have HF := Lib.hid (HK2.out.trans' hkz)
          clear hkz
          go_wp2_with fail
          go_ret
          exact ⟨rfl, HF.out⟩
        · as_aux_lemma =>
          have q1 : decide (1 ≤ v) = true := by simp; omega
          have q2 : decide (v ≤ 1048576) = true := by simp; omega
          have q3 : decide (1 ≤ x) = true := by simp; omega
          have q4 : decide (x ≤ 1048576) = false := by simp; omega
          have HLB := Lib.hid (tload_bad v x w (by omega) (.slice a R.length c))
          have HNM := Lib.hid (fun W (hk : Keeps (fun _ => False) w W) => num10_err 1 W (HE.out.keep hk))
          unfold RetPost errno at HLB
          unfold NumPost errno at HNM
          go_wp2_with fail
          with_reducible refine HLB.out.mono ?_
          rintro e w1 ⟨rfl, hk1⟩
          have HK1 := Lib.hid hk1
          clear hk1
          go_wp2_with fail
          with_reducible refine (HNM.out _ HK1.out).mono ?_
          rintro e w2 ⟨rfl, hk2⟩
          have HK2 := Lib.hid (HK1.out.trans' hk2)
          clear hk2
          go_wp2_with fail
          with_reducible refine (HSU.out _).mono ?_
          rintro e wz ⟨rfl, hkz⟩
          have HF := Lib.hid (HK2.out.trans' hkz)
          clear hkz
          go_wp2_with fail
          go_ret
          exact ⟨rfl, HF.out⟩
        · have q1 : decide (1 ≤ v) = true := by simp; omega
          have q2 : decide (v ≤ 1048576) = true := by simp; omega
          have q3 : decide (1 ≤ x) = true := by simp; omega
          have q4 : decide (x ≤ 1048576) = true := by simp; omega
          rcases (show 60 < v ∨ (v ≤ 60 ∧ 60 < x) ∨ (v ≤ 60 ∧ x ≤ 60) by omega) with h5 | ⟨h5, h6⟩ | ⟨h5, h6⟩
          · have q5 : decide (60 < v) = true := by simp; exact h5
            go_wp2_with fail
            with_reducible refine (HSU.out _).mono ?_
            rintro e wz ⟨rfl, hkz⟩
            have HF := Lib.hid (hkz)
            clear hkz
            go_wp2_with fail
            go_ret
            exact ⟨rfl, HF.out⟩
          · have q5 : decide (60 < v) = false := by simp; exact h5
            have q6 : decide (60 < x) = true := by simp; exact h6
            go_wp2_with fail
            with_reducible refine (HSU.out _).mono ?_
            rintro e wz ⟨rfl, hkz⟩
            have HF := Lib.hid (hkz)
            clear hkz
            go_wp2_with fail
            go_ret
            exact ⟨rfl, HF.out⟩
          · have q5 : decide (60 < v) = false := by simp; exact h5
            have q6 : decide (60 < x) = false := by simp; exact h6
            obtain ⟨V, rfl⟩ := Int.eq_ofNat_of_zero_le (show 0 ≤ v by omega)
            obtain ⟨E, rfl⟩ := Int.eq_ofNat_of_zero_le (show 0 ≤ x by omega)
            have HLD := Lib.hid (tload V E w (by omega) (by omega) (by omega) (by omega) HV.out (by omega) (fun l hl => by have := hrow.out l hl; omega))
            unfold LoadPost errno tptr at HLD
            go_wp2_with fail
            with_reducible refine HLD.out.mono ?_
            rintro e w1 ⟨hk1, hres⟩
            have HRLD := Lib.hid (rload V E w1 (by omega) (by omega) (by omega) (by omega) (HV.out.keep hk1) (by omega) (fun l hl => by have := hrow.out l hl; omega))
            unfold RLdPost rval at HRLD
            have HK1 := Lib.hid hk1
            clear hk1 HLD
            rcases hres with ⟨hok, p, own, rfl, htu, hfr⟩ | ⟨hno, rfl⟩
            · have HTU := Lib.hid htu
              have HOK := Lib.hid hok
              clear htu hfr hok
              go_wp2_with fail
              with_reducible refine HRLD.out.mono ?_
              rintro e w2 ⟨hk2, hres2⟩
              obtain ⟨v2, rfl, hls⟩ : ∃ v, e = .returned (.tuple #[.agg #[.int .i64 (E : Int), v], .bool true]) ∧ LsRow w2 (w1.heap.size + 1) v (rowsAt (natsOf R) V R.length 0) := by
                rcases hres2 with ⟨_, h⟩ | ⟨h, _⟩
                · exact h
                · exact absurd HOK.out h
              obtain ⟨va, vc, hvv⟩ := hls.form
              rw [rowsAt_length] at hvv
              subst hvv
              have hRV : R.length ≤ V := HOK.out.2.2.2
              have hgp : GoodP E R.flatten := ⟨HOK.out.1, HOK.out.2.1⟩
              have hgood : Good E (rowsAt (natsOf R) V R.length 0) := ⟨fin_wf hRV hgp, fun d hd => by
                have h1 := (fin_stand hRV hgp d).1 hd
                have hdE := (fin_wf hRV hgp).bdS hd
                exact (fin_stand hRV hgp _).2 ((HOK.out.2.2.1 d hdE).1 h1)⟩
              have hka : Keeps (fun _ => False) w2 (w2.alloc (.cells #[.int .i64 (E : Int), .slice va V vc] 32)) := (Keeps.refl _ _).alloc _
              have HBX : Hid (Blk (w2.alloc (.cells #[.int .i64 (E : Int), .slice va V vc] 32)) w2.heap.size #[.int .i64 (E : Int), .slice va V vc] 32) := Lib.hid (Blk.new _ _ _)
              have HK3 := Lib.hid ((HK1.out.trans' hk2).trans' hka)
              have HTU3 := Lib.hid ((HTU.out.keep hk2).keep hka)
              have HLS3 := Lib.hid (hls.keep hka)
              have HGD := Lib.hid hgood
              clear hk2 hres2 hls hgp hgood hka HRLD HTU
              go_upto_region 15 with fail
              generalize w2.alloc _ = w3 at *
              generalize w2.heap.size = bx at *
              have HTO := Lib.hid (fun W (hk : Keeps (fun _ => False) w3 W) d u => told10 (HTU3.out.keep hk) (HLS3.out.keep hk) HGD.out ((HE.out.keep HK3.out).keep hk) d u)
              unfold TruePost tptr rval at HTO
              have hw2 : wrap64 (2 * (E : Int)) = 2 * (E : Int) := by unfold wrap64; omega
              go_upto_region 20 with fail
              go_loopw [14] (fun i wr => ∃ (d : Nat), d ≤ 2 * E ∧ i = .int .i64 (d : Int) ∧ Hid (Keeps (fun _ => False) w3 wr)) (fun i _ => 2 * E - (intOf i).toNat)
              case atStart => exact ⟨0, Nat.zero_le _, rfl, Lib.hid (Keeps.refl _ _)⟩
              case round =>
                obtain ⟨d, hd, rfl, HK⟩ := hrel
                obtain ⟨x0, x1, _, _, _⟩ := (HBX.out.kept HK.out id).cells
                by_cases hdE : d < 2 * E
                · as_aux_lemma =>
                  have hdI : (d : Int) < 2 * (E : Int) := by omega
                  have hK : Keeps (fun _ => False) w3 wr.drew := HK.out.drew
                  have hKd : Keeps (fun _ => False) wr wr.drew := (Keeps.refl _ _).drew
                  have hV0 : ((V : Int) == 0) = false := by simp; omega
                  have hV1 : ¬ V = 0 := by omega
                  have hV2 : decide (V = 0) = false := by simp; omega
                  go_upto_region 22 with fail
                  go_region_held3 (fun w' => w'.cell? ⟨bx, 0, none⟩ = some (.int .i64 (E : Int)) ∧ w'.cell? ⟨bx, 1, none⟩ = some (.slice va V vc))
                    (first | (with_reducible exact ⟨hKd.cellF x0, hKd.cellF x1⟩) | fail)
                    (first
                      | (go_at_call 35; with_reducible refine (HTO.out _ hK _ _).mono ?_; rintro e7 w7 ⟨rfl, hk7⟩; have hKd := hKd.trans' hk7)
                      | fail)
                  have HK2 := Lib.hid (HK.out.trans' hKd)
                  clear hK hKd
                  go_wp2_with fail
                  exact ⟨⟨d + 1, by omega, by simp, HK2⟩, by simp [intOf]; omega⟩
                · have hlE : decide ((d : Int) < 2 * (E : Int)) = false := by simp; omega
                  clear x0 x1 hdE hd
                  go_upto_region 25 with fail
                  go_loopw [15] (fun i wy => ∃ (d : Nat), d ≤ V ∧ i = .int .i64 (d : Int) ∧ Hid (Keeps (fun _ => False) w3 wy)) (fun i _ => V - (intOf i).toNat)
                  case atStart => exact ⟨0, Nat.zero_le _, rfl, HK⟩
                  case round =>
                    obtain ⟨q, hq, rfl, HKQ⟩ := hrel
                    by_cases hqV : q < V
                    · as_aux_lemma =>
                      obtain ⟨x0, x1, _, _, _⟩ := (HBX.out.kept HKQ.out id).cells
                      go_wp2_with fail
                      with_reducible refine (HTO.out _ HKQ.out _ _).mono ?_
                      rintro e w7 ⟨rfl, hk7⟩
                      have HK2 := Lib.hid (HKQ.out.trans' hk7)
                      clear hk7
                      go_wp2_with fail
                      exact ⟨⟨q + 1, by omega, by simp, HK2⟩, by simp [intOf]; omega⟩
                    · obtain rfl : q = V := by omega
                      have HKF := Lib.hid (HK3.out.trans' HKQ.out)
                      go_wp2_with fail
                      with_reducible refine (HSU.out _).mono ?_
                      rintro e wz ⟨rfl, hkz⟩
                      have HF := Lib.hid (HKF.out.trans' hkz)
                      clear hkz
                      go_wp2_with fail
                      go_ret
                      exact ⟨rfl, HF.out⟩
            · have HNO := Lib.hid hno
              have HNM := Lib.hid (fun W (hk : Keeps (fun _ => False) w W) => num10_err 3 W (HE.out.keep hk))
              unfold NumPost errno at HNM
              clear hno
              go_wp2_with fail
              with_reducible refine HRLD.out.mono ?_
              rintro e w2 ⟨hk2, hres2⟩
              obtain rfl : e = .returned (.tuple #[.agg #[.int .i64 0, .slice none 0 0], .bool false]) := by
                rcases hres2 with ⟨h, _⟩ | ⟨_, h⟩
                · exact absurd h HNO.out
                · exact h
              have HK3 : Hid (Keeps (fun _ => False) w (w2.alloc (.cells #[.int .i64 0, .slice none 0 0] 32))) := Lib.hid ((HK1.out.trans' hk2).alloc _)
              clear hk2 hres2 HRLD
              go_wp2_with fail
              with_reducible refine (HNM.out _ HK3.out).mono ?_
              rintro e w4 ⟨rfl, hk4⟩
              have HK4 := Lib.hid (HK3.out.trans' hk4)
              clear hk4
              go_wp2_with fail
              with_reducible refine (HSU.out _).mono ?_
              rintro e wz ⟨rfl, hkz⟩
              have HF := Lib.hid (HK4.out.trans' hkz)
              clear hkz
              go_wp2_with fail
              go_ret
              exact ⟨rfl, HF.out⟩
theorem turnLoads_enter (W : World) (hE : ErrT W) (v : Int) (_ : (Lit.int .i64 v).wf = true) (x : Int) (_ : (Lit.int .i64 x).wf = true) (a : Option Addr) (c : Nat) (R : List (List Int)) (hv : IRows W (.slice a R.length c) R) (hR : R.length ≤ 9223372036854775807) (hr : ∀ l ∈ R, l.length ≤ 9223372036854775807) :
    Calls Tryd.prog 8 #[.int .i64 v, .int .i64 x, .slice a R.length c] W (TruePost W) := turnLoads_walk v x a c R W hE hv hR hr
end Go.Proofs.YtjmkejkhpdhhbaaDoor
