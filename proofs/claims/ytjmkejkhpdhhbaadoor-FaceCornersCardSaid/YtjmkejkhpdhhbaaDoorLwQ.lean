/- The turns: Load. -/
import Derived.Test.YtjmkejkhpdhhbaaDoorLwO
import Derived.Test.YtjmkejkhpdhhbaaDoorLwK
namespace Go.Proofs.YtjmkejkhpdhhbaaDoor
open Go Go.RowKit
set_option linter.unusedVariables false
set_option linter.unusedSimpArgs false
set_option maxRecDepth 100000

theorem intsV_nats {l : List Int} (h : ∀ d ∈ l, 0 ≤ d) : intsV l = nats (l.map Int.toNat) := by
  unfold intsV nats
  rw [List.map_map]
  refine List.map_congr_left fun d hd => ?_
  have := h d hd
  simp only [Function.comp_apply]
  congr 1
  omega
theorem natsOf_getD {R : List (List Int)} {n : Nat} {l : List Int} (h : R[n]? = some l) : (natsOf R).getD n [] = l.map Int.toNat := by
  rw [List.getD_eq_getElem?_getD, natsOf, List.getElem?_map, h]; rfl
theorem natsOf_get {R : List (List Int)} {n : Nat} {l : List Int} (h : R[n]? = some l) : (natsOf R)[n]? = some (l.map Int.toNat) := by rw [natsOf, List.getElem?_map, h]; rfl
theorem natsOf_length (R : List (List Int)) : (natsOf R).length = R.length := by simp [natsOf]
theorem natsOf_flat (R : List (List Int)) : (natsOf R).flatten = R.flatten.map Int.toNat := by rw [natsOf, List.map_flatten]
theorem natsOf_nodup {E V : Nat} {R : List (List Int)} (h : OkL E V R) : (natsOf R).flatten.Nodup := by
  rw [natsOf_flat]
  unfold List.Nodup
  rw [List.pairwise_map]
  refine List.Pairwise.imp_of_mem (fun {a b} ha hb hne e => ?_) h.2.1
  have h1 := (h.1 a ha).1
  have h2 := (h.1 b hb).1
  exact hne (by omega)
def lastI (l : List Nat) (k : Nat) : Int := if k = 0 then -1 else ((l.getD (k - 1) 0 : Nat) : Int)
def LoadPost (V E : Nat) (R : List (List Int)) (w : World) (e : Ending) (w' : World) : Prop :=
  Keeps (fun _ => False) w w' ∧ ((OkL E V R ∧ ∃ p own, e = .returned (.tuple #[tptr p, .nilIface]) ∧ Tu w' own p E (rowsAt (natsOf R) V R.length 0) ∧ ∀ k, own k → w.heap.size ≤ k) ∨ (¬ OkL E V R ∧ e = .returned (.tuple #[.pointer none, errno 3])))
set_option maxHeartbeats 4000000 in
theorem tload (V E : Nat) (w : World) (hV1 : 1 ≤ V) (hV : V ≤ 1048576) (hE1 : 1 ≤ E) (hE : E ≤ 1048576) {v : Value} {R : List (List Int)} (hv : IRows w v R) (hR : R.length ≤ 1000000) (hr : ∀ l ∈ R, l.length ≤ 1000000) :
    Calls Tryd.prog 36 #[.int .i64 (V : Int), .int .i64 (E : Int), v] w (LoadPost V E R w) := by
  have HTN := Lib.hid (tnew V E w hV1 hV hE1 hE)
  unfold NewPost at HTN
  unfold LoadPost errno
  obtain ⟨va, vc, rfl⟩ := hv.form
  have HV := Lib.hid hv
  have HRB := Lib.hid hr
  clear hv hr
  go_enter Tryd.func36, Tryd.ntmps36
  go_wp2_with fail
  refine HTN.out.mono ?_
  rintro e w1 ⟨p, own, rfl, htu, hfr, hk1⟩
  have HOD := Lib.hid (todd htu (HV.out.keep hk1) hR HRB.out)
  rw [List.length_replicate] at HOD
  have HTU := Lib.hid htu
  have HFR := Lib.hid hfr
  have HK1 := Lib.hid hk1
  unfold OddPost at HOD
  clear htu hfr hk1 HTN
  unfold tptr at *
  go_wp2_with fail
  refine HOD.out.mono ?_
  rintro e w2 ⟨b, rfl, hb, hk2⟩
  have HK2 := Lib.hid (HK1.out.trans' hk2)
  have HT2 := Lib.hid (HTU.out.keep hk2)
  have HB := Lib.hid hb
  clear hk2 hb HOD HTU
  cases b with
  | true =>
    have hno : Hid (¬ OkL E V R) := Lib.hid (HB.out.1 rfl)
    clear HB
    go_wp2_with fail
    go_ret2
    exact ⟨HK2.out, Or.inr ⟨hno.out, rfl⟩⟩
  | false =>
    have hok : OkL E V R := Classical.byContradiction fun q => by have := HB.out.2 q; cases this
    have HOK := Lib.hid hok
    have hRV := hok.2.2.2
    have HND := Lib.hid (natsOf_nodup hok)
    have HT0 : Hid (Tu w2 own p E (rowsAt (natsOf R) V 0 0) ∧ Keeps (fun _ => False) w w2) := Lib.hid ⟨by rw [rowsAt_zero]; exact HT2.out, HK2.out⟩
    clear hok HB HT2
    go_upto_region 7 with fail
    go_loopw [30] (fun i wr => ∃ (n : Nat), n ≤ R.length ∧ i = .int .i64 (n : Int) ∧ Hid (Tu wr own p E (rowsAt (natsOf R) V n 0) ∧ Keeps (fun _ => False) w wr)) (fun i _ => R.length - (intOf i).toNat)
    case atStart => exact ⟨0, Nat.zero_le _, rfl, HT0⟩
    case round =>
      obtain ⟨n, hn, rfl, HS⟩ := hrel
      clear HT0
      by_cases hnR : n < R.length
      · as_aux_lemma =>
        obtain ⟨l, hl⟩ : ∃ l, R[n]? = some l := ⟨_, List.getElem?_eq_getElem hnR⟩
        have hlb : l.length ≤ 1000000 := HRB.out l (List.mem_iff_getElem?.2 ⟨n, hl⟩)
        have hlm : ∀ d ∈ l, 0 ≤ d ∧ d < 2 * (E : Int) := fun d hd => HOK.out.1 d (List.mem_flatten.2 ⟨l, List.mem_iff_getElem?.2 ⟨n, hl⟩, hd⟩)
        obtain ⟨b, off, A, C, rfl, hc0, hrd⟩ := HV.out.at_ hl
        rw [intsV_nats fun d hd => (hlm d hd).1] at hrd
        have hgd := natsOf_getD hl
        have hge := natsOf_get hl
        have hml : (l.map Int.toNat).length = l.length := by simp
        have hmb : ∀ d ∈ l.map Int.toNat, d < 2 * E := fun d hd => by
          obtain ⟨z, hz, rfl⟩ := List.mem_map.1 hd
          have := hlm z hz
          omega
        rw [← hml] at hc0 hlb
        have hc := HS.out.2.cellF hc0
        generalize l.map Int.toNat = N at *
        have HGD := Lib.hid hgd
        have HGE := Lib.hid hge
        have HMB := Lib.hid hmb
        have HNN : Hid N.Nodup := Lib.hid ((nodup_flat HND.out).1 n N hge)
        have HRD := Lib.hid hrd
        clear hl hlm hgd hge hmb hrd hml hc0
        go_upto_region 11 with fail
        go_loopw [12, 37] (fun t i wx => ∃ (k : Nat), k ≤ N.length ∧ t = .int .i64 (lastI N k) ∧ i = .int .i64 (k : Int) ∧ Hid (Tu wx own p E (rowsAt (natsOf R) V n k) ∧ Keeps (fun _ => False) w wx)) (fun _ i _ => N.length - (intOf i).toNat)
        case atStart => exact ⟨0, Nat.zero_le _, rfl, rfl, HS⟩
        case round =>
          obtain ⟨k, hk, rfl, rfl, HX⟩ := hrel
          by_cases hkl : k < N.length
          · as_aux_lemma =>
            obtain ⟨b2, off2, rfl, hd⟩ := (HRD.out.keep HX.out.2).nat hkl
            have hmem : N.getD k 0 ∈ N := getD_mem hkl
            have hdE := HMB.out _ hmem
            have hns := rowsAt_stands (V := V) HGE.out hkl HND.out
            have hcur : (rowsAt (natsOf R) V n k)[n]? = some (N.take k) := by rw [rowsAt_get (by omega), if_neg (Nat.lt_irrefl _), if_pos rfl, HGD.out]
            have hcc : lastI N k = -1 ∧ N.take k = [] ∨ lastI N k = -1 ∧ (N.take k).length = 1 ∨ ∃ m : Nat, lastI N k = m ∧ m ∈ N.take k := by
              unfold lastI
              by_cases h0 : k = 0
              · subst h0; exact Or.inl ⟨if_pos rfl, List.take_zero⟩
              · refine Or.inr (Or.inr ⟨N.getD (k - 1) 0, if_neg h0, ?_⟩)
                rw [getD_at (by omega)]
                exact List.mem_take_iff_getElem.2 ⟨k - 1, by omega, rfl⟩
            have hst := rowsAt_step (V := V) (by omega) HGD.out hkl HNN.out (lastI N k) (by
              unfold lastI
              by_cases h0 : k = 0
              · exact Or.inl ⟨if_pos h0, h0⟩
              · exact Or.inr ⟨k - 1, by omega, if_neg h0⟩)
            have HPU := Lib.hid (tputC HX.out.1 (x := ((N.getD k 0 : Nat) : Int)) (y := (n : Int)) rfl rfl hdE hns hcur hcc)
            rw [hst] at HPU
            have hla : lastI N (k + 1) = ((N.getD k 0 : Nat) : Int) := by unfold lastI; rw [if_neg (by omega)]; rfl
            have HLA := Lib.hid hla
            have h32 : IntKind.i32.wrap ((N.getD k 0 : Nat) : Int) = ((N.getD k 0 : Nat) : Int) := by rw [IntKind.wrap_i32]; omega
            unfold TPost tptr cval at HPU
            generalize N.getD k 0 = d at *
            generalize lastI N k = la at *
            clear hmem hns hcur hcc hst hla
            go_wp2_with fail
            with_reducible refine HPU.out.mono ?_
            rintro e w3 ⟨rfl, ht3, hk3⟩
            have HX3 : Hid (Tu w3 own p E (rowsAt (natsOf R) V n (k + 1)) ∧ Keeps (fun _ => False) w w3) := Lib.hid ⟨ht3, HX.out.2.thin hk3 HFR.out⟩
            clear ht3 hk3 hd
            go_wp2_with fail
            exact ⟨⟨k + 1, by omega, by rw [HLA.out], by simp, HX3⟩, by simp [intOf]; omega⟩
          · obtain rfl : k = N.length := by omega
            have HS2 : Hid (Tu wr own p E (rowsAt (natsOf R) V (n + 1) 0) ∧ Keeps (fun _ => False) w wr) := Lib.hid ⟨by rw [← rowsAt_row, HGD.out]; exact HX.out.1, HX.out.2⟩
            go_wp2_with fail
            exact ⟨⟨n + 1, by omega, by simp, HS2⟩, by simp [intOf]; omega⟩
      · obtain rfl : n = R.length := by omega
        go_wp2_with fail
        go_ret2
        exact ⟨HS.out.2, Or.inl ⟨HOK.out, p, own, rfl, HS.out.1, HFR.out⟩⟩
end Go.Proofs.YtjmkejkhpdhhbaaDoor
