/- Chapter 10's laws: TurnCopies. -/
import Derived.Test.YtjmkejkhpdhhbaaDoorLwQ
namespace Go.Proofs.YtjmkejkhpdhhbaaDoor
open Go Go.RowKit
set_option linter.unusedVariables false
set_option linter.unusedSimpArgs false
set_option maxRecDepth 100000

def intsOf (M : List (List Nat)) : List (List Int) := M.map fun l => l.map Int.ofNat
theorem intsOf_length (M : List (List Nat)) : (intsOf M).length = M.length := by simp [intsOf]
theorem natsOf_intsOf (M : List (List Nat)) : natsOf (intsOf M) = M := by
  unfold natsOf intsOf
  rw [List.map_map]
  conv => rhs; rw [← List.map_id M]
  refine List.map_congr_left fun l _ => ?_
  simp only [Function.comp_apply, List.map_map, id]
  conv => rhs; rw [← List.map_id l]
  exact List.map_congr_left fun d _ => rfl
theorem intsOf_flat (M : List (List Nat)) : (intsOf M).flatten = M.flatten.map Int.ofNat := by rw [intsOf, List.map_flatten]
theorem intsV_of (l : List Nat) : intsV (l.map Int.ofNat) = nats l := by unfold intsV nats; rw [List.map_map]; rfl
theorem mem_intsOf {M : List (List Nat)} {d : Nat} : (d : Int) ∈ (intsOf M).flatten ↔ Stands M d := by
  rw [intsOf_flat, List.mem_map]
  constructor
  · rintro ⟨x, hx, e⟩
    have : x = d := by have : (x : Int) = d := e; omega
    exact this ▸ hx
  · intro h; exact ⟨d, h, rfl⟩
theorem okL_good {E V : Nat} {M : List (List Nat)} (h : Good E M) (hV : M.length ≤ V) : OkL E V (intsOf M) := by
  refine ⟨fun d hd => ?_, ?_, fun d _ => ?_, by rw [intsOf_length]; exact hV⟩
  · rw [intsOf_flat] at hd
    obtain ⟨x, hx, rfl⟩ := List.mem_map.1 hd
    have := h.toWF.bdS hx
    exact ⟨Int.natCast_nonneg x, by have : (Int.ofNat x) = (x : Int) := rfl; omega⟩
  · rw [intsOf_flat]
    unfold List.Nodup
    rw [List.pairwise_map]
    exact h.nodup.imp fun hne e => hne (Int.ofNat.inj e)
  · rw [mem_intsOf, mem_intsOf]
    exact ⟨fun q => h.twin _ q, fun q => by have := h.twin _ q; rwa [tw_tw] at this⟩
theorem RsAt.ints {w : World} {B : Nat} {v : Value} {Ls : List (List Nat)} (h : RsAt w B v Ls) : IRows w v (intsOf Ls) := by
  obtain ⟨us, h1, h2⟩ := h
  obtain ⟨a, c, e, hr, _, _⟩ := Rd.of_own h1
  refine ⟨us, by rw [intsOf_length]; have := h1.1; omega, ⟨a, c, by rw [intsOf_length]; exact e, hr⟩, fun i l hl => ?_⟩
  unfold intsOf at hl
  rw [List.getElem?_map] at hl
  obtain ⟨m, hm, rfl⟩ := Option.map_eq_some_iff.1 hl
  obtain ⟨u, hu, a', c', e', hr', _⟩ := h2 i m hm
  refine ⟨a', c', by rw [List.length_map, ← e']; exact hu, ?_⟩
  have h3 := intsV_of m
  exact h3 ▸ hr'
theorem tell_map {E : Nat} {L : List (List Nat)} (h : Good E L) (d : Nat) :
    (if dErr E (L.map rnd) d = 0 then ((nxt (L.map rnd) d : Nat) : Int) else 0) = (if dErr E L d = 0 then ((nxt L d : Nat) : Int) else 0) ∧ (if dErr E (L.map rnd) d = 0 then ((vtx (L.map rnd) d : Nat) : Int) else 0) = (if dErr E L d = 0 then ((vtx L d : Nat) : Int) else 0) := by
  rw [dErr_map]
  by_cases h0 : dErr E L d = 0
  · rw [if_pos h0, if_pos h0, if_pos h0, if_pos h0]
    obtain ⟨n, hn, hs⟩ := dErr_zero h0
    obtain rfl : d = n := by omega
    rw [nxt_map h hs, vtx_map h hs]
    exact ⟨rfl, rfl⟩
  · rw [if_neg h0, if_neg h0, if_neg h0, if_neg h0]
    exact ⟨rfl, rfl⟩
set_option maxHeartbeats 4000000 in
theorem turnCopies_walk (n : Int) (a : Option Addr) (c : Nat) (ls : List Act10) (w : World) (hE : ErrT w) (hz : Rd w a (actsV ls)) (hzl : ls.length ≤ 9223372036854775807) :
    Calls Tryd.prog 12 #[.int .i64 n, .slice a ls.length c] w (TruePost w) := by
  have HE0 := Lib.hid hE
  have HZ0 := Lib.hid hz
  obtain ⟨hk1, hk2⟩ := kof_le n 6 (by decide)
  have hk := show wrap64 (1 + wrap64 ((IntKind.u64.wrap n).tmod 6)) = (kof n 6 : Int) from kof_val n 6 (by decide) (by decide)
  generalize kof n 6 = V at *
  clear hE hz
  have HTN := Lib.hid (tnew V 8 w hk1 (by omega) (by decide) (by decide))
  have HRN := Lib.hid (fun W => rnew V 8 W hk1 (by omega))
  unfold NewPost tptr at HTN
  unfold RPost rval at HRN
  go_enter Tryd.func12, Tryd.ntmps12
  go_upto_region 2 with fail
  rw [hk]
  go_wp2_with fail
  refine HTN.out.mono ?_
  rintro e w1 ⟨p, own, rfl, htu, hfr, hk1'⟩
  have HTU := Lib.hid htu
  have HFR := Lib.hid hfr
  have HK1 := Lib.hid hk1'
  clear htu hfr hk1' hk
  go_wp2_with fail
  refine (HRN.out w1).mono ?_
  rintro e w2 ⟨v, rfl, hls, hk2'⟩
  obtain ⟨va, vc, rfl⟩ := hls.form
  have HLA := Lib.hid (LawAt.start (w0 := w) (E := 8) HTU.out HFR.out HK1.out hls hk2')
  clear hls hk2' HTU HFR HK1 HTN HRN
  simp only [List.length_replicate] at HLA
  go_upto_region 6 with fail
  have HLA0 : Hid (∃ L v, LawAt w own p 8 8 w1.heap.size V w2.heap.size L v (w2.alloc (.cells #[.int .i64 8, .slice va V vc] 32))) := ⟨_, _, HLA.out⟩
  clear HLA
  generalize w2.alloc _ = w3 at *
  generalize w2.heap.size = bx at *
  generalize w1.heap.size = B at *
  go_upto_block 0 with fail
  go_cut [] (fun wc => Hid (∃ L v, LawAt w own p 8 8 B V bx L v wc))
  case first =>
    as_aux_lemma =>
    go_wp2_with fail
    go_loopw [9] (fun i wr => ∃ (j : Nat), j ≤ ls.length ∧ j ≤ 40 ∧ i = .int .i64 (j : Int) ∧ Hid (∃ L v, LawAt w own p 8 8 B V bx L v wr)) (fun i _ => ls.length - (intOf i).toNat)
    case atStart => exact ⟨0, Nat.zero_le _, Nat.zero_le _, rfl, HLA0⟩
    case round =>
      obtain ⟨j, hj, hj30, rfl, HS⟩ := hrel
      clear HLA0
      by_cases hlt : j < ls.length ∧ j < 40
      · obtain ⟨L, v, hla⟩ := HS.out
        have HLA := Lib.hid hla
        clear HS
        have h0L : 1 ≤ L.length := by rw [hla.len]; exact hk1
        obtain ⟨va, vc, rfl⟩ := hla.ls.form
        rw [hla.len] at hla HLA
        obtain ⟨hlt, hlt2⟩ := hlt
        obtain ⟨ab, ao, rfl, hab, q0, q1, q2, q3, q4, q5⟩ := actsAt (HZ0.out.keep hla.kp) j hlt
        have HDO := Lib.hid (fun W (hk : Keeps (fun _ => False) wr W) => hla.act HE0.out hk ls[j] (Or.inl rfl))
        have hab0 : ab < w.heap.size := (actsAt HZ0.out j hlt).elim fun b h => by
          obtain ⟨off, he, hb, _⟩ := h
          cases he; exact hb
        have hnab := hla.nold hab0
        have HNB := Lib.hid hla.nbx
        have HG := Lib.hid (actL_good hla.good ls[j])
        have HLN : Hid ((actL 8 L ls[j]).length = V) := (actL_length 8 L ls[j]).trans hla.len
        have hK : Keeps (fun _ => False) wr wr.drew := (Keeps.refl _ _).drew
        obtain ⟨b0, b1, _, _, _⟩ := (hla.keep hK).cells
        unfold actVal rval tptr DoPost at HDO
        unfold rval at HDO
        generalize ls[j].kind = z0 at *
        generalize ls[j].e = z1 at *
        generalize ls[j].a.1 = z2 at *
        generalize ls[j].a.2 = z3 at *
        generalize ls[j].b.1 = z4 at *
        generalize ls[j].b.2 = z5 at *
        generalize actL 8 L ls[j] = L5 at *
        have h8 : ((8 : Nat) : Int) = 8 := rfl
        clear hla
        simp only [h8] at HDO b0
        go_upto_region 9 with fail
        obtain ⟨p0, p1, p2, p3, p4, p5⟩ := six_keep hK q0 q1 q2 q3 q4 q5
        go_region_with (first
            | (go_at_call 18; with_reducible refine (HDO.out _ hK).mono ?_; rintro e5 w5 ⟨v5, rfl, ht5, hls5, hk5'⟩; obtain ⟨va5, vc5, rfl⟩ := hls5.form; have hk5 : Keeps own wr w5 := (hK.mono (fp' := own) fun _ _ q => q.elim).trans' hk5'; obtain ⟨x0, x1, xf0, xf1, xl⟩ := (HLA.out.box.kept hk5 HNB.out).cells)
            | fail)
        all_goals
          have HS2 := Lib.hid (HLA.out.step hk5 ht5 hls5 (Keeps.refl _ _) HG.out HLN.out)
          simp only [h8] at HS2
          clear x0 x1 xf0 xf1 xl b0 b1 q0 q1 q2 q3 q4 q5 p0 p1 p2 p3 p4 p5 hk5 hk5' ht5 hls5
          generalize (World.setCell _ _ _).setCell _ (.slice va5 _ _) = we at *
          have HS3 : Hid (∃ L v, LawAt w own p 8 8 B V bx L v we) := ⟨_, _, HS2.out⟩
          clear HS2
          go_wp2_with fail
          refine ⟨⟨j + 1, by omega, by omega, by simp, HS3⟩, by simp [intOf]; omega⟩
      · rcases (show j < ls.length ∧ ¬ j < 40 ∨ ¬ j < ls.length by omega) with ⟨hja, hjb⟩ | hja
        all_goals
          go_wp2_with fail
          go_meet
          exact HS
  case rest =>
    obtain ⟨L, v, hla⟩ := hcut.out
    obtain ⟨va', vc', rfl⟩ := hla.ls.form
    have hlen := hla.len
    have HLA := Lib.hid hla
    have h0L : 0 < L.length := by rw [hlen]; exact hk1
    have hcells := (hla.cells).2.2.2.2
    have hownB : Hid (∀ k, own k → k < wc.heap.size) := Lib.hid fun k q => by have := (hla.low k q).2; have := hla.bxB; omega
    clear hcut hla HLA0 hcells
    obtain ⟨i0, hi, hz0, hz1, hz2⟩ := info_parts infoS
    go_upto_region 12 with fail
    go_loopw [10, 11] (fun t i wr => ∃ (m : Nat), m ≤ V ∧ i = .int .i64 (m : Int) ∧ Hid (Keeps (fun _ => False) wc wr ∧ RsAt wr wc.heap.size t ((L.take m).map rnd))) (fun _ i _ => V - (intOf i).toNat)
    case atStart => exact ⟨0, Nat.zero_le _, rfl, Lib.hid ⟨Keeps.refl _ _, RsAt.nil _ _⟩⟩
    case round =>
      obtain ⟨m, hm, rfl, HK⟩ := hrel
      by_cases hmV : m < V
      · as_aux_lemma =>
        obtain ⟨l, hl⟩ : ∃ l, L[m]? = some l := ⟨_, some_getD (by omega)⟩
        have HLM := Lib.hid hl
        have hgd : L.getD m [] = l := getD_some hl
        have HRD := tround (HLA.out.tu.keep HK.out.1) (n := m) (by omega)
        rw [hgd] at HRD
        unfold LPost tptr at HRD
        rw [errVal_zero] at HRD
        have HRD2 := Lib.hid HRD
        have hml : ((L.take m).map rnd).length = m := by simp; omega
        have HML := Lib.hid hml
        clear hl hgd HRD hml
        go_wp2_with fail
        refine HRD2.out.mono ?_
        rintro e w6 ⟨v6, rfl, hro, hk⟩
        obtain ⟨us, hown, hrows⟩ := HK.out.2.keep hk
        have hB : wc.heap.size ≤ w6.heap.size := Nat.le_trans HK.out.1.size hk.size
        have hfr : RowAt w6 wc.heap.size u10 v6 (rnd l) := by
          obtain ⟨us0, hown0, _⟩ := HK.out.2
          exact RowAt.fresh hown0 HK.out.1.size hro
        obtain ⟨a6, c6, rfl, _, _⟩ := Rd.of_own hro
        have H6 := Lib.hid (HK.out.1.trans' hk)
        have HFR := Lib.hid hfr
        have HRW := Lib.hid hrows
        have HOW := Lib.hid hown
        clear hk hro HRD2 hfr hrows
        go_wp2_with (first | (at_builtin; refine wpList_app1 rfl _ _ 30 rfl wc.heap.size 47 i0 (.slice none 0 0) 1 24 Tryd.underlying30 hi hz0 hz1 hz2 rfl (by decide) _ _ _ rfl hown _ 1 1 [.slice a6 (rnd l).length c6] 47 rfl rfl rfl ?c1 ?c2 ?c3 ?c4 ?_))
        case c1 => simp [Value.oneCell']
        case c2 => rw [HML.out]; unfold maxLen; omega
        case c3 => rw [HML.out]; omega
        case c4 => exact hB
        intro v7 w7 ho hk7 hb7 _ _
        have HK2 : Hid (Keeps (fun _ => False) wc w7 ∧ RsAt w7 wc.heap.size v7 ((L.take (m + 1)).map rnd)) := by
          refine Lib.hid ⟨H6.out.thin hk7 fun i e => (HOW.out.lt i e).1, ?_⟩
          rw [map_take_step HLM.out]
          exact RsAt.push HOW.out HRW.out HFR.out (by rw [HML.out]; exact ho) hk7 hb7
        clear ho hk7 hb7 hown
        go_wp2_with fail
        exact ⟨⟨m + 1, by omega, by simp, HK2⟩, by simp [intOf]; omega⟩
      · obtain rfl : m = V := by omega
        have hall : (L.take m).map rnd = L.map rnd := by rw [List.take_of_length_le (by omega)]
        have hrs := HK.out.2
        rw [hall] at hrs
        have HL2 := Lib.hid (HLA.out.keep HK.out.1)
        have hint := hrs.ints
        have hform := hint.form
        have hokm : OkL 8 m (intsOf (L.map rnd)) := okL_good HLA.out.good.map (by rw [List.length_map]; omega)
        have hRL : (intsOf (L.map rnd)).length = m := by rw [intsOf_length, List.length_map]; exact hlen
        have HTL := Lib.hid (tload m 8 wr hk1 (by omega) (by decide) (by decide) hint (by rw [hRL]; omega) (fun l hl => by
          unfold intsOf at hl
          obtain ⟨z, hz, rfl⟩ := List.mem_map.1 hl
          obtain ⟨y, hy, rfl⟩ := List.mem_map.1 hz
          rw [List.length_map, rnd_length]
          obtain ⟨q, hq⟩ := List.mem_iff_getElem?.1 hy
          have := HLA.out.tu.len hq
          omega))
        unfold LoadPost at HTL
        rw [hRL, natsOf_intsOf] at HTL
        have hall2 : rowsAt (L.map rnd) m m 0 = L.map rnd := by
          have := rowsAt_all (N := L.map rnd) (V := m) (by rw [List.length_map]; omega)
          rw [List.length_map, hlen, Nat.sub_self, List.replicate_zero, List.append_nil] at this
          exact this
        rw [hall2] at HTL
        have HOKM := Lib.hid hokm
        have HTELL := Lib.hid (fun d => tell_map HLA.out.good d)
        have HDE := Lib.hid (fun d : Nat => dErr_map (E := 8) (L := L) (d : Int))
        have HNM := Lib.hid (fun k W (hk : Keeps (fun _ => False) wr W) => num10_val k W ((HE0.out.keep HL2.out.kp).keep hk))
        have HSU := Lib.hid (fun W => sure10 W)
        have HKR := Lib.hid HL2.out.kp
        have HTU := Lib.hid HL2.out.tu
        unfold NumPost at HNM
        unfold TruePost at HSU
        unfold tptr at HTL
        have h8 : ((8 : Nat) : Int) = 8 := rfl
        simp only [h8] at HTL
        clear hrs hint hform hokm hRL hall2 hall
        go_upto_region 16 with fail
        go_wp2_with fail
        with_reducible refine HTL.out.mono ?_
        rintro e w5 ⟨hk5, hres⟩
        obtain ⟨p2, own2, rfl, htu2, _⟩ : ∃ p own, e = .returned (.tuple #[.pointer (some ⟨p, 0, none⟩), .nilIface]) ∧ Tu w5 own p 8 (L.map rnd) ∧ ∀ k, own k → wr.heap.size ≤ k := by
          rcases hres with ⟨_, h⟩ | ⟨h, _⟩
          · exact h
          · exact absurd HOKM.out h
        have HK5 := Lib.hid hk5
        have HT2 := Lib.hid htu2
        clear hk5 hres htu2 HTL
        go_upto_region 20 with fail
        go_loopw [16] (fun i wy => ∃ (d : Nat), d ≤ 16 ∧ i = .int .i64 (d : Int) ∧ Hid (Keeps (fun _ => False) w5 wy)) (fun i _ => 16 - (intOf i).toNat)
        case atStart => exact ⟨0, Nat.zero_le _, rfl, Lib.hid (Keeps.refl _ _)⟩
        case round =>
          obtain ⟨d, hd, rfl, HKD⟩ := hrel
          by_cases hd16 : d < 16
          · as_aux_lemma =>
            obtain ⟨te1, te2⟩ := HTELL.out d
            have hde := HDE.out d
            have h1 := fun W (hk : Keeps (fun _ => False) w5 W) => tnext (HTU.out.keep (HK5.out.trans' hk)) (d : Int)
            have h2 := fun W (hk : Keeps (fun _ => False) w5 W) => tnext (HT2.out.keep hk) (d : Int)
            have h3 := fun W (hk : Keeps (fun _ => False) w5 W) => torigin (HTU.out.keep (HK5.out.trans' hk)) (d : Int)
            have h4 := fun W (hk : Keeps (fun _ => False) w5 W) => torigin (HT2.out.keep hk) (d : Int)
            simp only [Int.toNat_natCast] at h1 h2 h3 h4
            rw [te1] at h2
            rw [te2] at h4
            rw [hde] at h2 h4
            generalize (if dErr 8 L d = 0 then ((nxt L d : Nat) : Int) else 0) = nx at *
            generalize (if dErr 8 L d = 0 then ((vtx L d : Nat) : Int) else 0) = og at *
            generalize dErr 8 L d = er at *
            have H1 := Lib.hid h1
            have H2 := Lib.hid h2
            have H3 := Lib.hid h3
            have H4 := Lib.hid h4
            unfold RetPost tptr at H1 H2 H3 H4
            clear te1 te2 hde h1 h2 h3 h4
            have hnn : ((nx : Int) != nx) = false := by simp
            have hoo : ((og : Int) != og) = false := by simp
            have hee : (((er : Nat) : Int) != ((er : Nat) : Int)) = false := by simp
            go_wp2_with fail
            with_reducible refine (H1.out _ HKD.out).mono ?_
            rintro e wa ⟨rfl, hka⟩
            have KA := Lib.hid (HKD.out.trans' hka)
            clear hka
            go_wp2_with fail
            with_reducible refine (H2.out _ KA.out).mono ?_
            rintro e wb ⟨rfl, hkb⟩
            have KB := Lib.hid (KA.out.trans' hkb)
            clear hkb
            go_wp2_with fail
            with_reducible refine (H3.out _ KB.out).mono ?_
            rintro e wc3 ⟨rfl, hkc⟩
            have KC := Lib.hid (KB.out.trans' hkc)
            clear hkc
            go_wp2_with fail
            with_reducible refine (H4.out _ KC.out).mono ?_
            rintro e wd ⟨rfl, hkd⟩
            have KD := Lib.hid (KC.out.trans' hkd)
            clear hkd
            go_wp2_with fail
            with_reducible refine (HNM.out er _ (HK5.out.trans' KD.out)).mono ?_
            rintro e we ⟨rfl, hke⟩
            have KE := Lib.hid (KD.out.trans' hke)
            clear hke
            go_wp2_with fail
            with_reducible refine (HNM.out er _ (HK5.out.trans' KE.out)).mono ?_
            rintro e wf ⟨rfl, hkf⟩
            have KF := Lib.hid (KE.out.trans' hkf)
            clear hkf
            go_wp2_with fail
            with_reducible refine (HNM.out er _ (HK5.out.trans' KF.out)).mono ?_
            rintro e wg ⟨rfl, hkg⟩
            have KG := Lib.hid (KF.out.trans' hkg)
            clear hkg
            go_wp2_with fail
            with_reducible refine (HNM.out er _ (HK5.out.trans' KG.out)).mono ?_
            rintro e wh ⟨rfl, hkh⟩
            have KH := Lib.hid (KG.out.trans' hkh)
            clear hkh
            go_wp2_with fail
            exact ⟨⟨d + 1, by omega, by simp, KH⟩, by simp [intOf]; omega⟩
          · obtain rfl : d = 16 := by omega
            have HKF := Lib.hid (HKR.out.trans' (HK5.out.trans' HKD.out))
            go_wp2_with fail
            with_reducible refine (HSU.out _).mono ?_
            rintro e wb ⟨rfl, hkb⟩
            have HF := Lib.hid (HKF.out.trans' hkb)
            clear hkb
            go_wp2_with fail
            go_ret
            exact ⟨rfl, HF.out⟩
theorem turnCopies_enter (W : World) (hE : ErrT W) (n : Int) (_ : (Lit.int .i64 n).wf = true) (a : Option Addr) (c : Nat) (ls : List Act10) (hr : Rd W a (ls.flatMap actCells)) (hl : ls.length ≤ 9223372036854775807) :
    Calls Tryd.prog 12 #[.int .i64 n, .slice a ls.length c] W (TruePost W) := turnCopies_walk n a c ls W hE hr hl
end Go.Proofs.YtjmkejkhpdhhbaaDoor
