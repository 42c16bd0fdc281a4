/- Chapter 10's laws: TurnBack. -/
import Derived.Test.YtjmkejkhpdhhbaaDoorLwK
namespace Go.Proofs.YtjmkejkhpdhhbaaDoor
open Go Go.RowKit
set_option linter.unusedVariables false
set_option linter.unusedSimpArgs false
set_option maxRecDepth 100000

theorem back_lay {L : List (List Nat)} (h : Good 8 L) (h0 : 0 < L.length) (a b : Int × Int) :
    layErr 9 L 8 (crn L a) (crn L b) = 0 ∧ lay 9 L 8 (crn L a) (crn L b) = layL L 8 (crn L a) (crn L b) ∧ Good 9 (layL L 8 (crn L a) (crn L b)) ∧ (layL L 8 (crn L a) (crn L b)).length = L.length ∧ Stands (layL L 8 (crn L a) (crn L b)) 16 ∧
      liftErr 9 (layL L 8 (crn L a) (crn L b)) 8 = 0 ∧ lift 9 (layL L 8 (crn L a) (crn L b)) 8 = L ∧ manyN (layL L 8 (crn L a) (crn L b)) L.length = manyN L L.length + 2 ∧ ¬ Stands L 16 := by
  have ha := crn_ok h0 a
  have hb := crn_ok h0 b
  have hn : ¬ Stands L 16 := not_past h.toWF (by omega)
  have hn1 : ¬ Stands L 17 := not_past h.toWF (by omega)
  have e1 : layErr 9 L 8 (crn L a) (crn L b) = 0 := by
    unfold layErr
    rw [if_neg (by decide), if_neg (show ¬ Stands L (2 * (8 : Int).toNat) from hn), if_neg (by rw [ha]; decide)]
    exact hb
  have e2 : lay 9 L 8 (crn L a) (crn L b) = layL L 8 (crn L a) (crn L b) := by unfold lay; rw [if_pos e1]; rfl
  have hs : Stands (layL L 8 (crn L a) (crn L b)) 16 := (lay_stands ha hb).2 (Or.inl rfl)
  have hg : Good 9 (layL L 8 (crn L a) (crn L b)) := e2 ▸ (h.more (by decide)).lay 8 (crn L a) (crn L b)
  have hl : (layL L 8 (crn L a) (crn L b)).length = L.length := by rw [← e2, lay_length]
  have e3 : liftErr 9 (layL L 8 (crn L a) (crn L b)) 8 = 0 := by
    unfold liftErr
    rw [if_neg (by decide), if_pos (show Stands _ (2 * (8 : Int).toNat) from hs)]
  refine ⟨e1, e2, hg, hl, hs, e3, ?_, ?_, hn⟩
  · unfold lift; rw [if_pos e3]; exact lift_layL ha hb hn hn1
  · have := many_lay h ha hb hg
    rw [hl] at this
    exact this
set_option maxHeartbeats 4000000 in
theorem turnBack_walk (n : Int) (a : Option Addr) (c : Nat) (ls : List Act10) (y : Act10) (w : World) (hE : ErrT w) (hz : Rd w a (actsV ls)) (hzl : ls.length ≤ 9223372036854775807) :
    Calls Tryd.prog 5 #[.int .i64 n, .slice a ls.length c, actVal y] w (TruePost w) := by
  have HE := Lib.hid hE
  have HZ := Lib.hid hz
  obtain ⟨hk1, hk2⟩ := kof_le n 6 (by decide)
  have hk := show wrap64 (1 + wrap64 ((IntKind.u64.wrap n).tmod 6)) = (kof n 6 : Int) from kof_val n 6 (by decide) (by decide)
  generalize kof n 6 = V at *
  clear hE hz
  obtain ⟨oz0, oz1, ⟨oa1, oa2⟩, ⟨ob1, ob2⟩⟩ := y
  unfold actVal
  generalize hW : w.alloc (.cells #[.int .i64 oz0, .int .i64 oz1, .int .i64 oa1, .int .i64 oa2, .int .i64 ob1, .int .i64 ob2] 37) = w0
  have HK0 : Hid (Keeps (fun _ => False) w w0) := by rw [← hW]; exact (Keeps.refl _ _).alloc _
  have HBC : Hid (Blk w0 w.heap.size #[.int .i64 oz0, .int .i64 oz1, .int .i64 oa1, .int .i64 oa2, .int .i64 ob1, .int .i64 ob2] 37) := by rw [← hW]; exact Blk.new _ _ _
  have HE0 := Lib.hid (HE.out.keep HK0.out)
  have HZ0 := Lib.hid (HZ.out.keep HK0.out)
  have HTN := Lib.hid (tnew V 9 w0 hk1 (by omega) (by decide) (by decide))
  have HRN := Lib.hid (fun W => rnew V 8 W hk1 (by omega))
  unfold NewPost tptr at HTN
  unfold RPost rval at HRN
  clear HE HZ
  go_enter Tryd.func5, Tryd.ntmps5
  go_upto_region 1 with fail
  clear hW
  go_upto_region 2 with fail
  rw [hk]
  go_wp2_with fail
  refine HTN.out.mono ?_
  rintro e w1 ⟨p, own, rfl, htu, hfr, hk1'⟩
  have HTU := Lib.hid htu
  have HFR := Lib.hid hfr
  have HK1 := Lib.hid hk1'
  clear htu hfr hk1' hk
  go_wp2_with fail
  refine (HRN.out w1).mono ?_
  rintro e w2 ⟨v, rfl, hls, hk2'⟩
  obtain ⟨va, vc, rfl⟩ := hls.form
  have HLA := Lib.hid (LawAt.start (w0 := w0) (E := 8) HTU.out HFR.out HK1.out hls hk2')
  clear hls hk2' HTU HFR HK1 HTN HRN
  simp only [List.length_replicate] at HLA
  go_upto_region 6 with fail
  have HLA0 : Hid (∃ L v, LawAt w0 own p 9 8 w1.heap.size V w2.heap.size L v (w2.alloc (.cells #[.int .i64 8, .slice va V vc] 32))) := ⟨_, _, HLA.out⟩
  clear HLA
  generalize w2.alloc _ = w3 at *
  generalize w2.heap.size = bx at *
  generalize w1.heap.size = B at *
  go_upto_block 0 with fail
  go_cut [] (fun wc => Hid (∃ L v, LawAt w0 own p 9 8 B V bx L v wc))
  case first =>
    as_aux_lemma =>
    go_wp2_with fail
    go_loopw [11] (fun i wr => ∃ (j : Nat), j ≤ ls.length ∧ j ≤ 30 ∧ i = .int .i64 (j : Int) ∧ Hid (∃ L v, LawAt w0 own p 9 8 B V bx L v wr)) (fun i _ => ls.length - (intOf i).toNat)
    case atStart => exact ⟨0, Nat.zero_le _, Nat.zero_le _, rfl, HLA0⟩
    case round =>
      obtain ⟨j, hj, hj30, rfl, HS⟩ := hrel
      clear HLA0
      by_cases hlt : j < ls.length ∧ j < 30
      · by_cases hro : 0 ≤ ls[j].e ∧ ls[j].e < 8
        · obtain ⟨L, v, hla⟩ := HS.out
          have HLA := Lib.hid hla
          clear HS
          have h0L : 1 ≤ L.length := by rw [hla.len]; exact hk1
          obtain ⟨va, vc, rfl⟩ := hla.ls.form
          rw [hla.len] at hla HLA
          obtain ⟨hlt, hlt2⟩ := hlt
          obtain ⟨ab, ao, rfl, hab, q0, q1, q2, q3, q4, q5⟩ := actsAt (HZ0.out.keep hla.kp) j hlt
          have HDO := Lib.hid (fun W (hk : Keeps (fun _ => False) wr W) => hla.act HE0.out hk ls[j] (Or.inr ⟨by decide, hro.1, hro.2⟩))
          have hab0 : ab < w0.heap.size := (actsAt HZ0.out j hlt).elim fun b h => by
            obtain ⟨off, he, hb, _⟩ := h
            cases he; exact hb
          have hnab := hla.nold hab0
          have HNB := Lib.hid hla.nbx
          have HG := Lib.hid (actL_good hla.good ls[j])
          have HLN : Hid ((actL 8 L ls[j]).length = V) := (actL_length 8 L ls[j]).trans hla.len
          have hK : Keeps (fun _ => False) wr wr.drew := (Keeps.refl _ _).drew
          obtain ⟨b0, b1, _, _, _⟩ := (hla.keep hK).cells
          unfold actVal rval tptr DoPost at HDO
          unfold rval at HDO
          generalize ls[j].kind = z0 at *
          generalize ls[j].e = z1 at *
          generalize ls[j].a.1 = z2 at *
          generalize ls[j].a.2 = z3 at *
          generalize ls[j].b.1 = z4 at *
          generalize ls[j].b.2 = z5 at *
          generalize actL 8 L ls[j] = L5 at *
          have h8 : ((8 : Nat) : Int) = 8 := rfl
          clear hla
          simp only [h8] at HDO b0
          have hd0 : decide (0 ≤ z1) = true := by simp; exact hro.1
          have hd1 : decide (z1 < 8) = true := by simp; exact hro.2
          go_upto_region 10 with fail
          obtain ⟨p0, p1, p2, p3, p4, p5⟩ := six_keep hK q0 q1 q2 q3 q4 q5
          go_region_with (first
              | (go_at_call 18; with_reducible refine (HDO.out _ hK).mono ?_; rintro e5 w5 ⟨v5, rfl, ht5, hls5, hk5'⟩; obtain ⟨va5, vc5, rfl⟩ := hls5.form; have hk5 : Keeps own wr w5 := (hK.mono (fp' := own) fun _ _ q => q.elim).trans' hk5'; obtain ⟨x0, x1, xf0, xf1, xl⟩ := (HLA.out.box.kept hk5 HNB.out).cells)
              | fail)
          all_goals
            have HS2 := Lib.hid (HLA.out.step hk5 ht5 hls5 (Keeps.refl _ _) HG.out HLN.out)
            simp only [h8] at HS2
            clear x0 x1 xf0 xf1 xl b0 b1 q0 q1 q2 q3 q4 q5 p0 p1 p2 p3 p4 p5 hk5 hk5' ht5 hls5
            generalize (World.setCell _ _ _).setCell _ (.slice va5 _ _) = we at *
            have HS3 : Hid (∃ L v, LawAt w0 own p 9 8 B V bx L v we) := ⟨_, _, HS2.out⟩
            clear HS2
            go_wp2_with fail
            refine ⟨⟨j + 1, by omega, by omega, by simp, HS3⟩, by simp [intOf]; omega⟩
        · obtain ⟨hlt, hlt2⟩ := hlt
          obtain ⟨L, v, hla⟩ := HS.out
          obtain ⟨ab, ao, rfl, hab, q0, q1, q2, q3, q4, q5⟩ := actsAt (HZ0.out.keep hla.kp) j hlt
          clear hla q0 q2 q3 q4 q5
          generalize ls[j].e = z1 at *
          rcases (show z1 < 0 ∨ (0 ≤ z1 ∧ 8 ≤ z1) by omega) with h | ⟨h, h2⟩
          · have hd0 : decide (0 ≤ z1) = false := by simp; exact h
            clear hro
            go_wp2_with fail
            exact ⟨⟨j + 1, by omega, by omega, by simp, HS⟩, by simp [intOf]; omega⟩
          · have hd0 : decide (0 ≤ z1) = true := by simp; exact h
            have hd1 : decide (z1 < 8) = false := by simp; exact h2
            clear hro
            go_wp2_with fail
            exact ⟨⟨j + 1, by omega, by omega, by simp, HS⟩, by simp [intOf]; omega⟩
      · rcases (show j < ls.length ∧ ¬ j < 30 ∨ ¬ j < ls.length by omega) with ⟨hja, hjb⟩ | hja
        all_goals
          go_wp2_with fail
          go_meet
          exact HS
  case rest =>
    obtain ⟨L, v, hla⟩ := hcut.out
    obtain ⟨va', vc', rfl⟩ := hla.ls.form
    have hlen := hla.len
    have HLA := Lib.hid hla
    have h0L : 0 < L.length := by rw [hlen]; exact hk1
    have hcells := (hla.cells).2.2.2.2
    have hownB : Hid (∀ k, own k → k < wc.heap.size) := Lib.hid fun k q => by have := (hla.low k q).2; have := hla.bxB; omega
    clear hcut hla HLA0 hcells
    obtain ⟨i0, hi, hz0, hz1, hz2⟩ := info_parts infoS
    go_upto_region 13 with fail
    go_loopw [12, 13] (fun t i wr => ∃ (m : Nat), m ≤ V ∧ i = .int .i64 (m : Int) ∧ Hid (Keeps (fun _ => False) wc wr ∧ RsAt wr wc.heap.size t ((L.take m).map rnd))) (fun _ i _ => V - (intOf i).toNat)
    case atStart => exact ⟨0, Nat.zero_le _, rfl, Lib.hid ⟨Keeps.refl _ _, RsAt.nil _ _⟩⟩
    case round =>
      obtain ⟨m, hm, rfl, HK⟩ := hrel
      by_cases hmV : m < V
      · as_aux_lemma =>
        obtain ⟨l, hl⟩ : ∃ l, L[m]? = some l := ⟨_, some_getD (by omega)⟩
        have HLM := Lib.hid hl
        have hgd : L.getD m [] = l := getD_some hl
        have HRD := tround (HLA.out.tu.keep HK.out.1) (n := m) (by omega)
        rw [hgd] at HRD
        unfold LPost tptr at HRD
        rw [errVal_zero] at HRD
        have HRD2 := Lib.hid HRD
        have hml : ((L.take m).map rnd).length = m := by simp; omega
        have HML := Lib.hid hml
        clear hl hgd HRD hml
        go_wp2_with fail
        refine HRD2.out.mono ?_
        rintro e w6 ⟨v6, rfl, hro, hk⟩
        obtain ⟨us, hown, hrows⟩ := HK.out.2.keep hk
        have hB : wc.heap.size ≤ w6.heap.size := Nat.le_trans HK.out.1.size hk.size
        have hfr : RowAt w6 wc.heap.size u12 v6 (rnd l) := by
          obtain ⟨us0, hown0, _⟩ := HK.out.2
          exact RowAt.fresh hown0 HK.out.1.size hro
        obtain ⟨a6, c6, rfl, _, _⟩ := Rd.of_own hro
        have H6 := Lib.hid (HK.out.1.trans' hk)
        have HFR := Lib.hid hfr
        have HRW := Lib.hid hrows
        have HOW := Lib.hid hown
        clear hk hro HRD2 hfr hrows
        go_wp2_with (first | (at_builtin; refine wpList_app1 rfl _ _ 30 rfl wc.heap.size 47 i0 (.slice none 0 0) 1 24 Tryd.underlying30 hi hz0 hz1 hz2 rfl (by decide) _ _ _ rfl hown _ 1 1 [.slice a6 (rnd l).length c6] 47 rfl rfl rfl ?c1 ?c2 ?c3 ?c4 ?_))
        case c1 => simp [Value.oneCell']
        case c2 => rw [HML.out]; unfold maxLen; omega
        case c3 => rw [HML.out]; omega
        case c4 => exact hB
        intro v7 w7 ho hk7 hb7 _ _
        have HK2 : Hid (Keeps (fun _ => False) wc w7 ∧ RsAt w7 wc.heap.size v7 ((L.take (m + 1)).map rnd)) := by
          refine Lib.hid ⟨H6.out.thin hk7 fun i e => (HOW.out.lt i e).1, ?_⟩
          rw [map_take_step HLM.out]
          exact RsAt.push HOW.out HRW.out HFR.out (by rw [HML.out]; exact ho) hk7 hb7
        clear ho hk7 hb7 hown
        go_wp2_with fail
        exact ⟨⟨m + 1, by omega, by simp, HK2⟩, by simp [intOf]; omega⟩
      · obtain rfl : m = V := by omega
        have hall : (L.take m).map rnd = L.map rnd := by rw [List.take_of_length_le (by omega)]
        have hrs := HK.out.2
        rw [hall] at hrs
        have HRS := Lib.hid hrs
        have HL2 := Lib.hid (HLA.out.keep HK.out.1)
        have hwr := HK.out.1.size
        have hownR : Hid (∀ k, own k → k < wc.heap.size) := hownB
        have HWR : Hid (wc.heap.size ≤ wr.heap.size) := hwr
        obtain ⟨t0, t1, _, _, _⟩ := HL2.out.cells
        have hbf := HBC.out.kept HL2.out.kp id
        have a0 := hbf.cell (i := 2)
        have a1' := hbf.cell (i := 3)
        have b0 := hbf.cell (i := 4)
        have b1' := hbf.cell (i := 5)
        simp only [List.getElem?_toArray, List.getElem?_cons_zero, List.getElem?_cons_succ] at a0 a1' b0 b1'
        obtain ⟨e1, e2, hg2, hl2, hs2, e3, e4, e5, hn16⟩ := back_lay HLA.out.good h0L (oa1, oa2) (ob1, ob2)
        have HCA : Hid (∀ W, Keeps (fun _ => False) wr W → Calls Tryd.prog 26 #[rval 8 (.slice va' L.length vc'), cArr (oa1, oa2), .bool false] W (RetPost (cArr (crn L (oa1, oa2))) W)) := Lib.hid fun W hk => corner10 (HL2.out.ls.keep hk) HLA.out.good.toWF h0L (by omega) (by decide) (oa1, oa2) false
        have HCB : Hid (∀ W, Keeps (fun _ => False) wr W → Calls Tryd.prog 26 #[rval 8 (.slice va' L.length vc'), cArr (ob1, ob2), .bool false] W (RetPost (cArr (crn L (ob1, ob2))) W)) := Lib.hid fun W hk => corner10 (HL2.out.ls.keep hk) HLA.out.good.toWF h0L (by omega) (by decide) (ob1, ob2) false
        have HTL : Hid (∀ W, Keeps (fun _ => False) wr W → Calls Tryd.prog 27 #[tptr p, .int .i64 8, cval (crn L (oa1, oa2)).1 (crn L (oa1, oa2)).2, cval (crn L (ob1, ob2)).1 (crn L (ob1, ob2)).2] W (TPost own p 9 (layL L 8 (crn L (oa1, oa2)) (crn L (ob1, ob2))) .nilIface W)) := Lib.hid fun W hk => by
          have := tlay (HL2.out.tu.keep hk) (HLA.out.good.more (by decide)) 8 (crn L (oa1, oa2)) (crn L (ob1, ob2))
          rwa [e1, e2, errVal_zero] at this
        have HG2 := Lib.hid hg2
        have HS2 := Lib.hid hs2
        have HE3 := Lib.hid e3
        have HE4 := Lib.hid e4
        have HE5 := Lib.hid e5
        have HN16 := Lib.hid hn16
        have HLN2 := Lib.hid (hl2.trans hlen)
        have h8 : ((8 : Nat) : Int) = 8 := rfl
        clear e1 e2 hg2 hs2 e3 e4 e5 hn16 hl2 hrs hwr hbf hall
        generalize layL L 8 (crn L (oa1, oa2)) (crn L (ob1, ob2)) = L2 at *
        generalize crn L (oa1, oa2) = ca at *
        generalize crn L (ob1, ob2) = cb at *
        obtain ⟨ca1, ca2⟩ := ca
        obtain ⟨cb1, cb2⟩ := cb
        rw [hlen] at HCA HCB t1
        unfold rval cArr RetPost at HCA HCB
        unfold TPost tptr cval at HTL
        simp only [h8] at HCA HCB t0 HTL
        go_upto_region 17 with fail
        go_cut [16, 17] (fun s t wx => Hid (∃ pa pb, s = .pointer (some ⟨pa, 0, none⟩) ∧ t = .pointer (some ⟨pb, 0, none⟩) ∧ Blk wx pa #[.int .i64 ca1, .int .i64 ca2] 23 ∧ Blk wx pb #[.int .i64 cb1, .int .i64 cb2] 23 ∧ wr.heap.size ≤ pa ∧ wr.heap.size ≤ pb ∧ Keeps (fun _ => False) wr wx))
        case first =>
          as_aux_lemma =>
          have hK0 : Keeps (fun _ => False) wr wr := Keeps.refl _ _
          have hK : Keeps (fun _ => False) wr wr.drew := (Keeps.refl _ _).drew
          go_region_held3 (fun w' => w'.cell? ⟨bx, 0, none⟩ = some (.int .i64 8) ∧ w'.cell? ⟨bx, 1, none⟩ = some (.slice va' m vc') ∧ w'.cell? ⟨w.heap.size, 2, none⟩ = some (.int .i64 oa1) ∧ w'.cell? ⟨w.heap.size, 3, none⟩ = some (.int .i64 oa2) ∧ w'.cell? ⟨w.heap.size, 4, none⟩ = some (.int .i64 ob1) ∧ w'.cell? ⟨w.heap.size, 5, none⟩ = some (.int .i64 ob2))
            (first | (with_reducible exact six_keep hK t0 t1 a0 a1' b0 b1') | (with_reducible exact six_keep (hK.alloc _) t0 t1 a0 a1' b0 b1') | (with_reducible exact six_keep ((hK.alloc _).alloc _) t0 t1 a0 a1' b0 b1') | (with_reducible exact six_keep (set2_keep hK (by first | omega | (simp; omega))) t0 t1 a0 a1' b0 b1') | (with_reducible exact six_keep (set2_keep (hK.alloc _) (by first | omega | (simp; omega))) t0 t1 a0 a1' b0 b1') | (with_reducible exact six_keep ((set2_keep hK (by first | omega | (simp; omega))).alloc _) t0 t1 a0 a1' b0 b1') | (with_reducible exact six_keep (set2_keep (set2_keep hK (by first | omega | (simp; omega))) (by first | omega | (simp; omega))) t0 t1 a0 a1' b0 b1') | (with_reducible exact six_keep (set2_keep ((hK.alloc _).alloc _) (by first | omega | (simp; omega))) t0 t1 a0 a1' b0 b1') | (with_reducible exact six_keep (set2_keep (set2_keep (hK.alloc _) (by first | omega | (simp; omega))) (by first | omega | (simp; omega))) t0 t1 a0 a1' b0 b1') | (with_reducible exact six_keep (set2_keep ((set2_keep hK (by first | omega | (simp; omega))).alloc _) (by first | omega | (simp; omega))) t0 t1 a0 a1' b0 b1') | (with_reducible exact six_keep (set2_keep (set2_keep ((hK.alloc _).alloc _) (by first | omega | (simp; omega))) (by first | omega | (simp; omega))) t0 t1 a0 a1' b0 b1') | (with_reducible exact six_keep (hK0.alloc _).drew t0 t1 a0 a1' b0 b1') | (with_reducible exact six_keep ((hK0.alloc _).alloc _).drew t0 t1 a0 a1' b0 b1'))
            (first
              | (go_at_call 26; with_reducible refine (HCA.out _ (by first | exact hK | exact (hK0.alloc _).drew | exact ((hK0.alloc _).alloc _).drew)).mono ?_; rintro e5 w5 ⟨rfl, hk5⟩; have hK : Keeps (fun _ => False) wr w5 := (by first | exact hK.trans' hk5 | exact (hK0.alloc _).drew.trans' hk5 | exact ((hK0.alloc _).alloc _).drew.trans' hk5); have hs5 : wr.heap.size ≤ w5.heap.size := hK.size; (first | (with_reducible have hz1 := box2_keptD hk5; (first | simp only [size_alloc, size_drew] at hz1 | skip); obtain ⟨z10, z11, zf10, zf11, zl1⟩ := hz1.cells) | skip); (first | (with_reducible have hz2 := box2_keptD2 hk5; (first | simp only [size_alloc, size_drew] at hz2 | skip); obtain ⟨z20, z21, zf20, zf21, zl2⟩ := hz2.cells) | skip))
              | (go_at_call 26; with_reducible refine (HCB.out _ (by first | exact hK | exact hK.alloc _ | exact (hK.alloc _).alloc _)).mono ?_; rintro e6 w6 ⟨rfl, hk6⟩; have hK : Keeps (fun _ => False) wr w6 := (by first | exact hK.trans' hk6 | exact (hK.alloc _).trans' hk6 | exact ((hK.alloc _).alloc _).trans' hk6); have hs6 : wr.heap.size ≤ w6.heap.size := hK.size; (first | (with_reducible have hy1 := hz1.kept hk6 id) | (with_reducible have hy1 := (hz1.alloc _).kept hk6 id) | (with_reducible have hy1 := ((hz1.alloc _).alloc _).kept hk6 id) | skip); (first | (with_reducible have hy2 := hz2.kept hk6 id) | (with_reducible have hy2 := (hz2.alloc _).kept hk6 id) | skip); (first | (with_reducible have hy3 := box2_kept hk6; simp only [size_alloc, size_drew] at hy3) | (with_reducible have hy3 := box2_kept hk6) | skip); (first | (with_reducible have hy4 := box2_kept2 hk6; simp only [size_alloc, size_drew] at hy4) | (with_reducible have hy4 := box2_kept2 hk6) | skip); (first | (obtain ⟨y10, y11, yf10, yf11, yl1⟩ := hy1.cells) | skip); (first | (obtain ⟨y20, y21, yf20, yf21, yl2⟩ := hy2.cells) | skip); (first | (obtain ⟨y30, y31, yf30, yf31, yl3⟩ := hy3.cells) | skip); (first | (obtain ⟨y40, y41, yf40, yf41, yl4⟩ := hy4.cells) | skip))
              | fail)
          all_goals
            go_wp2_with fail
            go_meet
            refine Lib.hid ⟨_, _, rfl, rfl, ?_, ?_, by first | omega | (simp; omega), by first | omega | (simp; omega), ?_⟩
            · repeat (first | with_reducible exact Blk.new _ _ _ | with_reducible exact hy1 | with_reducible exact hy2 | with_reducible exact hy3 | with_reducible exact hy4 | with_reducible refine Blk.set2 (x := .int .i64 0) (y := .int .i64 0) ?_ | with_reducible refine Blk.oth2 ?_ (by first | omega | (simp; omega)) | with_reducible exact Blk.newAt _ _ _ (by simp) | with_reducible refine Blk.alloc ?_ _)
            · repeat (first | with_reducible exact Blk.new _ _ _ | with_reducible exact hy1 | with_reducible exact hy2 | with_reducible exact hy3 | with_reducible exact hy4 | with_reducible refine Blk.set2 (x := .int .i64 0) (y := .int .i64 0) ?_ | with_reducible refine Blk.oth2 ?_ (by first | omega | (simp; omega)) | with_reducible exact Blk.newAt _ _ _ (by simp) | with_reducible refine Blk.alloc ?_ _)
            · repeat (first | with_reducible exact hK | with_reducible refine set2_keep ?_ (by first | omega | (simp; omega)) | with_reducible refine Keeps.alloc ?_ _)
        case rest =>
          obtain ⟨pa, pb, rfl, rfl, hba, hbb, hpa, hpb, hkc⟩ := hcut.out
          have KC := Lib.hid hkc
          obtain ⟨pa0, pa1, _, _, pal⟩ := hba.cells
          obtain ⟨pb0, pb1, _, _, pbl⟩ := hbb.cells
          clear hcut hba hbb hkc t0 t1 a0 a1' b0 b1' HCA HCB
          go_upto_region 18 with fail
          go_wp2_with fail
          refine (HTL.out _ (by first | exact KC.out | exact KC.out.drew)).mono ?_
          rintro e w5 ⟨rfl, ht5, hk5⟩
          have HT5 := Lib.hid ht5
          have HHS : Hid (∀ W, Keeps (fun _ => False) w5 W → Calls Tryd.prog 25 #[tptr p, .int .i64 8] W (RetPost (.bool true) W)) := Lib.hid fun W hk => by
            have := thas (ht5.keep hk) 8
            rwa [decide_eq_true (show (0 : Int) ≤ 8 ∧ (8 : Int) < ((9 : Nat) : Int) ∧ Stands L2 (2 * (8 : Int).toNat) from ⟨by decide, by decide, HS2.out⟩)] at this
          have HRS5 := Lib.hid (HRS.out.kept (Keeps.trans' (KC.out.mono (fp' := own) fun _ _ q => q.elim) hk5) hownR.out)
          have HK5 := Lib.hid (HL2.out.thin (Keeps.trans' (KC.out.mono (fp' := own) fun _ _ q => q.elim) hk5))
          unfold RetPost tptr at HHS
          clear ht5 hk5 pa0 pa1 pb0 pb1 pal pbl HTL
          go_wp2_with fail
          refine (HHS.out _ (by first | exact Keeps.refl _ _)).mono ?_
          rintro e w6 ⟨rfl, hk6⟩
          have HT6 := Lib.hid (HT5.out.keep hk6)
          have HRS6 := Lib.hid (HRS5.out.keep hk6)
          have HK6 := Lib.hid (HK5.out.trans' hk6)
          clear hk6 HHS HT5 HRS5 HK5
          go_upto_region 22 with fail
          have HM2 := Lib.hid (many_le HG2.out)
          go_loopw [18, 19] (fun t i wy => ∃ (k : Nat), k ≤ m ∧ t = .int .i64 (manyN L2 k : Int) ∧ i = .int .i64 (k : Int) ∧ Hid (Keeps (fun _ => False) w6 wy)) (fun _ i _ => m - (intOf i).toNat)
          case atStart => exact ⟨0, Nat.zero_le _, by rw [manyN_zero]; rfl, rfl, Lib.hid (Keeps.refl _ _)⟩
          case round =>
            obtain ⟨k, hkm, rfl, rfl, HKW⟩ := hrel
            by_cases hkm2 : k < m
            · as_aux_lemma =>
              obtain ⟨l, hl⟩ : ∃ l, L2[k]? = some l := ⟨_, some_getD (by have := HLN2.out; omega)⟩
              have HLM := Lib.hid hl
              have hgd : L2.getD k [] = l := getD_some hl
              have hlb : l.length ≤ 2 * 9 := HT6.out.len hl
              have hmb := HM2.out k
              have hmb1 := HM2.out (k + 1)
              have hst := manyN_step (L := L2) (n := k) (by have := HLN2.out; omega)
              rw [hgd] at hst
              have HRD := tround (HT6.out.keep HKW.out) (n := k) (by have := HLN2.out; omega)
              rw [hgd] at HRD
              unfold LPost tptr at HRD
              rw [errVal_zero] at HRD
              have HRD2 := Lib.hid HRD
              have HW1 : Hid (wrap64 ((manyN L2 k : Int) + (l.length : Int)) = (manyN L2 (k + 1) : Int)) := Lib.hid (by rw [hst]; unfold wrap64; omega)
              clear hl hgd hst hmb hmb1 HRD
              go_wp2_with fail
              refine HRD2.out.mono ?_
              rintro e w7 ⟨v7, rfl, hro, hk⟩
              rw [rnd_length] at hro
              obtain ⟨a7, c7, rfl, hrd7, _⟩ := Rd.of_own hro
              have H7 := Lib.hid (HKW.out.trans' hk)
              have HR7 := Lib.hid hrd7
              clear hk hro HRD2 hrd7
              go_upto_region 29 with fail
              go_loopw [22] (fun i wz => ∃ (q : Nat), q ≤ l.length ∧ i = .int .i64 (q : Int) ∧ Hid (Keeps (fun _ => False) w7 wz)) (fun i _ => l.length - (intOf i).toNat)
              case atStart => exact ⟨0, Nat.zero_le _, rfl, Lib.hid (Keeps.refl _ _)⟩
              case round =>
                obtain ⟨q, hq, rfl, HX⟩ := hrel
                by_cases hql : q < l.length
                · as_aux_lemma =>
                  have hnx := nxt_rnd HG2.out.toWF HLM.out hql
                  have hsc := sc_lt hql
                  have hsx : Stands L2 ((rnd l).getD q 0) := stands_at HLM.out (rnd_mem.1 (getD_mem (by rw [rnd_length]; exact hql)))
                  have hpv := HG2.out.toWF.prv_nxt hsx
                  have hvt := HG2.out.toWF.vtx HLM.out (rnd_mem.1 (getD_mem (l := rnd l) (i := q) (by rw [rnd_length]; exact hql)))
                  have hsy := HG2.out.toWF.nxt_stands hsx
                  have hdx := dErr_stands HG2.out.toWF hsx
                  have hdy := dErr_stands HG2.out.toWF hsy
                  rw [hnx] at hpv hsy hdy
                  have hr2 := HR7.out.keep HX.out
                  obtain ⟨bb, oo, rfl, g1⟩ := hr2.nat (i := q) (by rw [rnd_length]; exact hql)
                  obtain ⟨bb2, oo2, he, g2⟩ := hr2.nat (i := sc l.length q) (by rw [rnd_length]; exact hsc)
                  simp only [Option.some.injEq, Addr.mk.injEq, and_true] at he
                  obtain ⟨rfl, rfl⟩ := he
                  have HNX : Hid (∀ W, Keeps (fun _ => False) wr W → Calls Tryd.prog 28 #[tptr p, .int .i64 (((rnd l).getD q 0 : Nat) : Int)] W (RetPost (.tuple #[.int .i64 (((rnd l).getD (sc l.length q) 0 : Nat) : Int), .nilIface]) W)) := Lib.hid fun W hk => by
                    have := tnext (HT6.out.keep (H7.out.trans' (HX.out.trans' hk))) (((rnd l).getD q 0 : Nat) : Int)
                    rwa [hdx, if_pos rfl, Int.toNat_natCast, hnx, errVal_zero] at this
                  have HPV : Hid (∀ W, Keeps (fun _ => False) wr W → Calls Tryd.prog 29 #[tptr p, .int .i64 (((rnd l).getD (sc l.length q) 0 : Nat) : Int)] W (RetPost (.tuple #[.int .i64 (((rnd l).getD q 0 : Nat) : Int), .nilIface]) W)) := Lib.hid fun W hk => by
                    have := tprev (HT6.out.keep (H7.out.trans' (HX.out.trans' hk))) (((rnd l).getD (sc l.length q) 0 : Nat) : Int)
                    rwa [hdy, if_pos rfl, Int.toNat_natCast, hpv, errVal_zero] at this
                  have HOR : Hid (∀ W, Keeps (fun _ => False) wr W → Calls Tryd.prog 30 #[tptr p, .int .i64 (((rnd l).getD q 0 : Nat) : Int)] W (RetPost (.tuple #[.int .i64 (k : Int), .nilIface]) W)) := Lib.hid fun W hk => by
                    have := torigin (HT6.out.keep (H7.out.trans' (HX.out.trans' hk))) (((rnd l).getD q 0 : Nat) : Int)
                    rwa [hdx, if_pos rfl, Int.toNat_natCast, hvt, errVal_zero] at this
                  have hmod : (q + 1) % l.length = sc l.length q := (sc_mod hql).symm
                  have hST : ((q : Int) + 1).tmod (l.length : Int) = ((sc l.length q : Nat) : Int) := by rw [show (q : Int) + 1 = ((q + 1 : Nat) : Int) by omega, ← Int.ofNat_tmod, hmod]
                  have hw0 : IntKind.i64.wrap ((q : Int) + 1) = (q : Int) + 1 := by rw [IntKind.wrap_i64]; omega
                  have hw3 : IntKind.i64.wrap ((sc l.length q : Nat) : Int) = ((sc l.length q : Nat) : Int) := by rw [IntKind.wrap_i64]; omega
                  have hl0 : ((l.length : Int) == 0) = false := by rw [beq_eq_false_iff_ne]; omega
                  have hl1 : (l.length : Int) ≠ 0 := by omega
                  have hjl2 : ((sc l.length q : Nat) : Int) < (l.length : Int) := by omega
                  have hj0 : (0 : Int) ≤ ((sc l.length q : Nat) : Int) := by omega
                  clear hmod
                  generalize (rnd l).getD q 0 = x at *
                  generalize (rnd l).getD (sc l.length q) 0 = y at *
                  generalize sc l.length q = sq at *
                  unfold RetPost tptr at HNX HPV HOR
                  clear hnx hsx hpv hvt hsy hdx hdy hr2
                  go_wp2_with fail
                  with_reducible refine (HNX.out _ (Keeps.refl _ _)).mono ?_
                  rintro e wa ⟨rfl, hka⟩
                  have g1a := hka.cellF g1
                  have KA := Lib.hid hka
                  clear hka
                  go_wp2_with fail
                  with_reducible refine (HPV.out _ KA.out).mono ?_
                  rintro e wb ⟨rfl, hkb⟩
                  have KB := Lib.hid (KA.out.trans' hkb)
                  have g1b := KB.out.cellF g1
                  clear hkb g1a
                  go_wp2_with fail
                  with_reducible refine (HOR.out _ KB.out).mono ?_
                  rintro e wc2 ⟨rfl, hkc⟩
                  have KC2 := Lib.hid (KB.out.trans' hkc)
                  have g1c := KC2.out.cellF g1
                  have g2c := KC2.out.cellF g2
                  have HX2 := Lib.hid (HX.out.trans' KC2.out)
                  clear hkc g1b g1 g2
                  go_wp2_with fail
                  exact ⟨⟨q + 1, by omega, by simp, HX2⟩, by simp [intOf]; omega⟩
                · have hql' : q = l.length := by omega
                  have HK2 := Lib.hid (H7.out.trans' HX.out)
                  go_wp2_with fail
                  exact ⟨⟨k + 1, by omega, by rw [HW1.out], by simp, HK2⟩, by simp [intOf]; omega⟩
            · obtain rfl : m = k := by omega
              have HLF : Hid (∀ W, Keeps (fun _ => False) wr W → Calls Tryd.prog 31 #[tptr p, .int .i64 8] W (TPost own p 9 L .nilIface W)) := Lib.hid fun W hk => by
                have := tlift (HT6.out.keep (HKW.out.trans' hk)) HG2.out 8
                rwa [HE3.out, HE4.out, errVal_zero] at this
              unfold TPost tptr at HLF
              have HM2V := HM2.out m
              have HMV : Hid (manyN L2 m = manyN L m + 2) := by have := HE5.out; rw [hlen] at this; exact this
              clear HM2
              go_wp2_with fail
              with_reducible refine (HLF.out _ (Keeps.refl _ _)).mono ?_
              rintro e w8 ⟨rfl, ht8, hk8⟩
              have HHS2 : Hid (∀ W, Keeps (fun _ => False) w8 W → Calls Tryd.prog 25 #[tptr p, .int .i64 8] W (RetPost (.bool false) W)) := Lib.hid fun W hk => by
                have := thas (ht8.keep hk) 8
                rwa [decide_eq_false (show ¬ ((0 : Int) ≤ 8 ∧ (8 : Int) < ((9 : Nat) : Int) ∧ Stands L (2 * (8 : Int).toNat)) from fun q => HN16.out q.2.2)] at this
              unfold RetPost tptr at HHS2
              have HT8 := Lib.hid ht8
              have HRS8 := Lib.hid ((HRS6.out.keep HKW.out).kept hk8 hownR.out)
              have HK8 := Lib.hid ((HK6.out.trans' HKW.out).thin hk8 fun i q => (HL2.out.low i q).1)
              clear ht8 hk8 HLF
              go_wp2_with fail
              with_reducible refine (HHS2.out _ (Keeps.refl _ _)).mono ?_
              rintro e w9 ⟨rfl, hk9⟩
              have HT9 := Lib.hid (HT8.out.keep hk9)
              have HRS9 := Lib.hid (HRS8.out.keep hk9)
              have HK9 := Lib.hid (HK8.out.trans' hk9)
              clear hk9 HHS2 HT8 HRS8 HK8
              have hml : (L.map rnd).length = m := by rw [List.length_map]; exact hlen
              obtain ⟨g, cap, _, _, rfl, _, _⟩ := HRS9.out.at_ (i := 0) (l := (L.map rnd).getD 0 []) (some_getD (by omega))
              rw [hml] at HRS9
              have HSU := Lib.hid (fun W => sure10 W)
              unfold TruePost at HSU
              go_upto_region 39 with fail
              clear hml
              go_loopw [18, 29] (fun t i wy => ∃ (j : Nat), j ≤ m ∧ t = .int .i64 ((manyN L2 m : Int) - (manyN L j : Int)) ∧ i = .int .i64 (j : Int) ∧ Hid (Keeps (fun _ => False) w9 wy)) (fun _ i _ => m - (intOf i).toNat)
              case atStart => exact ⟨0, Nat.zero_le _, by rw [manyN_zero]; simp, rfl, Lib.hid (Keeps.refl _ _)⟩
              case round =>
                obtain ⟨j, hj, rfl, rfl, HKJ⟩ := hrel
                by_cases hjm : j < m
                · as_aux_lemma =>
                  obtain ⟨l, hl⟩ : ∃ l, L[j]? = some l := ⟨_, some_getD (by omega)⟩
                  have hgd : L.getD j [] = l := getD_some hl
                  have hlb : l.length ≤ 2 * 9 := HT9.out.len hl
                  have hmb := many_le HLA.out.good j
                  have hmb1 := many_le HLA.out.good (j + 1)
                  have hst := manyN_step (L := L) (n := j) (by omega)
                  rw [hgd] at hst
                  have HRD := tround (HT9.out.keep HKJ.out) (n := j) (by omega)
                  rw [hgd] at HRD
                  unfold LPost tptr at HRD
                  rw [errVal_zero] at HRD
                  have HRD2 := Lib.hid HRD
                  have hmj : (L.map rnd)[j]? = some (rnd l) := by rw [map_get, hl]; rfl
                  have HMJ := Lib.hid hmj
                  have HW1 : Hid (wrap64 ((manyN L2 m : Int) - (manyN L j : Int) - (l.length : Int)) = (manyN L2 m : Int) - (manyN L (j + 1) : Int)) := Lib.hid (by rw [hst]; unfold wrap64; omega)
                  clear hl hgd hst hmb hmb1 HRD hmj
                  go_wp2_with fail
                  with_reducible refine HRD2.out.mono ?_
                  rintro e w7 ⟨v7, rfl, hro, hk⟩
                  rw [rnd_length] at hro
                  obtain ⟨a7, c7, rfl, hrd7, _⟩ := Rd.of_own hro
                  have H7 := Lib.hid (HKJ.out.trans' hk)
                  obtain ⟨g', cap', a8, c8, he, hcell, hrd8⟩ := (HRS9.out.keep H7.out).at_ HMJ.out
                  rw [rnd_length] at hcell
                  simp only [Value.slice.injEq, Option.some.injEq, Addr.mk.injEq, and_true, true_and] at he
                  obtain ⟨rfl, hx, rfl⟩ := he
                  clear hx
                  have HIN := Lib.hid (ints10_eq a7 a8 c7 c8 l.length (rnd l) (rnd_length l).symm (by omega) w7 hrd7 hrd8)
                  unfold TruePost at HIN
                  have hjI : (j : Int) < (m : Int) := by omega
                  clear hk hro HRD2 hrd7 hrd8
                  go_wp2_with fail
                  with_reducible refine HIN.out.mono ?_
                  rintro e wa ⟨rfl, hka⟩
                  have HK2 := Lib.hid (H7.out.trans' hka)
                  clear hka hcell
                  go_wp2_with fail
                  exact ⟨⟨j + 1, by omega, by rw [HW1.out], by simp, HK2⟩, by simp [intOf]; omega⟩
                · obtain rfl : m = j := by omega
                  have hmv := HMV.out
                  have hee : (((manyN L2 m : Nat) : Int) - ((manyN L m : Nat) : Int) == 2) = true := by rw [beq_iff_eq]; omega
                  have HKF := Lib.hid (HK0.out.trans' (HK9.out.trans' HKJ.out))
                  clear hmv HMV
                  go_wp2_with fail
                  with_reducible refine (HSU.out _).mono ?_
                  rintro e wb ⟨rfl, hkb⟩
                  have HF := Lib.hid (HKF.out.trans' hkb)
                  clear hkb
                  go_wp2_with fail
                  go_ret
                  exact ⟨rfl, HF.out⟩
theorem turnBack_enter (W : World) (hE : ErrT W) (n : Int) (_ : (Lit.int .i64 n).wf = true) (a : Option Addr) (c : Nat) (ls : List Act10) (hr : Rd W a (ls.flatMap actCells)) (hl : ls.length ≤ 9223372036854775807) (y : Act10) :
    Calls Tryd.prog 5 #[.int .i64 n, .slice a ls.length c, actVal y] W (TruePost W) := turnBack_walk n a c ls y W hE hr hl
end Go.Proofs.YtjmkejkhpdhhbaaDoor
