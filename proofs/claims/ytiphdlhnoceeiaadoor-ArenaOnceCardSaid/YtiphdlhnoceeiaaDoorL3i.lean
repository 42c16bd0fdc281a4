/- Chapter 3's laws: ArenaOnce. -/
import Derived.Test.YtiphdlhnoceeiaaDoorL3h
namespace Go.Proofs.YtiphdlhnoceeiaaDoor
open Go Go.RowKit
set_option linter.unusedVariables false
set_option linter.unusedSimpArgs false
set_option maxRecDepth 100000

def OAll (w : World) (p k m m' : Nat) (vl vd : Value) (wr : World) : Prop := ∃ L own hs ds, OMem w p k L own vl hs vd ds wr ∧ OLog L hs ds ∧ hs.length ≤ m ∧ ds.length ≤ m'

/-- Behind Add: a handle, or none. -/
def OutA (w : World) (p k j : Nat) (vl vd h f : Value) (wr : World) : Prop := f = .nilIface ∧ ∃ M o hs ds ag q b, h = .pointer (some ⟨b, 0, none⟩) ∧ Blk wr b #[.int .u32 ag, .int .u32 (q : Nat)] 46 ∧ OMem w p k M o vl hs vd ds wr ∧ OLog M (hs ++ [(ag, q)]) ds ∧
  ((∀ x ∈ hs, x.2 ≠ q) ∧ ∀ x ∈ ds, x ≠ (ag, q)) ∧ hs.length ≤ j ∧ ds.length ≤ j
def OutB (w : World) (p k j : Nat) (vl vd f : Value) (wr : World) : Prop := f = .iface 92 (.int .i64 16) ∧ ∃ M o hs ds, OMem w p k M o vl hs vd ds wr ∧ OLog M hs ds ∧ hs.length ≤ j ∧ ds.length ≤ j ∧ ∀ y, y < k → tak M y = true
def Out (w : World) (p k j : Nat) (vl vd h f : Value) (wr : World) (b : Bool) : Prop := b = true ∧ OutA w p k j vl vd h f wr ∨ b = false ∧ OutB w p k j vl vd f wr

set_option maxHeartbeats 4000000 in
theorem arenaOnce_walk (n : Int) (a : Option Addr) (c : Nat) (L : List (Int × Int)) (da : Option Addr) (dc : Nat) (zs : List Int) (w : World) (hT : Tab w) (hE : ErrT w) (hr : Rd w a (plVals L)) (hl : L.length * 16 ≤ 140737488351232) (hb : ∀ q ∈ L, 0 ≤ q.1 ∧ q.1 ≤ 4294967295)
    (hz : Rd w da (i64s zs)) (hzl : zs.length ≤ 9223372036854775807) :
    Calls Tryd.prog 12 #[.int .i64 n, .slice a L.length c, .slice da zs.length dc] w (TruePost w) := by
  obtain ⟨i0, hi, hz0, hz1, hz2⟩ := info_parts infoHa
  have HT := Lib.hid hT
  have HE := Lib.hid hE
  have HR := Lib.hid hr
  have HB := Lib.hid hb
  have HZ := Lib.hid hz
  obtain ⟨hk1, hk2⟩ := kof_le n 12 (by decide)
  have hk := show wrap64 (1 + wrap64 ((IntKind.u64.wrap n).tmod 12)) = (kof n 12 : Int) from kof_val n 12 (by decide) (by decide)
  generalize kof n 12 = k at *
  clear hT hE hr hb hz
  go_enter Tryd.func12, Tryd.ntmps12
  go_wp2_with fail
  rw [hk]
  refine (givePl a c w HR.out hl).mono ?_
  rintro e w1 ⟨v, rfl, ho, hk1⟩
  obtain ⟨va, vc, rfl, hr1, hva⟩ := PlRow.rd ho
  rcases Classical.em (LoadOk (k : Int) L) with hok | hok
  · have hld := Lib.hid (lload (k : Int) k rfl va vc w w1 hk1 hr1 hva HB.out hok)
    clear ho hk1 hr1 hva hok hl
    go_wp2_with fail
    refine hld.out.mono ?_
    rintro e w2 ⟨p, own, rfl, hl⟩
    have H2 : Hid (OAll w p k 0 0 (.slice none 0 0) (.slice none 0 0) w2) := ⟨L, own, [], [], ⟨hl, HRow.nil _ _, HRow.nil _ _, fun g e => by simp [Value.ownBlock] at e, fun g e => by simp [Value.ownBlock] at e, fun g e => by simp [Value.ownBlock] at e⟩, OLog.nil L, Nat.le_refl _, Nat.le_refl _⟩
    clear hl hld hk HR HB
    go_wp2_with fail
    go_loopw [10, 11, 12] (fun l d i wr => ∃ (j : Nat), j ≤ zs.length ∧ j ≤ 80 ∧ i = .int .i64 (j : Int) ∧ Hid (OAll w p k j j l d wr)) (fun _ _ i _ => zs.length - (intOf i).toNat)
    case atStart => exact ⟨0, Nat.zero_le _, Nat.zero_le _, rfl, H2⟩
    case round =>
      as_aux_lemma =>
      obtain ⟨j, hj, hj80, rfl, HS⟩ := hrel
      clear H2
      by_cases hlt : j < zs.length ∧ j < 80
      · obtain ⟨hlt, hlt2⟩ := hlt
        have HS2 := HS
        obtain ⟨M, o, hs, ds, hm, hlog, hhl, hdl⟩ := HS.out
        have HM := Lib.hid (And.intro hm hlog)
        go_upto_region 9 with fail
        go_cut [13, 14] (fun h f wc => Hid (∃ b, Out w p k j u10 u11 h f wc b))
        case first =>
          as_aux_lemma =>
          rcases low_of (tak M) k with hfull | ⟨q, hqk, hqS, hqlo⟩
          · have ha := Lib.hid (ladd_full' hm.a hfull)
            have HFU := Lib.hid hfull
            clear hm hlog hfull
            go_wp2_with fail
            refine ha.out.mono ?_
            rintro e w5 ⟨rfl, hk5⟩
            have H5 := Lib.hid (HM.out.1.quiet (hk5.alloc (.cells #[.int .u32 0, .int .u32 0] 46)))
            clear hk5 ha
            go_wp2_with fail
            go_meet
            exact ⟨false, .inr ⟨rfl, rfl, _, _, _, _, H5.out, HM.out.2, hhl, hdl, HFU.out⟩⟩
          · obtain ⟨ag, hag⟩ : ∃ ag, nage M q = ag := ⟨_, rfl⟩
            obtain ⟨M2, hM2⟩ : ∃ M2, addL M q = M2 := ⟨_, rfl⟩
            have hnew := hlog.new hqS
            have hlog2 := hlog.add hqS (tak_le hqlo)
            rw [hag] at hnew hlog2
            rw [hM2] at hlog2
            have HL2 := Lib.hid hlog2
            have HN := Lib.hid hnew
            have ha := Lib.hid (ladd hm.a HT.out q hqk hqS hqlo ag hag M2 hM2)
            clear hm hlog hqS hqlo hag hM2 hnew hlog2
            go_wp2_with fail
            refine ha.out.mono ?_
            rintro e w5 ⟨rfl, o2, hl5, hs5⟩
            have hka : Keeps (fun _ => False) w5 (w5.alloc (.cells #[.int .u32 ag, .int .u32 (q : Int)] 46)) := (Keeps.refl _ _).alloc _
            have H5 := Lib.hid ((HM.out.1.arena hl5 hs5).quiet hka)
            have HB5 : Hid (Blk (w5.alloc (.cells #[.int .u32 ag, .int .u32 (q : Int)] 46)) w5.heap.size #[.int .u32 ag, .int .u32 (q : Int)] 46) := Blk.new w5 _ _
            clear hl5 hs5 ha hka
            go_wp2_with fail
            go_meet
            exact ⟨true, .inl ⟨rfl, rfl, _, _, _, _, _, _, _, rfl, HB5.out, H5.out, HL2.out, HN.out, hhl, hdl⟩⟩
        case rest =>
          clear HM HS HS2 hm hlog hhl hdl
          obtain ⟨b, hout⟩ := hcut.out
          have HOUT := Lib.hid hout
          clear hout hcut
          go_upto_region 10 with fail
          go_cut [61] (fun t wx => t = .bool b ∧ wx = wc)
          case first =>
            as_aux_lemma =>
            rcases HOUT.out with ⟨rfl, rfl, _⟩ | ⟨rfl, rfl, _⟩
            all_goals
              go_wp2_with fail
              go_meet
              exact ⟨rfl, rfl⟩
          case rest =>
            obtain ⟨rfl, rfl⟩ := hcut
            go_upto_if 61 with fail
            go_cut [10, 11] (fun l d wx => Hid (OAll w p k (j + 1) j l d wx))
            case first =>
              as_aux_lemma =>
              rcases HOUT.out with ⟨rfl, hA⟩ | ⟨rfl, hB⟩
              · obtain ⟨rfl, M2, o2, hs, ds, ag, q, bh, rfl, hB5, hm5, hl5, hn5, hhl, hdl⟩ := hA
                have H5 := Lib.hid hm5
                have HL2 := Lib.hid hl5
                have HN := Lib.hid hn5
                have b0 := hB5.cell (i := 0)
                have b1 := hB5.cell (i := 1)
                simp only [List.getElem?_toArray, List.getElem?_cons_zero, List.getElem?_cons_succ] at b0 b1
                clear HOUT hB5 hm5 hl5 hn5
                generalize wc = w6 at *
                obtain ⟨la, lc, hvl⟩ := ownsRow_slice H5.out.l
                obtain ⟨dla, dlc, hvd⟩ := ownsRow_slice H5.out.d
                subst hvl hvd
                go_wp2_with fail
                go_loopw [15] (fun i wr' => ∃ (x q' : Nat), x ≤ hs.length ∧ i = .int .i64 (x : Int) ∧ wr' = w6.drewN q') (fun i _ => hs.length - (intOf i).toNat)
                case atStart => exact ⟨0, 0, Nat.zero_le _, rfl, rfl⟩
                case round =>
                  as_aux_lemma =>
                  obtain ⟨x, q', hx, rfl, rfl⟩ := hrel
                  by_cases hxl : x < hs.length
                  · obtain ⟨g, gc, hge, hgl, hgm, c0, c1⟩ := H5.out.l.at_ x hxl
                    simp only [Value.slice.injEq, true_and] at hge
                    obtain ⟨rfl, rfl⟩ := hge
                    have hne := HN.out.1 hs[x] (List.getElem_mem hxl)
                    generalize hs[x] = hx1 at *
                    obtain ⟨xa, xy⟩ := hx1
                    simp only at c0 c1 hne
                    have hne2 : ((xy : Int) == (q : Int)) = false := by rw [beq_eq_false_iff_ne]; omega
                    have hne3 : decide (xy = q) = false := by simpa using hne
                    go_wp2_with fail
                    go_quiet (fail)
                    go_wp2_with fail
                    refine ⟨⟨x + 1, _, hxl, by go_num, rfl⟩, by simp [intOf]; omega⟩
                  · go_wp2_with fail
                    go_loopw [16] (fun i wr' => ∃ (x q' : Nat), x ≤ ds.length ∧ i = .int .i64 (x : Int) ∧ wr' = w6.drewN q') (fun i _ => ds.length - (intOf i).toNat)
                    case atStart => exact ⟨0, _, Nat.zero_le _, rfl, rfl⟩
                    case round =>
                      as_aux_lemma =>
                      obtain ⟨x, q', hx, rfl, rfl⟩ := hrel
                      by_cases hxl : x < ds.length
                      · obtain ⟨g, gc, hge, hgl, hgm, c0, c1⟩ := H5.out.d.at_ x hxl
                        simp only [Value.slice.injEq, true_and] at hge
                        obtain ⟨rfl, rfl⟩ := hge
                        have hne := HN.out.2 ds[x] (List.getElem_mem hxl)
                        generalize ds[x] = hx1 at *
                        obtain ⟨xa, xy⟩ := hx1
                        simp only at c0 c1
                        by_cases hxy : xy = q
                        · subst hxy
                          have hna : xa ≠ ag := fun e => hne (by rw [e])
                          have hne2 : (xa == ag) = false := by rw [beq_eq_false_iff_ne]; exact hna
                          have hne3 : decide (xa = ag) = false := by simpa using hna
                          clear hne
                          go_wp2_with fail
                          go_quiet (fail)
                          go_wp2_with fail
                          refine ⟨⟨x + 1, _, hxl, by go_num, rfl⟩, by simp [intOf]; omega⟩
                        · have hne2 : ((xy : Int) == (q : Int)) = false := by rw [beq_eq_false_iff_ne]; omega
                          have hne3 : decide (xy = q) = false := by simpa using hxy
                          clear hne
                          go_wp2_with fail
                          go_quiet (fail)
                          go_wp2_with fail
                          refine ⟨⟨x + 1, _, hxl, by go_num, rfl⟩, by simp [intOf]; omega⟩
                      · have H6 := Lib.hid (H5.out.quiet ((Keeps.refl _ _).drewN q'))
                        have hown : (w6.drewN q').ownsRow w.heap.size 46 2 (.slice la hs.length lc) hs.length (hrVals hs) := H6.out.l
                        have hws := H6.out.a.keep.size
                        go_wp2_with (first | (at_builtin; refine wpList_app1 rfl _ _ 68 rfl w.heap.size 46 i0 (.agg #[.int .u32 0, .int .u32 0]) 2 8 Tryd.underlying68 hi hz0 hz1 hz2 rfl (by decide) _ _ _ rfl hown _ 1 1 [.int .u32 ag, .int .u32 (q : Int)] 46 rfl rfl rfl ?c1 ?c2 ?c3 ?c4 ?_))
                        case c1 => simp [Value.oneCell']
                        case c2 => unfold maxLen; omega
                        case c3 => omega
                        case c4 => exact hws
                        intro v1 w7 ho hk7 hb7 _ _
                        have H7 : Hid (OMem w p k M2 o2 v1 (hs ++ [(ag, q)]) (.slice dla ds.length dlc) ds w7) := H6.out.live (by unfold HRow; rw [hrVals_append, List.length_append]; exact ho) hk7 (fun g e => (hb7 g e).imp id Nat.le_of_lt)
                        clear ho hk7 hb7 hown
                        go_wp2_with fail
                        go_meet
                        exact ⟨_, _, _, _, H7.out, HL2.out, by simp; omega, by omega⟩
              · obtain ⟨rfl, M, o, hs, ds, hm5, hl5, hhl, hdl, hfu⟩ := hB
                have H5 := Lib.hid hm5
                have HL2 := Lib.hid hl5
                have HFU := Lib.hid hfu
                clear HOUT hm5 hl5 hfu
                go_wp2_with fail
                refine (num03_err 16 _ (HE.out.keep H5.out.a.keep)).mono ?_
                rintro e w6 ⟨rfl, hk6⟩
                have H6 := Lib.hid (H5.out.quiet hk6)
                have hf := Lib.hid (lfull H6.out.a true (by rw [cnt_all _ _ HFU.out]; simp))
                clear hk6 H5
                go_wp2_with fail
                refine hf.out.mono ?_
                rintro e w7 ⟨rfl, hl7, hk7⟩
                have H7 := Lib.hid (H6.out.arena hl7 ⟨hk7, fun i e => .inl e⟩)
                clear hl7 hk7 H6 hf
                go_wp2_with fail
                go_meet
                exact ⟨_, _, _, _, H7.out, HL2.out, by omega, hdl⟩
            case rest =>
              clear HOUT
              obtain ⟨M3, o3, hs3, ds3, hm3, hlog3, hhl3, hdl3⟩ := hcut.out
              have H3 := Lib.hid hm3
              have HL3 := Lib.hid hlog3
              obtain ⟨ab, off, hae, hc⟩ := (HZ.out.keep hm3.a.keep).at_ j (by simp [i64s]; exact hlt)
              subst hae
              have hcj := hc j (by simp [i64s]; exact hlt)
              rw [show (i64s zs)[j]? = some (.int .i64 zs[j]) from by simp [i64s, hlt]] at hcj
              obtain ⟨la, lc, hvl⟩ := ownsRow_slice hm3.l
              obtain ⟨dla, dlc, hvd⟩ := ownsRow_slice hm3.d
              subst hvl hvd
              generalize zs[j] = z at *
              clear hcut hm3 hlog3 hc
              rcases Classical.em (z.tmod 3 = 0) with hz3 | hz3
              case' inl =>
                have hz3b : (z.tmod 3 == 0) = true := by rw [hz3]; rfl
                have hz3n : (z.tmod 3 != 0) = false := by rw [hz3]; rfl
                go_upto_if 108 with fail
                go_cut [10, 11] (fun l d wc => Hid (OAll w p k (j + 1) (j + 1) l d wc))
                case first =>
                  as_aux_lemma =>
                  go_wp2_with fail
                  go_meet
                  exact ⟨_, _, _, _, H3.out, HL3.out, hhl3, Nat.le_succ_of_le hdl3⟩
              case' inr =>
                have hz3b : (z.tmod 3 == 0) = false := by rw [beq_eq_false_iff_ne]; exact hz3
                have hz3n : (z.tmod 3 != 0) = true := by rw [bne_iff_ne]; exact hz3
                go_upto_if 108 with fail
                go_cut [10, 11] (fun l d wc => Hid (OAll w p k (j + 1) (j + 1) l d wc))
                case first =>
                  as_aux_lemma =>
                  by_cases hl0 : 0 < hs3.length
                  · have hmv := mod_val z hs3.length hl0 (by omega)
                    have hlu : IntKind.u64.wrap ((hs3.length : Nat) : Int) = (hs3.length : Nat) := by rw [IntKind.wrap_u64]; omega
                    have hx0 := Nat.mod_lt (unsg z) hl0
                    generalize unsg z % hs3.length = x0 at *
                    obtain ⟨g, gc, hge, hgl, hgm, c0, c1⟩ := H3.out.l.at_ x0 hx0
                    simp only [Value.slice.injEq, true_and] at hge
                    obtain ⟨rfl, rfl⟩ := hge
                    have hsx : hs3[x0]? = some hs3[x0] := List.getElem?_eq_getElem hx0
                    generalize hs3[x0] = hx1 at *
                    obtain ⟨ag, y⟩ := hx1
                    simp only at c0 c1
                    obtain ⟨hf0, hf13, hlenM, hlogd⟩ := HL3.out.drop H3.out.a.ar.le hsx
                    have hyk := lt_of_get (HL3.out.lv _ (List.mem_of_getElem? hsx))
                    have hMk := H3.out.a.ar.le
                    obtain ⟨M4, hM4⟩ : ∃ M4, dropL k M3 ag y = M4 := ⟨_, rfl⟩
                    rw [hM4] at hf13 hlenM hlogd
                    have hka : Keeps (fun _ => False) wc (wc.alloc (.cells #[.int .u32 ag, .int .u32 (y : Int)] 46)) := (Keeps.refl _ _).alloc _
                    have hB4 := Bes.new H3.out.a #[.int .u32 ag, .int .u32 (y : Int)] 46
                    have H4 := Lib.hid (And.intro (H3.out.quiet hka) hB4)
                    have hd := Lib.hid (ldrop H4.out.1.a ag y (by omega) .nilIface (by rw [hf0]; rfl) M4 hM4)
                    have HF13 := Lib.hid (And.intro hf13 hlogd)
                    simp only at hyk
                    clear hf0 hM4 hf13 hlogd hka hB4
                    go_wp2_with fail
                    refine hd.out.mono ?_
                    rintro e w5 ⟨rfl, hA5, hk5⟩
                    have H5 := Lib.hid (And.intro (H4.out.1.arena hA5 ⟨hk5, fun i e => .inl e⟩) (H4.out.2.keeps hk5))
                    have b0 := H5.out.2.1.cell (i := 0)
                    have b1 := H5.out.2.1.cell (i := 1)
                    simp only [List.getElem?_toArray, List.getElem?_cons_zero, List.getElem?_cons_succ] at b0 b1
                    have hd := Lib.hid (ldrop H5.out.1.a ag y (by omega) (.iface 92 (.int .i64 13)) (by rw [HF13.out.1]; rfl) M4 (by unfold dropL; rw [HF13.out.1]; rfl))
                    clear hA5 hk5 H4
                    go_wp2_with fail
                    refine hd.out.mono ?_
                    rintro e w6 ⟨rfl, hA6, hk6⟩
                    have H6 := Lib.hid (And.intro (H5.out.1.arena hA6 ⟨hk6, fun i e => .inl e⟩) (H5.out.2.keeps hk6))
                    clear hA6 hk6 H5 b0 b1 hd
                    go_wp2_with fail
                    refine (num03_err 13 _ (HE.out.keep H6.out.1.a.keep)).mono ?_
                    rintro e w7 ⟨rfl, hk7⟩
                    have H7 := Lib.hid (And.intro (H6.out.1.quiet hk7) (H6.out.2.quiet hk7))
                    have b0 := H7.out.2.1.cell (i := 0)
                    have b1 := H7.out.2.1.cell (i := 1)
                    simp only [List.getElem?_toArray, List.getElem?_cons_zero, List.getElem?_cons_succ] at b0 b1
                    have hown : w7.ownsRow w.heap.size 46 2 (.slice dla ds3.length dlc) ds3.length (hrVals ds3) := H7.out.1.d
                    have hws := H7.out.1.a.keep.size
                    clear hk7 H6
                    go_wp2_with (first | (at_builtin; refine wpList_app1 rfl _ _ 68 rfl w.heap.size 46 i0 (.agg #[.int .u32 0, .int .u32 0]) 2 8 Tryd.underlying68 hi hz0 hz1 hz2 rfl (by decide) _ _ _ rfl hown _ 1 1 [.int .u32 ag, .int .u32 (y : Int)] 46 rfl rfl rfl ?c1 ?c2 ?c3 ?c4 ?_))
                    case c1 => simp [Value.oneCell']
                    case c2 => unfold maxLen; omega
                    case c3 => omega
                    case c4 => exact hws
                    intro v1 w8 ho hk8 hb8 _ _
                    have H8 : Hid (OMem w p k M4 o3 (.slice (some ⟨g, 0, none⟩) hs3.length lc) hs3 v1 (ds3 ++ [(ag, y)]) w8) := H7.out.1.dead (by unfold HRow; rw [hrVals_append, List.length_append]; exact ho) hk8 (fun g e => (hb8 g e).imp id Nat.le_of_lt)
                    clear ho hk8 hb8 hown H7 b0 b1
                    go_wp2_with fail
                    have hn1 := Lib.hid (H8.out.l.newsTake x0 (Nat.le_of_lt hx0))
                    have hn2 : Hid (∀ (W : World) (AD : Addr), Keeps (fun _ => False) w8 W → (AD = ⟨g, (x0 + 1) * 2, none⟩ ∨ hs3.length ≤ x0 + 1) → ∀ j u, (hrVals (hs3.drop (x0 + 1)))[j]? = some u → W.cell? (AD.add j) = some u) := fun W AD hk hor j u hu => by
                      rcases hor with rfl | h
                      · exact H8.out.l.newsDrop (x0 + 1) hx0 hk j u hu
                      · rw [List.drop_of_length_le h] at hu
                        simp [hrVals] at hu
                    have HL12 := Lib.hid (And.intro (hrTake_length hs3 x0 (Nat.le_of_lt hx0)) (hrDrop_length hs3 (x0 + 1)))
                    have HMX : Hid (0 + x0 ≤ maxLen ∧ (0 + x0) * 8 ≤ 140737488355328 ∧ 0 + x0 + (hs3.length - (x0 + 1)) ≤ maxLen ∧ (0 + x0 + (hs3.length - (x0 + 1))) * 8 ≤ 140737488355328) := by
                      have h1 : hs3.length ≤ 81 := by omega
                      unfold maxLen
                      exact ⟨by omega, by omega, by omega, by omega⟩
                    have hcc : ((lc = x0 + 1) = False ∧ True) ∨ ((lc = x0 + 1) = True ∧ hs3.length ≤ x0 + 1) := by
                      by_cases hcap : lc = x0 + 1
                      · exact .inr ⟨eq_true hcap, hcap ▸ hgl⟩
                      · exact .inl ⟨eq_false hcap, trivial⟩
                    have HLN : Hid ((hs3.take x0 ++ hs3.drop (x0 + 1)).length ≤ j + 1) := by
                      show (hs3.take x0 ++ hs3.drop (x0 + 1)).length ≤ j + 1
                      rw [List.length_append, List.length_take, List.length_drop, Nat.min_eq_left (Nat.le_of_lt hx0)]
                      omega
                    have HCC := Lib.hid hcc
                    clear hcc
                    have hb1 : (0 : Int) ≤ (x0 : Int) := by omega
                    have hb2 : (x0 : Int) ≤ (lc : Int) := by omega
                    have hb3 : (x0 : Int) + 1 ≤ (hs3.length : Int) := by omega
                    have hb4 : (0 : Int) ≤ (x0 : Int) + 1 := by omega
                    have hb5 : (hs3.length : Int) ≤ (lc : Int) := by omega
                    have hb6 : IntKind.i64.wrap ((x0 : Int) + 1) = (x0 : Int) + 1 := by rw [IntKind.wrap_i64]; omega
                    have hb7 : wrap64 ((x0 : Int) + 1) = (x0 : Int) + 1 := by unfold wrap64; omega
                    rcases HCC.out with ⟨hcap1, HCL⟩ | ⟨hcap1, hcl⟩
                    case' inr => have HCL := Lib.hid hcl; clear hcl
                    all_goals
                      go_region_held3 (fun _ => True) (trivial)
                        (first
                          | (refine step_app rfl _ _ 68 rfl w8.heap.size 46 i0 (.agg #[.int .u32 0, .int .u32 0]) 2 8 Tryd.underlying68 hi hz0 hz1 hz2 rfl (by decide) (.slice none 0 0) 0 [] rfl (World.ownsRow_nil _ _ _ _) ⟨g, 0, none⟩ x0 lc (hrVals (hs3.take x0)) rfl HL12.out.1 hn1.out (hrVals_one _) HMX.out.1 HMX.out.2.1 (Nat.le_refl _) ?_; intro vx wx hox hkx hbx)
                          | (refine step_app rfl _ _ 68 rfl w8.heap.size 46 i0 (.agg #[.int .u32 0, .int .u32 0]) 2 8 Tryd.underlying68 hi hz0 hz1 hz2 rfl (by decide) _ _ _ rfl hox _ _ _ (hrVals (hs3.drop (x0 + 1))) rfl HL12.out.2 (hn2.out _ _ (((Keeps.refl _ w8).drew).trans' (hkx.mono fun _ _ e => by simp [Value.ownBlock] at e)) (by first | exact .inl rfl | exact .inr HCL.out)) (hrVals_one _) HMX.out.2.2.1 HMX.out.2.2.2 hkx.size ?_; intro vy wy hoy hky hby)
                          | fail)
                      have H9 := Lib.hid (H8.out.rest (hs' := hs3.take x0 ++ hs3.drop (x0 + 1)) hoy (by rw [List.length_append, List.length_take, List.length_drop, Nat.min_eq_left (Nat.le_of_lt hx0), Nat.zero_add]) (by rw [hrVals_append, List.nil_append])
                        ((((Keeps.refl _ w8).drew).trans' (hkx.mono fun _ _ e => by simp [Value.ownBlock] at e)).trans hky fun i hi e => by have := (hox.lt i e).1; exact absurd hi (Nat.not_lt.2 this)))
                      clear hox hkx hbx hoy hky hby hcap1
                      go_wp2_with fail
                      go_meet
                      exact ⟨_, _, _, _, H9.out, HF13.out.2, HLN.out, by rw [List.length_append]; exact Nat.succ_le_succ hdl3⟩
                  · go_wp2_with fail
                    go_meet
                    exact ⟨_, _, _, _, H3.out, HL3.out, hhl3, Nat.le_succ_of_le hdl3⟩
              all_goals
                obtain ⟨M5, o5, hs5, ds5, hm5, hlog5, hhl5, hdl5⟩ := hcut.out
                have H5 := Lib.hid hm5
                have HL5 := Lib.hid hlog5
                have hMk5 := hm5.a.ar.le
                have hkb5 := hm5.a.ar.bound
                obtain ⟨la5, lc5, hvl⟩ := ownsRow_slice hm5.l
                obtain ⟨dla5, dlc5, hvd⟩ := ownsRow_slice hm5.d
                subst hvl hvd
                clear hcut hm5 hlog5
                go_wp2_with fail
                go_loopw [20] (fun i wr' => ∃ (x : Nat), x ≤ hs5.length ∧ i = .int .i64 (x : Int) ∧ Hid (Keeps (fun _ => False) wc wr')) (fun i _ => hs5.length - (intOf i).toNat)
                case atStart => exact ⟨0, Nat.zero_le _, rfl, Keeps.refl _ _⟩
                case round =>
                  as_aux_lemma =>
                  obtain ⟨x, hx, rfl, hkr⟩ := hrel
                  have H6 := Lib.hid (H5.out.quiet hkr.out)
                  by_cases hxl : x < hs5.length
                  · obtain ⟨g, gc, hge, hgl, hgm, c0, c1⟩ := H6.out.l.at_ x hxl
                    simp only [Value.slice.injEq, true_and] at hge
                    obtain ⟨rfl, rfl⟩ := hge
                    have hlv := HL5.out.lv hs5[x] (List.getElem_mem hxl)
                    generalize hs5[x] = hx1 at *
                    obtain ⟨ag, y⟩ := hx1
                    simp only at c0 c1 hlv
                    have hyM := lt_of_get hlv
                    have hf := Lib.hid (lfind H6.out.a ag y (Nat.le_trans (Nat.le_of_lt (Nat.lt_of_lt_of_le hyM hMk5)) (by omega)) 0 (find_lv (q := (ag, y)) hMk5 hlv) (y : Int) (by simp) .nilIface rfl)
                    clear hgl hgm hlv
                    go_wp2_with fail
                    refine hf.out.mono ?_
                    rintro e w7 ⟨rfl, hk7⟩
                    have c1 := hk7.cellF c1
                    have H7 := Lib.hid (hkr.out.trans' hk7)
                    clear hk7 hf
                    go_wp2_with fail
                    refine ⟨⟨x + 1, hxl, by go_num, H7⟩, by simp [intOf]; omega⟩
                  · go_wp2_with fail
                    go_loopw [23] (fun i wr' => ∃ (x : Nat), x ≤ ds5.length ∧ i = .int .i64 (x : Int) ∧ Hid (Keeps (fun _ => False) wc wr')) (fun i _ => ds5.length - (intOf i).toNat)
                    case atStart => exact ⟨0, Nat.zero_le _, rfl, hkr⟩
                    case round =>
                      as_aux_lemma =>
                      obtain ⟨x, hx, rfl, hkr⟩ := hrel
                      have H6 := Lib.hid (H5.out.quiet hkr.out)
                      by_cases hxl : x < ds5.length
                      · obtain ⟨g, gc, hge, hgl, hgm, c0, c1⟩ := H6.out.d.at_ x hxl
                        simp only [Value.slice.injEq, true_and] at hge
                        obtain ⟨rfl, rfl⟩ := hge
                        have hdd := HL5.out.dd ds5[x] (List.getElem_mem hxl)
                        generalize ds5[x] = hx1 at *
                        obtain ⟨ag, y⟩ := hx1
                        simp only at c0 c1 hdd
                        have hyM : y < M5.length := by obtain ⟨a, s, h1, _⟩ := hdd; exact lt_of_get h1
                        have hf := Lib.hid (lfind H6.out.a ag y (Nat.le_trans (Nat.le_of_lt (Nat.lt_of_lt_of_le hyM hMk5)) (by omega)) 13 (find_dd (q := (ag, y)) hMk5 hdd) 0 (by simp) (.iface 92 (.int .i64 13)) rfl)
                        clear hgl hgm hdd
                        go_wp2_with fail
                        refine hf.out.mono ?_
                        rintro e w7 ⟨rfl, hk7⟩
                        have H7 := Lib.hid (hkr.out.trans' hk7)
                        clear hk7 hf
                        go_wp2_with fail
                        refine (num03_err 13 _ (HE.out.keep (H5.out.quiet H7.out).a.keep)).mono ?_
                        rintro e w8 ⟨rfl, hk8⟩
                        have H8 : Hid (Keeps (fun _ => False) wc w8) := H7.out.trans' hk8
                        clear hk8 H7
                        go_wp2_with fail
                        refine ⟨⟨x + 1, hxl, by go_num, H8⟩, by simp [intOf]; omega⟩
                      · go_wp2_with fail
                        refine ⟨⟨j + 1, hlt, by omega, by go_num, M5, o5, hs5, ds5, H6.out, HL5.out, hhl5, hdl5⟩, by simp [intOf]; omega⟩
      · have hend : zs.length ≤ j ∨ (j < zs.length ∧ 80 ≤ j) := by omega
        obtain ⟨M, o, hs, ds, hm, _⟩ := HS.out
        have hsu := Lib.hid (sure03 wr (HT.out.keep hm.a.keep))
        have HK9 := Lib.hid hm.a.keep
        clear hlt hm
        rcases hend with hend | ⟨hend1, hend⟩
        all_goals
          go_wp2_with fail
          refine hsu.out.mono ?_
          rintro e w7 ⟨rfl, hk⟩
          have H7 := Lib.hid (HK9.out.trans' hk)
          clear hk
          go_wp2_with fail
          go_ret
          exact ⟨rfl, H7.out⟩
  · have hld := Lib.hid (aload_bad (k : Int) va vc w1 hr1 hok)
    have HK1 := Lib.hid hk1
    clear ho hk1 hr1 hva hok
    go_wp2_with fail
    refine hld.out.mono ?_
    rintro e w2 ⟨rfl, hk⟩
    have HK2 := Lib.hid (HK1.out.trans' hk)
    have hsu := Lib.hid (sure03 w2 (HT.out.keep HK2.out))
    clear hk hld
    go_wp2_with fail
    refine hsu.out.mono ?_
    rintro e w5 ⟨rfl, hk⟩
    have HKE := Lib.hid (HK2.out.trans' hk)
    clear hk
    go_wp2_with fail
    go_ret
    exact ⟨rfl, HKE.out⟩
theorem arenaOnce_enter (W : World) (hT : Tab W) (hE : ErrT W) (n : Int) (_ : (Lit.int .i64 n).wf = true) (a : Option Addr) (c : Nat) (ls : List (Int × Int)) (hr : Rd W a (ls.flatMap fun p => [Value.int .u32 p.1, .int .i64 p.2])) (_ : ls.length ≤ 9223372036854775807)
    (hw : ∀ p ∈ ls, (Lit.int .u32 p.1).wf = true ∧ (Lit.int .i64 p.2).wf = true) (hs : ls.length * 16 ≤ 140737488351232)
    (da : Option Addr) (dc : Nat) (zs : List Int) (hz : Rd W da (zs.map fun z => Value.int .i64 z)) (hzl : zs.length ≤ 9223372036854775807) (_ : ∀ z ∈ zs, (Lit.int .i64 z).wf = true) :
    Calls Tryd.prog 12 #[.int .i64 n, .slice a ls.length c, .slice da zs.length dc] W (TruePost W) := arenaOnce_walk n a c ls da dc zs W hT hE hr hs (wf32 hw) hz hzl
end Go.Proofs.YtiphdlhnoceeiaaDoor
