/- Chapter 3's laws: ArenaBack. -/
import Derived.Test.YtiphdlhnoceeiaaDoorL3e
namespace Go.Proofs.YtiphdlhnoceeiaaDoor
open Go Go.RowKit
set_option linter.unusedVariables false
set_option linter.unusedSimpArgs false
set_option maxRecDepth 100000

theorem low_of (S : Nat → Bool) (n : Nat) : (∀ y, y < n → S y = true) ∨ ∃ z, z < n ∧ S z = false ∧ ∀ y, y < z → S y = true := by
  induction n with
  | zero => exact .inl fun y hy => absurd hy (Nat.not_lt_zero _)
  | succ n ih =>
    rcases ih with h | ⟨z, h1, h2, h3⟩
    · by_cases e : S n = true
      · refine .inl fun y hy => ?_
        by_cases e2 : y = n
        · rw [e2]; exact e
        · exact h y (by omega)
      · exact .inr ⟨n, Nat.lt_succ_self _, by simpa using e, h⟩
    · exact .inr ⟨z, by omega, h2, h3⟩
theorem ALoop.beside {w wr w2 : World} {p n : Nat} {L : List (Int × Int)} {own o o' : Nat → Prop} (h : ALoop w p n L own wr) (hs : Step wr o w2 o') (hd : ∀ k, own k → ¬ o k) (hn : ∀ k, o k → w.heap.size ≤ k) :
    ALoop w p n L own w2 ∧ ∀ k, own k → ¬ o' k :=
  ⟨⟨h.ar.kept hs.1 hd, h.new, h.keep.thin hs.1 hn⟩, fun k e e2 => by
    rcases hs.2 k e2 with e3 | e3
    · exact hd k e e3
    · have := h.ar.lt k e; omega⟩
theorem Bes.quiet' {wr w2 : World} {own o : Nat → Prop} {b : Nat} {cs : Array Value} {t : TypeId} (h : Bes own wr b cs t) (hs : Keeps o wr w2) (hn : ¬ o b) : Bes own w2 b cs t := ⟨h.1.kept hs hn, h.2⟩
/-- Two arenas of the same places, apart. -/
structure Two (w : World) (p p' n : Nat) (L : List (Int × Int)) (own own' : Nat → Prop) (wr : World) : Prop where
  a : ALoop w p n L own wr
  b : ALoop w p' n L own' wr
  d : ∀ k, own k → ¬ own' k
theorem Two.quiet {w wr w2 : World} {p p' n : Nat} {L : List (Int × Int)} {own own' : Nat → Prop} (h : Two w p p' n L own own' wr) (hk : Keeps (fun _ => False) wr w2) : Two w p p' n L own own' w2 := ⟨h.a.quiet hk, h.b.quiet hk, h.d⟩

theorem ladd_full' {w wr : World} {p n : Nat} {L : List (Int × Int)} {own : Nat → Prop} (h : ALoop w p n L own wr) (hf : ∀ y, y < n → tak L y = true) :
    Calls Tryd.prog 28 #[.pointer (some ⟨p, 0, none⟩)] wr (NilPost (.tuple #[.agg #[.int .u32 0, .int .u32 0], .iface 92 (.int .i64 16)]) wr) := aadd_full h.ar (cnt_all _ _ hf)
theorem find_live {n : Nat} {L : List (Int × Int)} {y : Nat} {ag : Int} (hn : L.length ≤ n) (hy : y < L.length) (hq : L[y] = (ag, 1)) : findErr n L ag y = 0 := by
  unfold findErr
  rw [if_neg (by omega), List.getElem?_eq_getElem hy, hq, if_pos rfl]
set_option maxHeartbeats 2000000 in
theorem ints03 (a1 a2 : Option Addr) (c1 c2 n : Nat) (l : List Nat) (hn : n = l.length) (hm : n ≤ 9000000000000000000) (w : World) (h1 : Rd w a1 (ints l)) (h2 : Rd w a2 (ints l)) :
    Calls Tryd.prog 55 #[.slice a1 n c1, .slice a2 n c2] w (TruePost w) := by
  have H1 := Lib.hid h1
  have H2 := Lib.hid h2
  have HN := Lib.hid hn
  clear h1 h2 hn
  go_enter Tryd.func55, Tryd.ntmps55
  go_wp2_with fail
  go_loopw [5] (fun i wr => ∃ (k q : Nat), k ≤ n ∧ i = .int .i64 (k : Int) ∧ wr = w.drewN q) (fun i _ => n - (intOf i).toNat)
  case atStart => exact ⟨0, 0, Nat.zero_le _, rfl, rfl⟩
  case round =>
    obtain ⟨k, q, hk, rfl, rfl⟩ := hrel
    by_cases hlt : k < n
    · obtain ⟨b1, o1, rfl, hc1⟩ := H1.out.at_ k (by rw [ints_length, ← HN.out]; exact hlt)
      obtain ⟨b2, o2, rfl, hc2⟩ := H2.out.at_ k (by rw [ints_length, ← HN.out]; exact hlt)
      have hj1 := hc1 k (by rw [ints_length, ← HN.out]; exact hlt)
      have hj2 := hc2 k (by rw [ints_length, ← HN.out]; exact hlt)
      obtain ⟨z, hz⟩ : ∃ z, l[k]? = some z := ⟨_, List.getElem?_eq_getElem (by rw [← HN.out]; exact hlt)⟩
      rw [show (ints l)[k]? = some (.int .i64 (z : Int)) from by simp [ints, hz]] at hj1 hj2
      clear hc1 hc2 hz
      go_wp2_with fail
      go_quiet (fail)
      go_wp2_with fail
      refine ⟨⟨k + 1, _, hlt, by go_num, rfl⟩, by simp [intOf]; omega⟩
    · go_wp2_with fail
      go_ret
      exact ⟨rfl, (Keeps.refl _ _).drewN _⟩

set_option maxHeartbeats 4000000 in
theorem arenaBack_walk (n : Int) (a : Option Addr) (c : Nat) (L : List (Int × Int)) (da : Option Addr) (dc : Nat) (zs : List Int) (w : World) (hT : Tab w) (hE : ErrT w) (hr : Rd w a (plVals L)) (hl : L.length * 16 ≤ 140737488351232) (hb : ∀ q ∈ L, 0 ≤ q.1 ∧ q.1 ≤ 4294967295)
    (hz : Rd w da (i64s zs)) (hzl : zs.length ≤ 9223372036854775807) :
    Calls Tryd.prog 16 #[.int .i64 n, .slice a L.length c, .slice da zs.length dc] w (TruePost w) := by
  have HT := Lib.hid hT
  have HE := Lib.hid hE
  have HR := Lib.hid hr
  have HB := Lib.hid hb
  have HZ := Lib.hid hz
  obtain ⟨hk1, hk2⟩ := kof_le n 12 (by decide)
  have hk := show wrap64 (1 + wrap64 ((IntKind.u64.wrap n).tmod 12)) = (kof n 12 : Int) from kof_val n 12 (by decide) (by decide)
  generalize kof n 12 = k at *
  clear hT hE hr hb hz
  go_enter Tryd.func16, Tryd.ntmps16
  go_wp2_with fail
  refine (givePl a c w HR.out hl).mono ?_
  rintro e w1 ⟨v, rfl, ho, hk1⟩
  obtain ⟨va, vc, rfl, hr1, hva⟩ := PlRow.rd ho
  rcases Classical.em (LoadOk (k : Int) L) with hok | hok
  · have hld := Lib.hid (lload (k : Int) k rfl va vc w w1 hk1 hr1 hva HB.out hok)
    have HOK := Lib.hid hok
    have hle := hok.le
    clear ho hk1 hr1 hva hok hl
    go_wp2_with fail
    refine hld.out.mono ?_
    rintro e w2 ⟨p, own, rfl, hl⟩
    have H2 := Lib.hid hl
    have hpl := Lib.hid (aplaces hl.ar)
    clear hl hld
    go_wp2_with fail
    refine hpl.out.mono ?_
    rintro e w3 ⟨v3, rfl, ho, hk3⟩
    obtain ⟨v3a, v3c, rfl, hr3, hv3⟩ := PlRow.rd ho
    have hld := Lib.hid (aload (k : Int) k rfl v3a v3c w3 hr3 hv3 HB.out HOK.out)
    have H3 := Lib.hid (H2.out.quiet hk3)
    clear ho hk3 hr3 hv3 H2 hpl
    go_wp2_with fail
    refine hld.out.mono ?_
    rintro e w4 ⟨p', own', rfl, ha4, hn4, hk4⟩
    have H4 : Hid (Two w p p' k L own own' w4) := ⟨H3.out.quiet hk4, ⟨ha4, fun i e => Nat.le_trans H3.out.keep.size (hn4 i e), H3.out.keep.trans' hk4⟩, fun i e e2 => by
      have := H3.out.ar.lt i e
      have := hn4 i e2
      omega⟩
    clear ha4 hn4 hk4 H3 hld
    go_wp2_with fail
    have HKk := Lib.hid hk
    clear hk hle
    go_loopw [12] (fun i wr => ∃ (j : Nat) (L : List (Int × Int)) (own own' : Nat → Prop), j ≤ zs.length ∧ j ≤ 40 ∧ i = .int .i64 (j : Int) ∧ Hid (Two w p p' k L own own' wr)) (fun i _ => zs.length - (intOf i).toNat)
    case atStart => exact ⟨0, L, own, own', Nat.zero_le _, Nat.zero_le _, rfl, H4⟩
    case round =>
      obtain ⟨j, M, o, o', hj, hj40, rfl, HS⟩ := hrel
      clear H4
      by_cases hlt : j < zs.length ∧ j < 40
      · obtain ⟨hlt, hlt2⟩ := hlt
        obtain ⟨ab, off, rfl, hc⟩ := (HZ.out.keep HS.out.a.keep).at_ j (by simp [i64s]; exact hlt)
        have hcj := hc j (by simp [i64s]; exact hlt)
        rw [show (i64s zs)[j]? = some (.int .i64 zs[j]) from by simp [i64s, hlt]] at hcj
        clear hc
        generalize zs[j] = z at *
        by_cases hz2 : z.tmod 2 = 0
        · have hz2b : (z.tmod 2 == 0) = true := by rw [hz2]; rfl
          rcases low_of (tak M) k with hfull | ⟨q, hqk, hqS, hqlo⟩
          · have hfa := Lib.hid (ladd_full' HS.out.a hfull)
            have hfb := Lib.hid (fun W (hk : Keeps (fun _ => False) wr W) => ladd_full' (HS.out.b.quiet hk) hfull)
            clear hfull
            go_wp2_with fail
            refine hfa.out.mono ?_
            rintro e w5 ⟨rfl, hk5⟩
            have hk6 := hk5.alloc (.cells #[.int .u32 0, .int .u32 0] 46)
            have hB6 : Blk (w5.alloc (.cells #[.int .u32 0, .int .u32 0] 46)) w5.heap.size #[.int .u32 0, .int .u32 0] 46 := Blk.new w5 _ _
            have H6 := Lib.hid (And.intro hk6 hB6)
            have hfb := Lib.hid (hfb.out _ hk6)
            clear hk5 hk6 hB6 hfa
            go_wp2_with fail
            refine hfb.out.mono ?_
            rintro e w7 ⟨rfl, hk7⟩
            have hB7 := (H6.out.2.quiet hk7).alloc (.cells #[.int .u32 0, .int .u32 0] 46)
            have H7 := Lib.hid ((H6.out.1.trans' hk7).alloc (.cells #[.int .u32 0, .int .u32 0] 46))
            have b0 := hB7.cell (i := 0)
            have b1 := hB7.cell (i := 1)
            simp only [List.getElem?_toArray, List.getElem?_cons_zero, List.getElem?_cons_succ] at b0 b1
            clear hk7 hB7 hfb H6
            go_wp2_with fail
            refine (num03_err 16 _ (HE.out.keep (HS.out.a.keep.trans' H7.out))).mono ?_
            rintro e w8 ⟨rfl, hk8⟩
            have H8 := Lib.hid (H7.out.trans' hk8)
            clear hk8 H7 b0 b1
            go_wp2_with fail
            refine (num03_err 16 _ (HE.out.keep (HS.out.a.keep.trans' H8.out))).mono ?_
            rintro e w9 ⟨rfl, hk9⟩
            have H9 := Lib.hid (HS.out.quiet (H8.out.trans' hk9))
            clear hk9 H8
            go_wp2_with fail
            refine ⟨⟨j + 1, M, o, o', hlt, by omega, by go_num, H9⟩, by simp [intOf]; omega⟩
          · obtain ⟨ag, hag⟩ : ∃ ag, nage M q = ag := ⟨_, rfl⟩
            obtain ⟨M2, hM2⟩ : ∃ M2, addL M q = M2 := ⟨_, rfl⟩
            have HQ := Lib.hid (And.intro hqS (And.intro hqlo (And.intro hag hM2)))
            have ha := Lib.hid (ladd HS.out.a HT.out q hqk hqS hqlo ag hag M2 hM2)
            clear hqS hqlo hag hM2
            go_wp2_with fail
            refine ha.out.mono ?_
            rintro e w5 ⟨rfl, o1, hA5, hs5⟩
            obtain ⟨hB5, hd5⟩ := HS.out.b.beside hs5 (fun i e e2 => HS.out.d i e2 e) HS.out.a.new
            have hka : Keeps (fun _ => False) w5 (w5.alloc (.cells #[.int .u32 ag, .int .u32 (q : Int)] 46)) := (Keeps.refl _ _).alloc _
            have hb6 : Blk (w5.alloc (.cells #[.int .u32 ag, .int .u32 (q : Int)] 46)) w5.heap.size #[.int .u32 ag, .int .u32 (q : Int)] 46 := Blk.new w5 _ _
            have H6 := Lib.hid (And.intro (hA5.quiet hka) (And.intro (hB5.quiet hka) (And.intro hd5 (And.intro hb6 (fun e => Nat.lt_irrefl _ (hB5.ar.lt _ e) : ¬ o' w5.heap.size)))))
            have hb := Lib.hid (ladd H6.out.2.1 HT.out q hqk HQ.out.1 HQ.out.2.1 ag HQ.out.2.2.1 M2 HQ.out.2.2.2)
            clear hA5 hB5 hs5 hd5 hka hb6 ha
            go_wp2_with fail
            refine hb.out.mono ?_
            rintro e w7 ⟨rfl, o2, hB7, hs7⟩
            obtain ⟨hA7, hd7⟩ := H6.out.1.beside hs7 (fun i e e2 => H6.out.2.2.1 i e2 e) H6.out.2.1.new
            have hka : Keeps (fun _ => False) w7 (w7.alloc (.cells #[.int .u32 ag, .int .u32 (q : Int)] 46)) := (Keeps.refl _ _).alloc _
            have hb8 := (H6.out.2.2.2.1.kept hs7.1 H6.out.2.2.2.2).quiet hka
            have b0 := hb8.cell (i := 0)
            have b1 := hb8.cell (i := 1)
            simp only [List.getElem?_toArray, List.getElem?_cons_zero, List.getElem?_cons_succ] at b0 b1
            have H7 : Hid (Two w p p' k M2 o1 o2 (w7.alloc (.cells #[.int .u32 ag, .int .u32 (q : Int)] 46))) := ⟨hA7.quiet hka, hB7.quiet hka, hd7⟩
            clear hA7 hB7 hs7 hd7 hka hb8 hb H6
            go_wp2_with fail
            refine (num03_nil _).mono ?_
            rintro e w8 ⟨rfl, hk8⟩
            have H8 := Lib.hid (H7.out.quiet hk8)
            clear hk8 H7 b0 b1
            go_wp2_with fail
            refine (num03_nil _).mono ?_
            rintro e w9 ⟨rfl, hk9⟩
            have H9 := Lib.hid (H8.out.quiet hk9)
            clear hk9 H8
            go_wp2_with fail
            refine ⟨⟨j + 1, M2, o1, o2, hlt, by omega, by go_num, H9⟩, by simp [intOf]; omega⟩
        · have hz2b : (z.tmod 2 == 0) = false := by rw [beq_eq_false_iff_ne]; exact hz2
          have hal := Lib.hid (lall HS.out.a)
          go_wp2_with fail
          refine hal.out.mono ?_
          rintro e w5 ⟨la, lc, rfl, hlr, hlk⟩
          have H5 := Lib.hid (And.intro (HS.out.quiet hlk) hlr)
          have hcj := hlk.cellF hcj
          have hll := liv_le M
          have hMk := HS.out.a.ar.le
          clear hlk hlr hal
          by_cases hl0 : liv M = 0
          · rw [hl0]
            go_wp2_with fail
            refine ⟨⟨j + 1, M, o, o', hlt, by omega, by go_num, H5.out.1⟩, by simp [intOf]; omega⟩
          · have hmv := mod_val z (liv M) (by omega) (by omega)
            have hlu : IntKind.u64.wrap ((liv M : Nat) : Int) = (liv M : Nat) := by rw [IntKind.wrap_u64]; omega
            have hyl := Nat.mod_lt (unsg z) (show 0 < liv M by omega)
            generalize unsg z % liv M = y0 at *
            obtain ⟨y, ag, hy1, hy, hyq⟩ := live_at M y0 hyl
            obtain ⟨lb, loff, rfl, hc⟩ := H5.out.2.at_ y0 (List.getElem?_eq_some_iff.1 hy1).1
            have hcy := hc y0 (List.getElem?_eq_some_iff.1 hy1).1
            rw [hy1] at hcy
            have HF := Lib.hid (find_live hMk hy hyq)
            have hh := Lib.hid (lhandle H5.out.1.a (y : Int) y rfl hy ag hyq)
            have hlb : (((liv M : Nat) : Int) == 0) = false := by rw [beq_eq_false_iff_ne]; omega
            clear hc hy1
            go_wp2_with fail
            refine hh.out.mono ?_
            rintro e w6 ⟨rfl, hk6⟩
            have hka := hk6.alloc (.cells #[.int .u32 ag, .int .u32 (y : Int)] 46)
            have hT7 := H5.out.1.quiet hka
            have hB7 : Blk (w6.alloc (.cells #[.int .u32 ag, .int .u32 (y : Int)] 46)) w6.heap.size #[.int .u32 ag, .int .u32 (y : Int)] 46 := Blk.new w6 _ _
            have hno : ¬ o w6.heap.size := fun e => by have := (H5.out.1.quiet hk6).a.ar.lt _ e; omega
            obtain ⟨M2, hM2⟩ : ∃ M2, dropL k M ag y = M2 := ⟨_, rfl⟩
            have HM2 := Lib.hid hM2
            have hd := Lib.hid (ldrop hT7.a ag y (by omega) .nilIface (by rw [HF.out]; rfl) M2 hM2)
            have H7 := Lib.hid (And.intro hT7 (And.intro hB7 hno))
            clear hk6 hka hT7 hB7 hno hM2 hh
            go_wp2_with fail
            refine hd.out.mono ?_
            rintro e w8 ⟨rfl, hA8, hk8⟩
            obtain ⟨hB8, hd8⟩ := H7.out.1.b.beside (o' := o) ⟨hk8, fun i e => .inl e⟩ (fun i e e2 => H7.out.1.d i e2 e) H7.out.1.a.new
            have hb8 := H7.out.2.1.kept hk8 H7.out.2.2
            have b0 := hb8.cell (i := 0)
            have b1 := hb8.cell (i := 1)
            simp only [List.getElem?_toArray, List.getElem?_cons_zero, List.getElem?_cons_succ] at b0 b1
            have hd := Lib.hid (ldrop hB8 ag y (by omega) .nilIface (by rw [HF.out]; rfl) M2 HM2.out)
            have H8 := Lib.hid (And.intro hA8 (And.intro hB8 hd8))
            clear hA8 hB8 hd8 hb8 hk8
            go_wp2_with fail
            refine hd.out.mono ?_
            rintro e w9 ⟨rfl, hB9, hk9⟩
            obtain ⟨hA9, hd9⟩ := H8.out.1.beside (o' := o') ⟨hk9, fun i e => .inl e⟩ (fun i e e2 => H8.out.2.2 i e2 e) H8.out.2.1.new
            have H9 : Hid (Two w p p' k M2 o o' w9) := ⟨hA9, hB9, hd9⟩
            clear hA9 hB9 hd9 hk9 b0 b1
            go_wp2_with fail
            refine ⟨⟨j + 1, M2, o, o', hlt, by omega, by go_num, H9⟩, by simp [intOf]; omega⟩
      · have hal := Lib.hid (lall HS.out.a)
        have hbl := Lib.hid (fun (W : World) (hk : Keeps (fun _ => False) wr W) => lall (HS.out.b.quiet hk))
        have hlen : Hid (liv M = (allOf (lvs M) M.length).length) := by
          show liv M = _
          rw [allOf_len, cnt_lvs]
        have hll := liv_le M
        have hMk := HS.out.a.ar.le
        have hend : zs.length ≤ j ∨ (j < zs.length ∧ 40 ≤ j) := by omega
        clear hlt
        rcases hend with hend | ⟨hend1, hend⟩
        all_goals
          go_wp2_with fail
          refine hal.out.mono ?_
          rintro e w5 ⟨la, lc, rfl, hlr, hlk⟩
          have H5 := Lib.hid (And.intro hlk hlr)
          have hbl := Lib.hid (hbl.out w5 hlk)
          clear hlk hlr
          go_wp2_with fail
          refine hbl.out.mono ?_
          rintro e w6 ⟨lb, ld, rfl, hlr, hlk⟩
          have hin := Lib.hid (ints03 la lb lc ld (liv M) _ hlen.out (by omega) w6 (H5.out.2.keep hlk) hlr)
          have H6 := Lib.hid (HS.out.a.keep.trans' (H5.out.1.trans' hlk))
          clear hlk hlr
          go_wp2_with fail
          refine hin.out.mono ?_
          rintro e w7 ⟨rfl, hk⟩
          have H7 := Lib.hid (H6.out.trans' hk)
          have hsu := Lib.hid (sure03 w7 (HT.out.keep H7.out))
          clear hk
          go_wp2_with fail
          refine hsu.out.mono ?_
          rintro e w8 ⟨rfl, hk⟩
          have HKE := Lib.hid (H7.out.trans' hk)
          clear hk
          go_wp2_with fail
          go_ret
          exact ⟨rfl, HKE.out⟩
  · have hld := Lib.hid (aload_bad (k : Int) va vc w1 hr1 hok)
    have HK1 := Lib.hid hk1
    clear ho hk1 hr1 hva hok
    go_wp2_with fail
    refine hld.out.mono ?_
    rintro e w2 ⟨rfl, hk⟩
    have HK2 := Lib.hid (HK1.out.trans' hk)
    have hsu := Lib.hid (sure03 w2 (HT.out.keep HK2.out))
    clear hk hld
    go_wp2_with fail
    refine hsu.out.mono ?_
    rintro e w5 ⟨rfl, hk⟩
    have HKE := Lib.hid (HK2.out.trans' hk)
    clear hk
    go_wp2_with fail
    go_ret
    exact ⟨rfl, HKE.out⟩
theorem arenaBack_enter (W : World) (hT : Tab W) (hE : ErrT W) (n : Int) (_ : (Lit.int .i64 n).wf = true) (a : Option Addr) (c : Nat) (ls : List (Int × Int)) (hr : Rd W a (ls.flatMap fun p => [Value.int .u32 p.1, .int .i64 p.2])) (_ : ls.length ≤ 9223372036854775807)
    (hw : ∀ p ∈ ls, (Lit.int .u32 p.1).wf = true ∧ (Lit.int .i64 p.2).wf = true) (hs : ls.length * 16 ≤ 140737488351232)
    (da : Option Addr) (dc : Nat) (zs : List Int) (hz : Rd W da (zs.map fun z => Value.int .i64 z)) (hzl : zs.length ≤ 9223372036854775807) (_ : ∀ z ∈ zs, (Lit.int .i64 z).wf = true) :
    Calls Tryd.prog 16 #[.int .i64 n, .slice a ls.length c, .slice da zs.length dc] W (TruePost W) := arenaBack_walk n a c ls da dc zs W hT hE hr hs (wf32 hw) hz hzl
end Go.Proofs.YtiphdlhnoceeiaaDoor
