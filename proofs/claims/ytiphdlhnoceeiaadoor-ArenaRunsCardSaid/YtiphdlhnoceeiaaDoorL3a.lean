/- Chapter 3's laws: what must come whatever the input is; ArenaAges. -/
import Derived.Test.YtiphdlhnoceeiaaDoorAr3
namespace Go.Proofs.YtiphdlhnoceeiaaDoor
open Go Go.RowKit
set_option linter.unusedVariables false
set_option linter.unusedSimpArgs false
set_option maxRecDepth 100000

def ANewP (n : Nat) (w : World) (e : Ending) (w' : World) : Prop :=
  ∃ p own, e = .returned (.tuple #[.pointer (some ⟨p, 0, none⟩), .nilIface]) ∧ Ar w' own p n [] ∧ (∀ k, own k → w.heap.size ≤ k) ∧ Keeps (fun _ => False) w w'
theorem tak_nil : tak [] = fun _ => false := rfl
theorem anewA (x : Int) (n : Nat) (hx : x = n) (w : World) (h1 : 1 ≤ n) (h2 : n ≤ 1048576) : Calls Tryd.prog 27 #[.int .i64 x] w (ANewP n w) := by
  refine (anew x n hx w h1 h2).mono ?_
  rintro e w' ⟨p, b, ownS, he, hx, hg, hk⟩
  exact ⟨p, _, he, ⟨⟨b, ownS, _, hx, rfl⟩, by simp, by simp, by simp⟩, hg, hk⟩

/-- An arena that this call made: all that it owns is new, all else is as it was. -/
structure ALoop (w : World) (p n : Nat) (L : List (Int × Int)) (own : Nat → Prop) (wr : World) : Prop where
  ar : Ar wr own p n L
  new : ∀ k, own k → w.heap.size ≤ k
  keep : Keeps (fun _ => False) w wr
theorem ALoop.step {w wr w2 : World} {p n : Nat} {L M : List (Int × Int)} {own own' : Nat → Prop} (h : ALoop w p n L own wr) (ha : Ar w2 own' p n M) (hs : Step wr own w2 own') : ALoop w p n M own' w2 :=
  ⟨ha, fun k e => by
    rcases hs.2 k e with e | e
    · exact h.new k e
    · exact Nat.le_trans h.keep.size e, h.keep.thin hs.1 h.new⟩
theorem ALoop.quiet {w wr w2 : World} {p n : Nat} {L : List (Int × Int)} {own : Nat → Prop} (h : ALoop w p n L own wr) (hk : Keeps (fun _ => False) wr w2) : ALoop w p n L own w2 := ⟨h.ar.keep hk, h.new, h.keep.trans' hk⟩
/-- A block beside the arena. -/
def Bes (own : Nat → Prop) (wr : World) (b : Nat) (cs : Array Value) (t : TypeId) : Prop := Blk wr b cs t ∧ ¬ own b
theorem Bes.new {w wr : World} {p n : Nat} {L : List (Int × Int)} {own : Nat → Prop} (h : ALoop w p n L own wr) (cs : Array Value) (t : TypeId) : Bes own (wr.alloc (.cells cs t)) wr.heap.size cs t :=
  ⟨Blk.new wr _ _, fun e => Nat.lt_irrefl _ (h.ar.lt _ e)⟩
theorem Bes.step {wr w2 : World} {own own' : Nat → Prop} {b : Nat} {cs : Array Value} {t : TypeId} (h : Bes own wr b cs t) (hs : Step wr own w2 own') : Bes own' w2 b cs t :=
  ⟨h.1.kept hs.1 h.2, fun e => by
    rcases hs.2 b e with e | e
    · exact h.2 e
    · have := h.1.lt; omega⟩
theorem Bes.keeps {wr w2 : World} {own : Nat → Prop} {b : Nat} {cs : Array Value} {t : TypeId} (h : Bes own wr b cs t) (hs : Keeps own wr w2) : Bes own w2 b cs t := ⟨h.1.kept hs h.2, h.2⟩
theorem Bes.quiet {wr w2 : World} {own : Nat → Prop} {b : Nat} {cs : Array Value} {t : TypeId} (h : Bes own wr b cs t) (hs : Keeps (fun _ => False) wr w2) : Bes own w2 b cs t := ⟨h.1.quiet hs, h.2⟩
section
variable {w wr : World} {p n : Nat} {L : List (Int × Int)} {own : Nat → Prop}
def LAddPost (w : World) (p n : Nat) (own : Nat → Prop) (wr : World) (age : Int) (z : Nat) (M : List (Int × Int)) (e : Ending) (w' : World) : Prop :=
  e = .returned (.tuple #[.agg #[.int .u32 age, .int .u32 z], .nilIface]) ∧ ∃ own', ALoop w p n M own' w' ∧ Step wr own w' own'
theorem ladd (h : ALoop w p n L own wr) (hT : Tab w) (z : Nat) (hz : z < n) (hS : tak L z = false) (hlo : ∀ y, y < z → tak L y = true) (age : Int) (ha : nage L z = age) (M : List (Int × Int)) (hM : addL L z = M) :
    Calls Tryd.prog 28 #[.pointer (some ⟨p, 0, none⟩)] wr (LAddPost w p n own wr age z M) := by
  refine (aadd h.ar (hT.keep h.keep) z hz hS hlo).mono ?_
  rintro e w' ⟨he, own', h4, h5⟩
  subst ha hM
  exact ⟨he, own', h.step h4 h5, h5⟩
def LErrPost (w : World) (p n : Nat) (own : Nat → Prop) (wr : World) (v : Value) (M : List (Int × Int)) (e : Ending) (w' : World) : Prop := e = .returned v ∧ ALoop w p n M own w' ∧ Keeps own wr w'
theorem ladd_full (h : ALoop w p n L own wr) (hf : cnt (tak L) n = n) :
    Calls Tryd.prog 28 #[.pointer (some ⟨p, 0, none⟩)] wr (LErrPost w p n own wr (.tuple #[.agg #[.int .u32 0, .int .u32 0], .iface 92 (.int .i64 16)]) L) := by
  refine (aadd_full h.ar hf).mono ?_
  rintro e w' ⟨he, hk⟩
  exact ⟨he, h.quiet hk, hk.mono fun _ _ => False.elim⟩
theorem ldrop (h : ALoop w p n L own wr) (age : Int) (a : Nat) (ha : a ≤ 4294967295) (v : Value) (hv : errVal (findErr n L age a) = v) (M : List (Int × Int)) (hM : dropL n L age a = M) :
    Calls Tryd.prog 30 #[.pointer (some ⟨p, 0, none⟩), .agg #[.int .u32 age, .int .u32 a]] wr (LErrPost w p n own wr v M) := by
  refine (adrop h.ar age a ha).mono ?_
  rintro e w' ⟨he, h4, h5⟩
  subst hv hM
  exact ⟨he, h.step h4 ⟨h5, fun k e => .inl e⟩, h5⟩
theorem lfull (h : ALoop w p n L own wr) (b : Bool) (hb : decide (cnt (tak L) n = n) = b) : Calls Tryd.prog 29 #[.pointer (some ⟨p, 0, none⟩)] wr (LErrPost w p n own wr (.bool b) L) := by
  refine (afull h.ar).mono ?_
  rintro e w' ⟨he, q, rfl⟩
  subst hb
  exact ⟨he, h.quiet ((Keeps.refl _ _).drewN _), (Keeps.refl _ _).drewN _⟩
theorem llen (h : ALoop w p n L own wr) (m : Nat) (hm : liv L = m) : Calls Tryd.prog 31 #[.pointer (some ⟨p, 0, none⟩)] wr fun e w' => e = .returned (.int .i64 (m : Nat)) ∧ wr = w' := hm ▸ alen h.ar
theorem lnew (x : Int) (n : Nat) (hx : x = n) (w0 w : World) (h0 : Keeps (fun _ => False) w0 w) (h1 : 1 ≤ n) (h2 : n ≤ 1048576) : Calls Tryd.prog 27 #[.int .i64 x] w fun e w' => ∃ p own, e = .returned (.tuple #[.pointer (some ⟨p, 0, none⟩), .nilIface]) ∧ ALoop w0 p n [] own w' := by
  refine (anewA x n hx w h1 h2).mono ?_
  rintro e w' ⟨p, own, he, ha, hg, hk⟩
  exact ⟨p, own, he, ha, fun k e => Nat.le_trans h0.size (hg k e), h0.trans' hk⟩
end

/-- The first m live, of the age 1. -/
def ones (m : Nat) : List (Int × Int) := List.replicate m (1, 1)
theorem ones_len (m : Nat) : (ones m).length = m := by simp [ones]
theorem ones_tak (m : Nat) : tak (ones m) = below m := by
  funext y
  by_cases h : y < m
  · rw [tak_in _ _ (by rw [ones_len]; exact h)]; simp [below, h, ones]
  · rw [tak_out _ _ (by rw [ones_len]; omega)]; simp [below, h]
theorem ones_nage (m : Nat) : nage (ones m) m = 1 := by simp [nage, ones]
theorem ones_add (m : Nat) : addL (ones m) m = ones (m + 1) := by
  unfold addL addM
  rw [ones_nage, if_neg (by rw [ones_len]; omega)]
  simp [ones, List.replicate_succ']
/-- .. and behind them one that was taken back i times. -/
def agesL (m i : Nat) : List (Int × Int) := ones m ++ (if i = 0 then [] else [((i : Int), 0)])
theorem ages_tak (m i : Nat) : tak (agesL m i) = below m := by
  unfold agesL
  by_cases h : i = 0
  · rw [if_pos h, List.append_nil, ones_tak]
  · rw [if_neg h, tak_free, ones_tak]
theorem ages_nage (m i : Nat) : nage (agesL m i) m = (i : Int) + 1 := by
  unfold agesL nage
  by_cases h : i = 0
  · subst h; simp [ones]
  · rw [if_neg h, List.getD_eq_getElem?_getD, List.getElem?_append_right (by simp [ones])]; simp [ones]
theorem ages_add (m i : Nat) : addL (agesL m i) m = ones m ++ [((i : Int) + 1, 1)] := by
  unfold addL addM
  rw [ages_nage]
  unfold agesL
  by_cases h : i = 0
  · subst h; simp [ones]
  · simp [h, ones]
theorem ages_live_tak (m : Nat) (a : Int) : tak (ones m ++ [(a, 1)]) = below (m + 1) := by
  funext y
  by_cases h : y < m + 1
  · rw [tak_in _ _ (by simp [ones]; exact h)]
    by_cases h2 : y < m
    · rw [List.getElem_append_left (by simp [ones]; exact h2)]; simp [below, h, ones]
    · rw [List.getElem_append_right (by simp [ones]; omega)]; simp [below, h, ones]
  · rw [tak_out _ _ (by simp [ones]; omega)]; simp [below, h]
theorem ages_find (m : Nat) (a : Int) : findErr (m + 1) (ones m ++ [(a, 1)]) a m = 0 := by
  unfold findErr
  rw [if_neg (by omega), if_pos]
  rw [List.getElem?_append_right (by simp [ones])]; simp [ones]
theorem ages_drop (m i : Nat) (h : i < 100) : dropL (m + 1) (ones m ++ [((i : Int) + 1, 1)]) ((i : Int) + 1) m = agesL m (i + 1) := by
  unfold dropL
  rw [ages_find, if_pos rfl, if_neg (show ¬ ((i : Int) + 1 = 4294967295) by omega)]
  unfold agesL
  rw [if_neg (Nat.succ_ne_zero i)]
  simp [ones]
theorem ages_full (m : Nat) (a : Int) : cnt (tak (ones m ++ [(a, 1)])) (m + 1) = m + 1 := by
  rw [ages_live_tak]; exact cnt_below _ _ (Nat.le_refl _)
theorem ages_free (m i : Nat) : cnt (tak (agesL m i)) (m + 1) = m := by
  rw [ages_tak, cnt_succ, cnt_below m m (Nat.le_refl _)]; simp [below]
theorem ages_liv (m i : Nat) : liv (agesL m i) = m := by
  unfold agesL liv
  by_cases h : i = 0
  · simp [h, ones, List.countP_replicate]
  · simp [h, ones, List.countP_replicate, List.countP_append]

set_option maxHeartbeats 2000000 in
theorem sure03 (w : World) (hT : Tab w) : Calls Tryd.prog 32 #[] w (TruePost w) := by
  have HT := Lib.hid hT
  clear hT
  have hn := Lib.hid (lnew 3 3 rfl w w (Keeps.refl _ _) (by decide) (by decide))
  go_enter Tryd.func32, Tryd.ntmps32
  go_wp2_with fail
  refine hn.out.mono ?_
  rintro e w1 ⟨p, own, rfl, hl⟩
  have H1 := Lib.hid hl
  have ha := Lib.hid (ladd hl HT.out 0 (by decide) rfl (fun y h => absurd h (Nat.not_lt_zero y)) 1 rfl [(1, 1)] rfl)
  clear hl hn
  go_wp2_with fail
  refine ha.out.mono ?_
  rintro e w2 ⟨rfl, own2, hl, _⟩
  have hB := Bes.new hl #[.int .u32 1, .int .u32 0] 46
  have hl := hl.quiet ((Keeps.refl _ _).alloc (.cells #[.int .u32 1, .int .u32 0] 46))
  have hlo : ∀ y, y < 1 → tak [(1, 1)] y = true := fun y h => by
    obtain rfl : y = 0 := by omega
    rfl
  have H2 := Lib.hid (And.intro hl hB)
  have ha := Lib.hid (ladd hl HT.out 1 (by decide) rfl hlo 1 rfl [(1, 1), (1, 1)] rfl)
  clear hl hB hlo H1
  go_wp2_with fail
  refine ha.out.mono ?_
  rintro e w3 ⟨rfl, own3, hl, hs⟩
  have hB := (H2.out.2.step hs).quiet ((Keeps.refl _ _).alloc (.cells #[.int .u32 1, .int .u32 1] 46))
  have hC := Bes.new hl #[.int .u32 1, .int .u32 1] 46
  have hl := hl.quiet ((Keeps.refl _ _).alloc (.cells #[.int .u32 1, .int .u32 1] 46))
  have H3 := Lib.hid (And.intro hl (And.intro hB hC))
  have hd := Lib.hid (ldrop hl 1 0 (by decide) .nilIface rfl [(1, 0), (1, 1)] rfl)
  have b0 := hB.1.cell (i := 0)
  have b1 := hB.1.cell (i := 1)
  simp only [List.getElem?_toArray, List.getElem?_cons_zero, List.getElem?_cons_succ] at b0 b1
  clear hl hs hB hC H2
  go_wp2_with fail
  refine hd.out.mono ?_
  rintro e w4 ⟨rfl, hl, hs⟩
  have H4 := Lib.hid (And.intro hl (And.intro (H3.out.2.1.keeps hs) (H3.out.2.2.keeps hs)))
  have ha := Lib.hid (ladd hl HT.out 0 (by decide) rfl (fun y h => absurd h (Nat.not_lt_zero y)) 2 rfl [(2, 1), (1, 1)] rfl)
  clear hl hs H3 b0 b1
  go_wp2_with fail
  refine ha.out.mono ?_
  rintro e w5 ⟨rfl, own5, hl, hs⟩
  have hB := ((H4.out.2.1.step hs).quiet ((Keeps.refl _ _).alloc (.cells #[.int .u32 2, .int .u32 0] 46))).1
  have hC := ((H4.out.2.2.step hs).quiet ((Keeps.refl _ _).alloc (.cells #[.int .u32 2, .int .u32 0] 46))).1
  have HK := Lib.hid (hl.keep.alloc (.cells #[.int .u32 2, .int .u32 0] 46))
  have b0 := hB.cell (i := 0)
  have b1 := hB.cell (i := 1)
  have c0 := hC.cell (i := 0)
  have c1 := hC.cell (i := 1)
  simp only [List.getElem?_toArray, List.getElem?_cons_zero, List.getElem?_cons_succ] at b0 b1 c0 c1
  clear hl hs hB hC H4
  go_wp2_with fail
  go_ret
  exact ⟨rfl, HK.out⟩

set_option maxHeartbeats 4000000 in
theorem arenaAges_walk (n t : Int) (w : World) (hT : Tab w) : Calls Tryd.prog 5 #[.int .i64 n, .int .i64 t] w (TruePost w) := by
  have HT := Lib.hid hT
  clear hT
  obtain ⟨hk1, hk2⟩ := kof_le n 10 (by decide)
  have HK := Lib.hid (kof_val n 10 (by decide) (by decide))
  have HM := Lib.hid (show wrap64 (1 + wrap64 ((IntKind.u64.wrap t).tmod 20)) = (kof t 20 : Int) from kof_val t 20 (by decide) (by decide))
  have hm := (kof_le t 20 (by decide)).2
  generalize kof t 20 = q at *
  obtain ⟨m, hm1⟩ : ∃ m, kof n 10 = m + 1 := ⟨kof n 10 - 1, by omega⟩
  rw [hm1] at HK hk2
  go_enter Tryd.func5, Tryd.ntmps5
  go_wp2_with fail
  rw [show (10 : Int) = ((10 : Nat) : Int) from rfl, HK.out]
  refine (lnew _ (m + 1) rfl w w (Keeps.refl _ _) (by omega) (by omega)).mono ?_
  rintro e w1 ⟨p, own, rfl, hl⟩
  have H1 := Lib.hid hl
  clear hl hm1 hk1
  have hw1 : wrap64 (((m + 1 : Nat) : Int) - 1) = (m : Int) := by simp [wrap64]; omega
  go_wp2_with fail
  go_loopw [8] (fun i wr => ∃ (j : Nat) (own : Nat → Prop), j ≤ m ∧ i = .int .i64 (j : Int) ∧ ALoop w p (m + 1) (ones j) own wr) (fun i _ => m - (intOf i).toNat)
  case atStart => exact ⟨0, own, Nat.zero_le _, rfl, H1.out⟩
  case round =>
    obtain ⟨j, own1, hj, rfl, hs⟩ := hrel
    clear H1
    have HS := Lib.hid hs
    clear hs
    by_cases hlt : j < m
    · have ha := Lib.hid (ladd HS.out HT.out j (by omega) (by rw [ones_tak]; simp [below]) (fun y hy => by rw [ones_tak]; simp [below]; exact hy) 1 (ones_nage j) (ones (j + 1)) (ones_add j))
      go_wp2_with fail
      refine ha.out.mono ?_
      rintro e w2 ⟨rfl, own2, hl, _⟩
      have H2 := Lib.hid (hl.quiet ((Keeps.refl _ _).alloc (.cells #[.int .u32 1, .int .u32 (j : Int)] 46)))
      clear hl
      have hwz : IntKind.u32.wrap (j : Int) = j := by rw [IntKind.wrap_u32]; omega
      go_wp2_with fail
      refine ⟨⟨j + 1, own2, hlt, by go_num, H2.out⟩, by simp [intOf]; omega⟩
    · obtain rfl : j = m := by omega
      have HS' : Hid (ALoop w p (j + 1) (agesL j 0) own1 wr) := by
        have := HS.out
        rw [show ones j = agesL j 0 from by simp [agesL]] at this
        exact this
      clear HS hlt
      go_wp2_with fail
      have hq := HM.out
      go_loopw [11] (fun i wr => ∃ (x : Nat) (own : Nat → Prop), x ≤ q ∧ i = .int .i64 (x : Int) ∧ ALoop w p (j + 1) (agesL j x) own wr) (fun i _ => q - (intOf i).toNat)
      case atStart => exact ⟨0, own1, Nat.zero_le _, rfl, HS'.out⟩
      case round =>
        obtain ⟨x, own2, hx, rfl, hs⟩ := hrel
        clear HS'
        have HS := Lib.hid hs
        clear hs
        by_cases hlt : x < q
        · have ha := Lib.hid (ladd HS.out HT.out j (by omega) (by rw [ages_tak]; simp [below]) (fun y hy => by rw [ages_tak]; simp [below]; exact hy) ((x : Int) + 1) (ages_nage j x) _ (ages_add j x))
          go_wp2_with fail
          refine ha.out.mono ?_
          rintro e w2 ⟨rfl, own3, hl, _⟩
          have hw32 : IntKind.u32.wrap ((x : Int) + 1) = (x : Int) + 1 := by rw [IntKind.wrap_u32]; omega
          have hwz : IntKind.u32.wrap (j : Int) = j := by rw [IntKind.wrap_u32]; omega
          have hB := Bes.new hl #[.int .u32 ((x : Int) + 1), .int .u32 (j : Int)] 46
          have hl := hl.quiet ((Keeps.refl _ _).alloc (.cells #[.int .u32 ((x : Int) + 1), .int .u32 (j : Int)] 46))
          have HB := Lib.hid (And.intro hl hB)
          have hf := Lib.hid (lfull hl true (by rw [ages_full]; simp))
          clear hl hB ha
          go_wp2_with fail
          refine hf.out.mono ?_
          rintro e w3 ⟨rfl, hl, hs⟩
          have HB3 := Lib.hid (And.intro hl (HB.out.2.keeps hs))
          have b0 := HB3.out.2.1.cell (i := 0)
          have b1 := HB3.out.2.1.cell (i := 1)
          simp only [List.getElem?_toArray, List.getElem?_cons_zero, List.getElem?_cons_succ] at b0 b1
          have hd := Lib.hid (ldrop hl ((x : Int) + 1) j (by omega) .nilIface (by rw [ages_find]; rfl) (agesL j (x + 1)) (ages_drop j x (by omega)))
          clear hl hs HB hf
          go_wp2_with fail
          refine hd.out.mono ?_
          rintro e w4 ⟨rfl, hl, hs⟩
          have H4 := Lib.hid hl
          have hf := Lib.hid (lfull hl false (by rw [ages_free]; simp))
          clear hl hs hd HB3 b0 b1
          go_wp2_with fail
          refine hf.out.mono ?_
          rintro e w5 ⟨rfl, hl, hs⟩
          have H5 := Lib.hid hl
          clear hl hs hf H4
          go_wp2_with fail
          refine ⟨⟨x + 1, own3, hlt, by go_num, H5.out⟩, by simp [intOf]; omega⟩
        · have hle := Lib.hid (llen HS.out j (ages_liv j x))
          have hsu := Lib.hid (sure03 wr (HT.out.keep HS.out.keep))
          go_wp2_with (go_at_call 31; refine hle.out.mono ?_; rintro e w' ⟨rfl, rfl⟩)
          refine hsu.out.mono ?_
          rintro e w5 ⟨rfl, hk⟩
          have HKE := Lib.hid (HS.out.keep.trans' hk)
          clear hk
          go_wp2_with fail
          go_ret
          exact ⟨rfl, HKE.out⟩
theorem arenaAges_enter (W : World) (hT : Tab W) (n : Int) (_ : (Lit.int .i64 n).wf = true) (t : Int) (_ : (Lit.int .i64 t).wf = true) :
    Calls Tryd.prog 5 #[.int .i64 n, .int .i64 t] W (TruePost W) := arenaAges_walk n t W hT
end Go.Proofs.YtiphdlhnoceeiaaDoor
