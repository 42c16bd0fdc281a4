/- Chapter 3's laws: ArenaWorn. -/
import Derived.Test.YtiphdlhnoceeiaaDoorL3c
import Derived.Test.YtiphdlhnoceeiaaDoorNum
namespace Go.Proofs.YtiphdlhnoceeiaaDoor
open Go Go.RowKit
set_option linter.unusedVariables false
set_option linter.unusedSimpArgs false
set_option maxRecDepth 100000

theorem lload {L : List (Int × Int)} (x : Int) (n : Nat) (hx : x = n) (a : Option Addr) (c : Nat) (w0 w : World) (h0 : Keeps (fun _ => False) w0 w) (hr : Rd w a (plVals L)) (ha : a = none → c = 0) (hb : ∀ q ∈ L, 0 ≤ q.1 ∧ q.1 ≤ 4294967295) (h : LoadOk x L) :
    Calls Tryd.prog 46 #[.int .i64 x, .slice a L.length c] w fun e w' => ∃ p own, e = .returned (.tuple #[.pointer (some ⟨p, 0, none⟩), .nilIface]) ∧ ALoop w0 p n L own w' := by
  refine (aload x n hx a c w hr ha hb h).mono ?_
  rintro e w' ⟨p, own, he, h1, h2, h3⟩
  exact ⟨p, own, he, h1, fun k e => Nat.le_trans h0.size (h2 k e), h0.trans' h3⟩

/-- The first j are worn, the others live, all of the greatest age. -/
def wornL (m j : Nat) : List (Int × Int) := List.replicate j (4294967295, 2) ++ List.replicate (m - j) (4294967295, 1)
theorem wornL_len {m j : Nat} (h : j ≤ m) : (wornL m j).length = m := by simp [wornL]; omega
theorem wornL_get {m j : Nat} (i : Nat) : (wornL m j)[i]? = if i < j then some (4294967295, 2) else if i < m then some (4294967295, 1) else none := by
  unfold wornL
  by_cases h : i < j
  · rw [List.getElem?_append_left (by simpa using h)]; simp [h]
  · rw [List.getElem?_append_right (by simp; omega)]
    simp only [List.length_replicate, List.getElem?_replicate, if_neg h]
    by_cases h2 : i < m
    · rw [if_pos h2, if_pos (by omega)]
    · rw [if_neg h2, if_neg (by omega)]
theorem wornL_find {m j n : Nat} (h : j < m) (hn : m ≤ n) : findErr n (wornL m j) 4294967295 j = 0 := by
  unfold findErr
  rw [if_neg (by omega), wornL_get, if_neg (Nat.lt_irrefl _), if_pos h, if_pos rfl]
theorem wornL_drop {m j n : Nat} (h : j < m) (hn : m ≤ n) : dropL n (wornL m j) 4294967295 j = wornL m (j + 1) := by
  unfold dropL
  rw [if_pos (wornL_find h hn), if_pos rfl]
  apply List.ext_getElem?
  intro i
  rw [List.getElem?_set, wornL_get, wornL_get, wornL_len (by omega)]
  by_cases e : j = i
  · subst e; rw [if_pos rfl, if_pos h, if_pos (by omega)]
  · rw [if_neg e]
    by_cases h1 : i < j
    · rw [if_pos h1, if_pos (by omega)]
    · rw [if_neg h1, if_neg (show ¬ i < j + 1 by omega)]
theorem wornL_tak (m : Nat) : tak (wornL m m) = below m := by
  funext y
  unfold tak
  rw [wornL_get]
  by_cases h : y < m
  · simp [h, below]
  · simp [h, below]
theorem wornL_liv (m : Nat) : liv (wornL m m) = 0 := by simp [wornL, liv, List.countP_replicate]
theorem wornL_nage (m : Nat) : nage (wornL m m) m = 1 := by
  unfold nage
  rw [List.getD_eq_getElem?_getD, wornL_get]
  simp
theorem wornL_add (m : Nat) : addL (wornL m m) m = wornL m m ++ [(1, 1)] := by
  unfold addL addM
  rw [wornL_nage, if_neg (by rw [wornL_len (Nat.le_refl _)]; omega)]
  rw [List.set_append_right _ _ (by rw [wornL_len (Nat.le_refl _)]; exact Nat.le_refl _), wornL_len (Nat.le_refl _)]
  simp
theorem wornL_ok (x : Int) (m : Nat) (h1 : 1 ≤ x) (h2 : x ≤ 100) (h3 : (m : Int) ≤ x) : LoadOk x (wornL m 0) := by
  refine ⟨h1, by omega, by rw [wornL_len (Nat.zero_le _)]; exact h3, ?_, fun q hq => ?_⟩
  · rw [List.any_eq_false]
    intro q hq
    simp [wornL] at hq
    rw [hq.2]
    decide
  · have := List.mem_of_getLast? hq
    simp [wornL] at this
    rw [this.2]
    decide

set_option maxHeartbeats 4000000 in
theorem arenaWorn_walk (n t : Int) (w : World) (hT : Tab w) (hE : ErrT w) : Calls Tryd.prog 13 #[.int .i64 n, .int .i64 t] w (TruePost w) := by
  obtain ⟨i0, hi, hz0, hz1, hz2⟩ := info_parts infoPl
  have HT := Lib.hid hT
  have HE := Lib.hid hE
  clear hT hE
  obtain ⟨hk1, hk2⟩ := kof_le n 8 (by decide)
  have hk := show wrap64 (1 + wrap64 ((IntKind.u64.wrap n).tmod 8)) = (kof n 8 : Int) from kof_val n 8 (by decide) (by decide)
  generalize kof n 8 = k at *
  obtain ⟨hm1, hm2⟩ := kof_le t k (by omega)
  have hm := kof_val t k (by omega) (by omega)
  generalize kof t k = m at *
  have hku : IntKind.u64.wrap (k : Int) = k := by rw [IntKind.wrap_u64]; omega
  have H0 : Hid (GiveRel w (wornL m 0) 0 (.slice none 0 0) w) := ⟨World.ownsRow_nil _ _ _ _, Keeps.refl _ _⟩
  go_enter Tryd.func13, Tryd.ntmps13
  go_wp2_with fail
  rw [hk, hm]
  have HKM := Lib.hid (And.intro hk hm)
  clear hk hm hku
  go_loopw [7, 8] (fun l i wr => ∃ f : Nat, f ≤ m ∧ i = .int .i64 (f : Int) ∧ GiveRel w (wornL m 0) f l wr) (fun _ i _ => m - (intOf i).toNat)
  case atStart => exact ⟨0, Nat.zero_le _, rfl, H0.out⟩
  case round =>
    obtain ⟨f, hf, rfl, hrel⟩ := hrel
    clear H0
    by_cases hlt : f < m
    · have hown := hrel.1
      have hws := hrel.2.size
      have HREL := Lib.hid hrel
      have HTk : Hid ((wornL m 0).take (f + 1) = (wornL m 0).take f ++ [(4294967295, 1)]) := by
        rw [take_snoc (by rw [wornL_len (Nat.zero_le _)]; exact hlt)]
        have := wornL_get (m := m) (j := 0) f
        rw [if_neg (Nat.not_lt_zero _), if_pos hlt, List.getElem?_eq_some_iff] at this
        rw [this.2]
        exact rfl
      clear hrel
      go_wp2_with (first | (at_builtin; refine wpList_app1 rfl _ _ 63 rfl w.heap.size 72 i0 (.agg #[.int .u32 0, .int .i64 0]) 2 16 Tryd.underlying63 hi hz0 hz1 hz2 rfl (by decide) _ _ _ rfl hown _ 1 1 [.int .u32 4294967295, .int .i64 1] 72 rfl rfl rfl ?c1 ?c2 ?c3 ?c4 ?_))
      case c1 => simp [Value.oneCell']
      case c2 => unfold maxLen; omega
      case c3 => omega
      case c4 => exact hws
      intro v1 w1 ho hk1 _ _ _
      have hgr := Lib.hid (HREL.out.grow HTk.out ho hk1)
      clear ho hk1 hown
      go_wp2_with fail
      refine ⟨⟨f + 1, hlt, by go_num, hgr.out⟩, by simp [intOf]; omega⟩
    · obtain rfl : f = m := by omega
      have hrow : PlRow wr w.heap.size u7 (wornL f 0) := by
        have := hrel.1
        rw [List.take_of_length_le (by rw [wornL_len (Nat.zero_le _)]; exact Nat.le_refl _)] at this
        unfold PlRow
        rw [wornL_len (Nat.zero_le _)]
        exact this
      obtain ⟨va, vc, rfl, hr, hva⟩ := hrow.rd
      have hlen := wornL_len (m := f) (Nat.zero_le f)
      have hld := Lib.hid (lload (k : Int) k rfl va vc w wr hrel.2 hr hva (fun q hq => by simp [wornL] at hq; rw [hq.2]; decide) (wornL_ok k f (by omega) (by omega) (by omega)))
      rw [hlen] at hld ⊢
      clear hrel hrow hr hva
      go_wp2_with fail
      refine hld.out.mono ?_
      rintro e w1 ⟨p, own, rfl, hl⟩
      have H1 := Lib.hid hl
      clear hl hld
      go_wp2_with fail
      go_loopw [11] (fun i wr => ∃ (j : Nat), j ≤ f ∧ i = .int .i64 (j : Int) ∧ ALoop w p k (wornL f j) own wr) (fun i _ => f - (intOf i).toNat)
      case atStart => exact ⟨0, Nat.zero_le _, rfl, H1.out⟩
      case round =>
        obtain ⟨j, hj, rfl, hs⟩ := hrel
        clear H1
        have HS := Lib.hid hs
        clear hs
        by_cases hlt : j < f
        · have hd := Lib.hid (ldrop HS.out 4294967295 j (by omega) .nilIface (by rw [wornL_find hlt hm2]; rfl) (wornL f (j + 1)) (wornL_drop hlt hm2))
          have hwz : IntKind.u32.wrap (j : Int) = j := by rw [IntKind.wrap_u32]; omega
          go_wp2_with fail
          refine hd.out.mono ?_
          rintro e w2 ⟨rfl, hl, _⟩
          have H2 := Lib.hid hl
          clear hl hd
          go_wp2_with fail
          refine ⟨⟨j + 1, hlt, by go_num, H2.out⟩, by simp [intOf]; omega⟩
        · obtain rfl : j = f := by omega
          by_cases hjk : j = k
          · subst hjk
            have ha := Lib.hid (ladd_full HS.out (by rw [wornL_tak]; exact cnt_below _ _ (Nat.le_refl _)))
            clear hlt
            go_wp2_with fail
            refine ha.out.mono ?_
            rintro e w2 ⟨rfl, hl, _⟩
            have hl2 := hl.quiet ((Keeps.refl _ _).alloc (.cells #[.int .u32 0, .int .u32 0] 46))
            have H2 := Lib.hid hl2
            clear hl hl2 ha
            go_wp2_with fail
            refine (num03_err 16 _ (HE.out.keep H2.out.keep)).mono ?_
            rintro e w3 ⟨rfl, hk⟩
            have hl3 := H2.out.quiet hk
            have hf := Lib.hid (lfull hl3 true (by rw [wornL_tak, cnt_below _ _ (Nat.le_refl _)]; simp))
            clear hl3 hk H2
            go_wp2_with fail
            refine hf.out.mono ?_
            rintro e w4 ⟨rfl, hl4, _⟩
            have hle := Lib.hid (llen hl4 0 (wornL_liv j))
            have hsu := Lib.hid (sure03 w4 (HT.out.keep hl4.keep))
            have HK4 := Lib.hid hl4.keep
            clear hl4 hf
            go_wp2_with (go_at_call 31; refine hle.out.mono ?_; rintro e w' ⟨rfl, rfl⟩)
            refine hsu.out.mono ?_
            rintro e w5 ⟨rfl, hk⟩
            have HKE := Lib.hid (HK4.out.trans' hk)
            clear hk
            go_wp2_with fail
            go_ret
            exact ⟨rfl, HKE.out⟩
          · have ha := Lib.hid (ladd HS.out HT.out j (by omega) (by rw [wornL_tak]; simp [below]) (fun y hy => by rw [wornL_tak]; simp [below]; exact hy) 1 (wornL_nage j) _ (wornL_add j))
            have hjd : ((j : Int) == (k : Int)) = false := by rw [beq_eq_false_iff_ne]; omega
            have hjn : decide (j = k) = false := by simp [hjk]
            have hwz : IntKind.u32.wrap (j : Int) = j := by rw [IntKind.wrap_u32]; omega
            clear hlt
            go_wp2_with fail
            refine ha.out.mono ?_
            rintro e w2 ⟨rfl, own2, hl, _⟩
            have hB := Bes.new hl #[.int .u32 1, .int .u32 (j : Int)] 46
            have hl2 := hl.quiet ((Keeps.refl _ _).alloc (.cells #[.int .u32 1, .int .u32 (j : Int)] 46))
            have H2 := Lib.hid hl2
            have hle := Lib.hid (llen hl2 1 (by rw [liv_snoc, wornL_liv]; rfl))
            have hsu := Lib.hid (sure03 _ (HT.out.keep hl2.keep))
            clear hl hl2 ha hB
            go_wp2_with (go_at_call 31; refine hle.out.mono ?_; rintro e w' ⟨rfl, rfl⟩)
            refine hsu.out.mono ?_
            rintro e w5 ⟨rfl, hk⟩
            have HKE := Lib.hid (H2.out.keep.trans' hk)
            clear hk
            go_wp2_with fail
            go_ret
            exact ⟨rfl, HKE.out⟩
theorem arenaWorn_enter (W : World) (hT : Tab W) (hE : ErrT W) (n : Int) (_ : (Lit.int .i64 n).wf = true) (t : Int) (_ : (Lit.int .i64 t).wf = true) :
    Calls Tryd.prog 13 #[.int .i64 n, .int .i64 t] W (TruePost W) := arenaWorn_walk n t W hT hE
end Go.Proofs.YtiphdlhnoceeiaaDoor
