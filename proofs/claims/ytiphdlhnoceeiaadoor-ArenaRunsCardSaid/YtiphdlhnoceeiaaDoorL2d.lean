/- Chapter 2's laws: SlotsLowest, SlotsFull. -/
import Derived.Test.YtiphdlhnoceeiaaDoorL2c
namespace Go.Proofs.YtiphdlhnoceeiaaDoor
open Go Go.RowKit
set_option linter.unusedVariables false
set_option linter.unusedSimpArgs false

/-- The first i are taken. -/
def below (i : Nat) : Nat → Bool := fun y => decide (y < i)
theorem below_step (i : Nat) : upd (below i) i true = below (i + 1) := by
  funext y
  unfold upd below
  split
  · rename_i e; subst e; simp
  · rw [decide_eq_decide]; omega
theorem cnt_below (i k : Nat) (h : k ≤ i) : cnt (below i) k = k := cnt_all _ _ fun y hy => by simp [below]; omega

/-- One more of the first ones. -/
theorem take_next {w : World} {b n : Nat} {own : Nat → Prop} {i : Nat} (h : Sl w b own n (below i)) (hT : Tab w) (hi : i < n) :
    Calls Tryd.prog 33 #[.pointer (some ⟨b, 0, none⟩)] w fun e w' => e = .returned (.tuple #[.int .i64 (i : Int), .nilIface]) ∧ Keeps own w w' ∧ Sl w' b own n (below (i + 1)) := by
  refine (stake h hT i hi (by simp [below]) (fun y hy => by simp [below]; omega)).mono ?_
  rintro e w' ⟨he, hk, hs⟩
  rw [below_step] at hs
  exact ⟨he, hk, hs⟩
/-- None is left. -/
def FullPost (w : World) (b n : Nat) (own : Nat → Prop) (S : Nat → Bool) (e : Ending) (w' : World) : Prop :=
  e = .returned (.tuple #[.int .i64 0, errVal 16]) ∧ Keeps (fun _ => False) w w' ∧ Sl w' b own n S
theorem take_none {w : World} {b n : Nat} {own : Nat → Prop} {S : Nat → Bool} (h : Sl w b own n S) (hf : cnt S n = n) :
    Calls Tryd.prog 33 #[.pointer (some ⟨b, 0, none⟩)] w (FullPost w b n own S) := by
  refine (stake_full h hf).mono ?_
  rintro e w' ⟨he, q, rfl⟩
  exact ⟨he, (Keeps.refl _ _).drewN _, h.keep ((Keeps.refl _ _).drewN _)⟩

/-- Which place is the least free one. -/
def Least (S : Nat → Bool) (k m : Nat) : Prop := m ≤ k ∧ (∀ y, y < k → S y = false → m ≤ y) ∧ (m < k → S m = false)
theorem Least.free {S : Nat → Bool} {k m y : Nat} (h : Least S k m) (hy : y < k) : Least (upd S y false) k (min m y) := by
  obtain ⟨h1, h2, h3⟩ := h
  refine ⟨by omega, fun z hz hS => ?_, fun hm => ?_⟩
  · by_cases e : z = y
    · omega
    · have := h2 z hz (by simpa [upd, e] using hS); omega
  · by_cases e : min m y = y
    · rw [e]; simp [upd]
    · have e2 : min m y = m := by omega
      rw [e2]
      by_cases e3 : m = y
      · omega
      · simp [upd, e3]; exact h3 (by omega)
theorem Least.lowest {S : Nat → Bool} {k m : Nat} (h : Least S k m) (hc : cnt S k < k) : m < k ∧ S m = false ∧ ∀ y, y < m → S y = true := by
  obtain ⟨h1, h2, h3⟩ := h
  have hm : m < k := by
    by_cases e : m < k
    · exact e
    · have := cnt_all S k fun y hy => by
        cases e2 : S y with
        | true => rfl
        | false => have := h2 y hy e2; omega
      omega
  refine ⟨hm, h3 hm, fun y hy => ?_⟩
  cases e : S y with
  | true => rfl
  | false => have := h2 y (by omega) e; omega

set_option maxHeartbeats 2000000 in
set_option maxRecDepth 100000 in
theorem slotsLowest_walk (n : Int) (a : Option Addr) (c : Nat) (zs : List Int) (w : World) (hT : Tab w) (hE : ErrT w) (hr : Rd w a (i64s zs)) (hl : zs.length ≤ 9223372036854775807) :
    Calls Tryd.prog 6 #[.int .i64 n, .slice a zs.length c] w (TruePost w) := by
  have HT := Lib.hid hT
  have HE := Lib.hid hE
  have HR := Lib.hid hr
  have hg := hT.lt
  clear hT hr hE
  obtain ⟨hk1, hk2⟩ := kof_le n 5000 (by decide)
  have HK := Lib.hid (kof_val n 5000 (by decide) (by decide))
  generalize kof n 5000 = k at *
  go_enter Tryd.func6, Tryd.ntmps6
  go_wp2_with fail
  rw [show (5000 : Int) = ((5000 : Nat) : Int) from rfl, HK.out]
  refine (snew _ k rfl w hk1 (by omega)).mono ?_
  rintro e w1 ⟨b, own, rfl, hs1, hge, hkp⟩
  have HG := Lib.hid hge
  have HS : Hid (SlLoop w b k own (below 0) w1) := ⟨hs1, hkp⟩
  clear hs1 hge hkp
  go_wp2_with fail
  go_loopw [8] (fun i wr => ∃ (j : Nat), j ≤ k ∧ i = .int .i64 (j : Int) ∧ SlLoop w b k own (below j) wr) (fun i _ => k - (intOf i).toNat)
  case atStart => exact ⟨0, Nat.zero_le _, rfl, HS.out⟩
  case round =>
    obtain ⟨j, hj, rfl, hs⟩ := hrel
    clear HS
    have HS := Lib.hid hs
    clear hs
    by_cases hlt : j < k
    · have hc := Lib.hid (take_next HS.out.1 (HT.out.keep HS.out.2) hlt)
      go_wp2_with fail
      refine hc.out.mono ?_
      rintro e w2 ⟨rfl, hk3, hs3⟩
      have H2 := Lib.hid (HS.out.act HG.out hk3 hs3)
      clear hk3 hs3
      go_wp2_with fail
      refine ⟨⟨j + 1, hlt, by go_num, H2.out⟩, by simp [intOf]; omega⟩
    · obtain rfl : j = k := by omega
      have hc := Lib.hid (take_none HS.out.1 (cnt_below j j (Nat.le_refl _)))
      go_wp2_with fail
      refine hc.out.mono ?_
      rintro e w2 ⟨rfl, hk3, hs3⟩
      have H2 := Lib.hid (show SlLoop w b j own _ w2 from ⟨hs3, HS.out.2.trans' hk3⟩)
      clear hk3 hs3 hlt
      go_wp2_with fail
      refine (num02_val 16 w2 (HE.out.keep H2.out.2)).mono ?_
      rintro e w3 ⟨rfl, hk⟩
      have H3 := Lib.hid (H2.out.keeps hk)
      have hlen := slen H3.out.1
      rw [cnt_below j j (Nat.le_refl _)] at hlen
      have hlen' := Lib.hid hlen
      clear hk hlen
      go_wp2_with (go_at_call 26; refine hlen'.out.mono ?_; rintro e w' ⟨rfl, rfl⟩)
      have H3' : Hid (SlLoop w b j own (below j) w3 ∧ Least (below j) j j ∧ cnt (below j) j + 0 = j) := ⟨H3.out, ⟨Nat.le_refl _, fun y hy h => by simp [below] at h; omega, fun h => absurd h (by omega)⟩, cnt_below j j (Nat.le_refl _)⟩
      clear hlen' H3
      go_loopw [13, 14, 15] (fun l m i wr => ∃ (q lo mm : Nat) (S : Nat → Bool), q ≤ zs.length ∧ q ≤ 50 ∧ mm ≤ q ∧ i = .int .i64 (q : Int) ∧ l = .int .i64 (lo : Int) ∧ m = .int .i64 (mm : Int) ∧ Hid (SlLoop w b j own S wr ∧ Least S j lo ∧ cnt S j + mm = j)) (fun _ _ i _ => zs.length - (intOf i).toNat)
      case atStart => exact ⟨0, j, 0, _, Nat.zero_le _, by decide, Nat.zero_le _, rfl, rfl, rfl, H3'.out⟩
      case round =>
        obtain ⟨q, lo, mm, S, hq, hq50, hmq, rfl, rfl, rfl, HH⟩ := hrel
        clear H3'
        have hlo : lo ≤ j := HH.out.2.1.1
        have hmm : mm ≤ j := by have := HH.out.2.2; omega
        by_cases hqt : q < zs.length ∧ q < 50
        · obtain ⟨hqt, hqt2⟩ := hqt
          obtain ⟨ab, off, rfl, hc⟩ := (HR.out.keep HH.out.1.2).at_ q (by simp [i64s]; exact hqt)
          have hcj := hc q (by simp [i64s]; exact hqt)
          rw [show (i64s zs)[q]? = some (.int .i64 zs[q]) from by simp [i64s, hqt]] at hcj
          clear hc
          have HM := Lib.hid (mod_val zs[q] j (by omega) (by omega))
          have hy := Nat.mod_lt (unsg zs[q]) (show 0 < j by omega)
          generalize zs[q] = z at *
          generalize unsg z % j = y at *
          cases hSy : S y with
          | true =>
            have hc := Lib.hid (free_yes HH.out.1.1 (y : Int) y rfl hy hSy)
            have HSY := Lib.hid hSy
            clear hSy
            go_wp2_with fail
            rw [HM.out]
            refine hc.out.mono ?_
            rintro e w4 ⟨rfl, hk, hs⟩
            have H4 : Hid (SlLoop w b j own (upd S y false) w4 ∧ Least (upd S y false) j (min lo y) ∧ cnt (upd S y false) j + (mm + 1) = j) :=
              ⟨HH.out.1.act HG.out hk hs, HH.out.2.1.free hy, by have := cnt_free S y HSY.out j hy; have := HH.out.2.2; omega⟩
            clear hk hs hcj
            go_wp2_with fail
            refine ⟨⟨q + 1, min lo y, mm + 1, _, hqt, by omega, by omega, by go_num, by rw [show (if y < lo then (y : Int) else lo) = ((min lo y : Nat) : Int) from by split <;> omega], by go_num, H4.out⟩, by simp [intOf]; omega⟩
          | false =>
            have hc := Lib.hid (free_no HH.out.1.1 (y : Int) y rfl hy hSy)
            clear hSy
            go_wp2_with fail
            rw [HM.out]
            refine hc.out.mono ?_
            rintro e w4 ⟨he, hk, hs⟩
            obtain rfl : e = .returned (.iface 92 (.int .i64 21)) := he
            have H4 := Lib.hid (HH.out.1.act HG.out hk hs)
            clear hk hs hcj
            go_wp2_with fail
            refine ⟨⟨q + 1, lo, mm, S, hqt, by omega, by omega, by go_num, rfl, rfl, H4.out, HH.out.2.1, HH.out.2.2⟩, by simp [intOf]; omega⟩
        · have hlen := slen HH.out.1.1
          have hcc : cnt S j + mm = j := HH.out.2.2
          have HCC := Lib.hid (rfl : cnt S j = cnt S j)
          generalize hcq : cnt S j = cc at hlen hcc
          have HCQ := Lib.hid hcq
          have hlen' := Lib.hid hlen
          clear hcq hlen
          by_cases hm0 : mm = 0
          · have hc := Lib.hid (take_none HH.out.1.1 (by rw [HCQ.out]; omega))
            subst hm0
            go_wp2_with (go_at_call 26; refine hlen'.out.mono ?_; rintro e w' ⟨rfl, rfl⟩)
            all_goals
              refine hc.out.mono ?_
              rintro e w4 ⟨rfl, hk, hs⟩
              have H4 := Lib.hid (show SlLoop w b j own _ w4 from ⟨hs, HH.out.1.2.trans' hk⟩)
              clear hk hs
              go_wp2_with fail
              refine (num02_val 16 w4 (HE.out.keep H4.out.2)).mono ?_
              rintro e w5 ⟨rfl, hk⟩
              have H5 := Lib.hid (H4.out.keeps hk)
              have hc := Lib.hid (sure02 w5 (HT.out.keep H5.out.2))
              clear hk
              go_wp2_with fail
              refine hc.out.mono ?_
              rintro e w6 ⟨rfl, hk⟩
              have H6 := Lib.hid (H5.out.keeps hk)
              clear hk
              go_wp2_with fail
              go_ret
              exact ⟨rfl, H6.out.2⟩
          · obtain ⟨hlk, hlS, hll⟩ := HH.out.2.1.lowest (by rw [HCQ.out]; omega)
            have hc := Lib.hid (stake HH.out.1.1 (HT.out.keep HH.out.1.2) lo hlk hlS hll)
            clear hlS hll
            go_wp2_with (go_at_call 26; refine hlen'.out.mono ?_; rintro e w' ⟨rfl, rfl⟩)
            all_goals
              refine hc.out.mono ?_
              rintro e w4 ⟨rfl, hk, hs⟩
              have H4 := Lib.hid (HH.out.1.act HG.out hk hs)
              have hhas := shas_nat H4.out.1 (lo : Int) lo rfl hlk
              rw [upd_at] at hhas
              have hhas' := Lib.hid hhas
              have hc := Lib.hid (sure02 w4 (HT.out.keep H4.out.2))
              clear hk hs hhas
              go_wp2_with (first | (go_at_call 25; refine hhas'.out.mono ?_; rintro e w' ⟨rfl, rfl⟩) | (go_at_call 23; refine hc.out.mono ?_; rintro e w6 ⟨rfl, hk6⟩))
              go_ret
              exact ⟨rfl, H4.out.2.trans' (by assumption)⟩

theorem slotsLowest_enter (W : World) (hT : Tab W) (hE : ErrT W) (n : Int) (_ : (Lit.int .i64 n).wf = true) (a : Option Addr) (c : Nat) (zs : List Int) (hr : Rd W a (zs.map fun z => Value.int .i64 z)) (hl : zs.length ≤ 9223372036854775807) (_ : ∀ z ∈ zs, (Lit.int .i64 z).wf = true) :
    Calls Tryd.prog 6 #[.int .i64 n, .slice a zs.length c] W (TruePost W) := slotsLowest_walk n a c zs W hT hE hr hl

/-- All are taken, but for the odd ones from i on. -/
def oddFrom (i : Nat) : Nat → Bool := fun y => !(decide (y % 2 = 1) && decide (i ≤ y))
theorem oddFrom_free (i : Nat) (h : i % 2 = 1) : upd (oddFrom (i + 1)) i false = oddFrom i := by
  funext y
  unfold upd oddFrom
  by_cases e : y = i
  · subst e; simp [h]
  · rw [if_neg e]; congr 2; rw [decide_eq_decide]; omega
theorem oddFrom_skip (i : Nat) (h : i % 2 = 0) : oddFrom (i + 1) = oddFrom i := by
  funext y
  unfold oddFrom
  by_cases e : y % 2 = 1
  · congr 2; rw [decide_eq_decide]; omega
  · simp [e]
theorem oddFrom_take (i : Nat) (h : i % 2 = 1) : upd (oddFrom i) i true = oddFrom (i + 2) := by
  funext y
  unfold upd oddFrom
  by_cases e : y = i
  · subst e; simp
  · rw [if_neg e]
    by_cases e2 : y % 2 = 1
    · congr 2; rw [decide_eq_decide]; omega
    · simp [e2]
theorem oddFrom_all (i k : Nat) (h : k ≤ i) : cnt (oddFrom i) k = k := cnt_all _ _ fun y hy => by simp [oddFrom]; omega

set_option maxHeartbeats 2000000 in
set_option maxRecDepth 100000 in
theorem slotsFull_walk (n : Int) (w : World) (hT : Tab w) (hE : ErrT w) :
    Calls Tryd.prog 7 #[.int .i64 n] w (TruePost w) := by
  have HT := Lib.hid hT
  have HE := Lib.hid hE
  have hg := hT.lt
  clear hT hE
  obtain ⟨hk1, hk2⟩ := kof_le n 300 (by decide)
  have HK := Lib.hid (kof_val n 300 (by decide) (by decide))
  generalize kof n 300 = k at *
  go_enter Tryd.func7, Tryd.ntmps7
  go_wp2_with fail
  rw [show (300 : Int) = ((300 : Nat) : Int) from rfl, HK.out]
  refine (snew _ k rfl w hk1 (by omega)).mono ?_
  rintro e w1 ⟨b, own, rfl, hs1, hge, hkp⟩
  have HG := Lib.hid hge
  have HS : Hid (SlLoop w b k own (below 0) w1) := ⟨hs1, hkp⟩
  clear hs1 hge hkp
  go_wp2_with fail
  go_loopw [6] (fun i wr => ∃ (j : Nat), j ≤ k ∧ i = .int .i64 (j : Int) ∧ SlLoop w b k own (below j) wr) (fun i _ => k - (intOf i).toNat)
  case atStart => exact ⟨0, Nat.zero_le _, rfl, HS.out⟩
  case round =>
    obtain ⟨j, hj, rfl, hs⟩ := hrel
    clear HS
    have HS := Lib.hid hs
    clear hs
    by_cases hlt : j < k
    · have hc := Lib.hid (take_next HS.out.1 (HT.out.keep HS.out.2) hlt)
      go_wp2_with fail
      refine hc.out.mono ?_
      rintro e w2 ⟨rfl, hk3, hs3⟩
      have H2 := Lib.hid (HS.out.act HG.out hk3 hs3)
      clear hk3 hs3
      go_wp2_with fail
      refine ⟨⟨j + 1, hlt, by go_num, H2.out⟩, by simp [intOf]; omega⟩
    · obtain rfl : j = k := by omega
      have H1 : Hid (SlLoop w b j own (oddFrom j) wr) := ⟨HS.out.1.congr fun y hy => by simp [below, oddFrom, hy], HS.out.2⟩
      clear HS hlt
      go_wp2_with fail
      go_loopw [9] (fun i wr2 => ∃ (q : Nat) (z : Int), q ≤ j ∧ i = .int .i64 z ∧ Hid (z = (q : Int) - 1) ∧ SlLoop w b j own (oddFrom q) wr2) (fun i _ => (intOf i + 1).toNat)
      case atStart => exact ⟨j, _, Nat.le_refl _, rfl, rfl, H1.out⟩
      case round =>
        obtain ⟨q, z, hq, rfl, hz, hs⟩ := hrel
        clear H1
        have HS := Lib.hid hs
        clear hs
        cases q with
        | zero =>
          obtain rfl : z = -1 := by rw [hz.out]; rfl
          have H1 : Hid (SlLoop w b j own (oddFrom 1) wr) := by
            show SlLoop w b j own (oddFrom 1) wr
            rw [oddFrom_skip 0 rfl]; exact HS.out
          clear HS hz
          go_wp2_with fail
          go_loopw [10] (fun i wr3 => ∃ (p : Nat), p % 2 = 1 ∧ p ≤ j + 1 ∧ i = .int .i64 (p : Int) ∧ SlLoop w b j own (oddFrom p) wr3) (fun i _ => j + 1 - (intOf i).toNat)
          case atStart => exact ⟨1, rfl, by omega, rfl, H1.out⟩
          case round =>
            obtain ⟨p, hp, hpj, rfl, hs⟩ := hrel
            clear H1
            have HS := Lib.hid hs
            have HP := Lib.hid hp
            clear hs hp
            by_cases hlt : p < j
            · have hc := Lib.hid (stake HS.out.1 (HT.out.keep HS.out.2) p hlt (by simp [oddFrom, HP.out]) (fun y hy => by simp [oddFrom]; omega))
              go_wp2_with fail
              refine hc.out.mono ?_
              rintro e w2 ⟨rfl, hk3, hs3⟩
              rw [oddFrom_take p HP.out] at hs3
              have H2 := Lib.hid (HS.out.act HG.out hk3 hs3)
              clear hk3 hs3
              go_wp2_with fail
              refine ⟨⟨p + 2, by have := HP.out; omega, by omega, by first | rfl | go_num, H2.out⟩, by simp [intOf]; try omega⟩
            · have hcn := oddFrom_all p j (by omega)
              have hc := Lib.hid (take_none HS.out.1 hcn)
              have HCN := Lib.hid hcn
              clear hcn
              go_wp2_with fail
              refine hc.out.mono ?_
              rintro e w2 ⟨rfl, hk3, hs3⟩
              have H2 := Lib.hid (show SlLoop w b j own _ w2 from ⟨hs3, HS.out.2.trans' hk3⟩)
              clear hk3 hs3 hlt
              go_wp2_with fail
              refine (num02_val 16 w2 (HE.out.keep H2.out.2)).mono ?_
              rintro e w3 ⟨rfl, hk⟩
              have H3 := Lib.hid (H2.out.keeps hk)
              have hlen := slen H3.out.1
              rw [HCN.out] at hlen
              have hlen' := Lib.hid hlen
              have hc := Lib.hid (sure02 w3 (HT.out.keep H3.out.2))
              clear hk hlen
              go_wp2_with (first | (go_at_call 26; refine hlen'.out.mono ?_; rintro e w' ⟨rfl, rfl⟩) | (go_at_call 23; refine hc.out.mono ?_; rintro e w6 ⟨rfl, hk6⟩))
              go_ret
              exact ⟨rfl, H3.out.2.trans' (by assumption)⟩
        | succ q =>
          obtain rfl : z = (q : Int) := by rw [hz.out]; omega
          clear hz
          by_cases hodd : q % 2 = 1
          · have hb : (((q : Int) % 2) == 1) = true := by rw [beq_iff_eq]; omega
            have hc := Lib.hid (free_yes HS.out.1 (q : Int) q rfl (by omega) (by simp [oddFrom]))
            have HODD := Lib.hid hodd
            clear hodd
            go_wp2_with fail
            refine hc.out.mono ?_
            rintro e w2 ⟨rfl, hk3, hs3⟩
            rw [oddFrom_free q HODD.out] at hs3
            have H2 := Lib.hid (HS.out.act HG.out hk3 hs3)
            clear hk3 hs3
            go_wp2_with fail
            refine ⟨⟨q, _, by omega, rfl, rfl, H2.out⟩, by simp [intOf]⟩
          · have hb : (((q : Int) % 2) == 1) = false := by rw [beq_eq_false_iff_ne]; omega
            have hs3 := HS.out
            rw [oddFrom_skip q (by omega)] at hs3
            have H2 := Lib.hid hs3
            clear hs3 hodd
            go_wp2_with fail
            refine ⟨⟨q, _, by omega, rfl, rfl, H2.out⟩, by simp [intOf]⟩

theorem slotsFull_enter (W : World) (hT : Tab W) (hE : ErrT W) (n : Int) (_ : (Lit.int .i64 n).wf = true) :
    Calls Tryd.prog 7 #[.int .i64 n] W (TruePost W) := slotsFull_walk n W hT hE
end Go.Proofs.YtiphdlhnoceeiaaDoor
