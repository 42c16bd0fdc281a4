/- Chapter 2's laws: SlotsRuns. -/
import Derived.Test.YtiphdlhnoceeiaaDoorL2b
import Derived.Test.YtiphdlhnoceeiaaDoorL2d
import Derived.Deep.RegionHeld3
import Derived.Deep.RegionWith
import Derived.Deep.DeepCutAuto
import Derived.Deep.CutBlock
namespace Go.Proofs.YtiphdlhnoceeiaaDoor
open Go Go.RowKit
set_option linter.unusedVariables false
set_option linter.unusedSimpArgs false

/-- The reference's Take: the lowest place that is not taken; none: 0 and false. -/
def RefTake (S : Nat → Bool) (k : Nat) (z : Nat) (f : Bool) : Prop :=
  (f = true ∧ z < k ∧ S z = false ∧ ∀ y, y < z → S y = true) ∨ (f = false ∧ z = 0 ∧ ∀ y, y < k → S y = true)
def RefTakePost (S : Nat → Bool) (k : Nat) (w : World) (e : Ending) (w' : World) : Prop := ∃ z f, RefTake S k z f ∧ e = .returned (.tuple #[.int .i64 (z : Int), .bool f]) ∧ w = w'
theorem refTake (a : Option Addr) (c k : Nat) (S : Nat → Bool) (w : World) (hr : Rd w a (bools S k)) (hk : k ≤ 10000000) :
    Calls Tryd.prog 37 #[.slice a k c] w (RefTakePost S k w) := by
  have HR := Lib.hid hr
  clear hr
  go_enter Tryd.func37, Tryd.ntmps37
  go_wp2_with fail
  go_loopw [4] (fun i wr => w = wr ∧ ∃ f : Nat, f ≤ k ∧ i = .int .i64 (f : Int) ∧ Hid (∀ y, y < f → S y = true)) (fun i _ => k - (intOf i).toNat)
  case atStart => exact ⟨rfl, 0, Nat.zero_le _, rfl, fun y h => absurd h (by omega)⟩
  case round =>
    obtain ⟨rfl, f, hf, rfl, hlo⟩ := hrel
    by_cases hlt : f < k
    · obtain ⟨ab, off, rfl, hc⟩ := HR.out.at_ f (by rw [bools_length]; exact hlt)
      have hcj := hc f (by rw [bools_length]; exact hlt)
      rw [bools_get _ _ _ hlt] at hcj
      clear hc
      cases hS : S f with
      | true =>
        have HS := Lib.hid hS
        rw [hS] at hcj
        clear hS
        go_wp2_with fail
        refine ⟨⟨trivial, f + 1, hlt, by go_num, fun y hy => ?_⟩, by simp [intOf]; omega⟩
        by_cases e : y = f
        · subst e; exact HS.out
        · exact hlo.out y (by omega)
      | false =>
        have HS := Lib.hid hS
        rw [hS] at hcj
        clear hS
        go_wp2_with fail
        go_ret2
        exact ⟨f, true, .inl ⟨rfl, hlt, HS.out, hlo.out⟩, rfl, rfl⟩
    · obtain rfl : f = k := by omega
      go_wp2_with fail
      go_ret2
      exact ⟨0, false, .inr ⟨rfl, rfl, hlo.out⟩, rfl, rfl⟩

theorem refClaim (a : Option Addr) (c k : Nat) (S : Nat → Bool) (x : Int) (w : World) (hr : Rd w a (bools S k)) (hk : k ≤ 10000000) :
    Calls Tryd.prog 38 #[.slice a k c, .int .i64 x] w fun e w' => e = .returned (.int .i64 (claimErr S k x : Nat)) ∧ w = w' := by
  by_cases hx : x < 0 ∨ (k : Int) ≤ x
  · have he : claimErr S k x = 12 := by unfold claimErr; rw [if_pos hx]
    rw [he]
    clear he hr
    rcases hx with hx | hx
    all_goals
      go_enter Tryd.func38, Tryd.ntmps38
      go_wp2_with fail
      go_ret
      exact ⟨rfl, rfl⟩
  · obtain ⟨y, rfl⟩ := Int.eq_ofNat_of_zero_le (show 0 ≤ x by omega)
    have hy : y < k := by omega
    obtain ⟨ab, off, rfl, hc⟩ := hr.at_ y (by rw [bools_length]; exact hy)
    have hcj := hc y (by rw [bools_length]; exact hy)
    rw [bools_get _ _ _ hy] at hcj
    clear hc hr hx
    cases hS : S y with
    | true =>
      rw [claimErr_same hy hS]
      rw [hS] at hcj
      clear hS
      go_enter Tryd.func38, Tryd.ntmps38
      go_wp2_with fail
      go_ret
      exact ⟨rfl, rfl⟩
    | false =>
      rw [claimErr_ok hy hS]
      rw [hS] at hcj
      clear hS
      go_enter Tryd.func38, Tryd.ntmps38
      go_wp2_with fail
      go_ret
      exact ⟨rfl, rfl⟩
theorem refFree (a : Option Addr) (c k : Nat) (S : Nat → Bool) (x : Int) (w : World) (hr : Rd w a (bools S k)) (hk : k ≤ 10000000) :
    Calls Tryd.prog 39 #[.slice a k c, .int .i64 x] w fun e w' => e = .returned (.int .i64 (freeErr S k x : Nat)) ∧ w = w' := by
  by_cases hx : x < 0 ∨ (k : Int) ≤ x
  · have he : freeErr S k x = 12 := by unfold freeErr; rw [if_pos hx]
    rw [he]
    clear he hr
    rcases hx with hx | hx
    all_goals
      go_enter Tryd.func39, Tryd.ntmps39
      go_wp2_with fail
      go_ret
      exact ⟨rfl, rfl⟩
  · obtain ⟨y, rfl⟩ := Int.eq_ofNat_of_zero_le (show 0 ≤ x by omega)
    have hy : y < k := by omega
    obtain ⟨ab, off, rfl, hc⟩ := hr.at_ y (by rw [bools_length]; exact hy)
    have hcj := hc y (by rw [bools_length]; exact hy)
    rw [bools_get _ _ _ hy] at hcj
    clear hc hr hx
    cases hS : S y with
    | true =>
      rw [freeErr_ok hy hS]
      rw [hS] at hcj
      clear hS
      go_enter Tryd.func39, Tryd.ntmps39
      go_wp2_with fail
      go_ret
      exact ⟨rfl, rfl⟩
    | false =>
      rw [freeErr_apart hy hS]
      rw [hS] at hcj
      clear hS
      go_enter Tryd.func39, Tryd.ntmps39
      go_wp2_with fail
      go_ret
      exact ⟨rfl, rfl⟩

theorem Keeps.cell2 {w w' : World} {a b : Addr} {u v : Value} (h : Keeps (fun _ => False) w w') (hc : w.cell? a = some u ∧ w.cell? b = some v) : w'.cell? a = some u ∧ w'.cell? b = some v :=
  ⟨(World.cell?_of_block (h.block _ (World.block_lt_of_cell? w _ hc.1) id)).trans hc.1, (World.cell?_of_block (h.block _ (World.block_lt_of_cell? w _ hc.2) id)).trans hc.2⟩
theorem Keeps.cell1 {w w' : World} {a : Addr} {u : Value} (h : Keeps (fun _ => False) w w') (hc : w.cell? a = some u) : w'.cell? a = some u :=
  (World.cell?_of_block (h.block _ (World.block_lt_of_cell? w _ hc) id)).trans hc
/-- Acts as values, two a piece. -/
def acts (l : List (Int × Int)) : List Value := l.flatMap fun p => [Value.int .i64 p.1, .int .i64 p.2]
theorem acts_length (l : List (Int × Int)) : (acts l).length = l.length * 2 := by
  induction l with
  | nil => rfl
  | cons p l ih => simp only [acts, List.flatMap_cons] at ih ⊢; simp [ih]; omega
theorem acts_get (l : List (Int × Int)) (i : Nat) (h : i < l.length) : (acts l)[i * 2]? = some (.int .i64 l[i].1) ∧ (acts l)[i * 2 + 1]? = some (.int .i64 l[i].2) := by
  induction l generalizing i with
  | nil => simp at h
  | cons p l ih =>
    cases i with
    | zero => simp [acts]
    | succ i =>
      have := ih i (by simpa using h)
      simp only [acts, List.flatMap_cons] at this ⊢
      rw [List.getElem?_append_right (by simp; omega), List.getElem?_append_right (by simp; omega)]
      simp only [List.length_cons, List.length_nil, List.getElem_cons_succ]
      rw [show (i + 1) * 2 - (0 + 1 + 1) = i * 2 from by omega, show (i + 1) * 2 + 1 - (0 + 1 + 1) = i * 2 + 1 from by omega]
      exact this


theorem hasAt_out (S : Nat → Bool) (n : Nat) (x : Int) (h : ¬ (0 ≤ x ∧ x < n)) : hasAt S n x = false := by unfold hasAt; simp; omega
theorem free_zero {S : Nat → Bool} {k : Nat} {z : Int} (h : freeErr S k z = 0) : ∃ y : Nat, z = y ∧ y < k ∧ S y = true := by
  unfold freeErr at h
  by_cases hz : z < 0 ∨ (k : Int) ≤ z
  · rw [if_pos hz] at h; exact absurd h (by decide)
  · rw [if_neg hz] at h
    refine ⟨z.toNat, by omega, by omega, ?_⟩
    cases e : S z.toNat with
    | true => rfl
    | false => rw [e] at h; simp at h

theorem Blk.keep {w w' : World} {b : Nat} {cs : Array Value} {t : TypeId} (h : Blk w b cs t) (hk : Keeps (fun _ => False) w w') : Blk w' b cs t := h.kept hk id
theorem Both.quiet {w wr w2 : World} {b k : Nat} {own : Nat → Prop} {S : Nat → Bool} {v : Value} (h : Both w b k own S v wr) (hk : Keeps (fun _ => False) wr w2) : Both w b k own S v w2 :=
  ⟨h.sl.keep hk, ownsRow_kept h.row hk (fun _ _ => id), h.apart, h.keep.trans' hk⟩

/-- Behind the act: both lists, and the act's own block. -/
def ActCut (w : World) (b k : Nat) (own : Nat → Prop) (pb : Nat) (kind x : Int) (t : Value) (wc : World) : Prop :=
  ∃ T ta tc, t = .slice ta k tc ∧ Both w b k own T t wc ∧ Blk wc pb #[.int .i64 kind, .int .i64 x] 57
theorem ActCut.at_ {w wc : World} {b k : Nat} {own : Nat → Prop} {pb : Nat} {kind x : Int} {T : Nat → Bool} {t : Value} (hB : Both w b k own T t wc) (hA : Blk wc pb #[.int .i64 kind, .int .i64 x] 57) : ActCut w b k own pb kind x t wc := by
  obtain ⟨ta, tc, rfl, _⟩ := hB.row.rd
  exact ⟨T, ta, tc, rfl, hB, hA⟩

set_option maxHeartbeats 4000000 in
set_option maxRecDepth 100000 in
theorem slotsRuns_walk (n : Int) (a : Option Addr) (c : Nat) (ls : List (Int × Int)) (w : World) (hT : Tab w) (hE : ErrT w) (hr : Rd w a (acts ls)) (hl : ls.length ≤ 9223372036854775807) :
    Calls Tryd.prog 9 #[.int .i64 n, .slice a ls.length c] w (TruePost w) := by
  obtain ⟨i0, hi, hz0, hz1, hz2⟩ := info_parts info4
  have HT := Lib.hid hT
  have HE := Lib.hid hE
  have HR := Lib.hid hr
  have hg := hT.lt
  clear hT hr hE
  obtain ⟨hk1, hk2⟩ := kof_le n 200 (by decide)
  have HK := Lib.hid (kof_val n 200 (by decide) (by decide))
  generalize kof n 200 = k at *
  go_enter Tryd.func9, Tryd.ntmps9
  go_wp2_with fail
  rw [show (200 : Int) = ((200 : Nat) : Int) from rfl, HK.out]
  refine (snew _ k rfl w hk1 (by omega)).mono ?_
  rintro e w1 ⟨b, own, rfl, hs1, hge, hkp⟩
  have HG := Lib.hid hge
  have hws := hkp.size
  have HST : Hid (Both w b k own (fun _ => false) (.slice (some ⟨w1.heap.size, 0, none⟩) k k) (w1.alloc (.cells (Array.replicate k (.bool false)) 4))) := by
    have hrow := ownsRow_full w1 w.heap.size 4 (bools (fun _ => false) k) hws (by rw [bools_length]; unfold maxLen; omega)
    rw [bools_length, bools_none, List.toArray_replicate] at hrow
    refine ⟨hs1.keep ((Keeps.refl _ _).alloc _), ?_, fun g hg ho => ?_, hkp.alloc _⟩
    · unfold TRow; rw [bools_none]; exact hrow
    · simp [Value.ownBlock] at hg
      have := hs1.lt g ho
      omega
  clear hs1 hge hkp
  go_wp2_with (at_make; refine wpList_mk1 rfl _ _ 29 rfl 4 i0 (.bool false) 1 Tryd.underlying29 hi hz0 hz1 hz2 rfl k .i64 .i64 _ _ rfl rfl rfl rfl (by omega) (by omega) ?_)
  go_loopw [8, 9] (fun t i wr => ∃ (j : Nat) (S : Nat → Bool), j ≤ ls.length ∧ i = .int .i64 (j : Int) ∧ Both w b k own S t wr) (fun _ i _ => ls.length - (intOf i).toNat)
  case atStart => exact ⟨0, _, Nat.zero_le _, rfl, HST.out⟩
  case round =>
    obtain ⟨j, S, hj, rfl, hs⟩ := hrel
    clear HST
    have HS := Lib.hid hs
    obtain ⟨ta, tc, rfl, htr⟩ := hs.row.rd
    have HTR := Lib.hid htr
    clear hs htr
    by_cases hlt : j < ls.length ∧ j < 300
    · obtain ⟨hlt, hlt2⟩ := hlt
      obtain ⟨ab, off, rfl, hc⟩ := (HR.out.keep HS.out.keep).at_ (j * 2) (by rw [acts_length]; omega)
      have hc1 := hc (j * 2) (by rw [acts_length]; omega)
      have hc2 := hc (j * 2 + 1) (by rw [acts_length]; omega)
      obtain ⟨hg1, hg2⟩ := acts_get ls j hlt
      rw [hg1] at hc1
      rw [hg2, ← Nat.add_assoc] at hc2
      clear hc hg1 hg2
      have HM := Lib.hid (mod_val ls[j].1 9 (by decide) (by decide))
      have hm9 := Nat.mod_lt (unsg ls[j].1) (show 0 < 9 by decide)
      generalize ls[j].1 = kind at *
      generalize ls[j].2 = x at *
      generalize unsg kind % 9 = m at *
      have HA : Hid (Blk (wr.alloc (.cells #[.int .i64 kind, .int .i64 x] 57)) wr.heap.size #[.int .i64 kind, .int .i64 x] 57) := Blk.new wr _ _
      have HNO : Hid (¬ own wr.heap.size) := fun h => by have := HS.out.sl.lt _ h; omega
      have HB0 : Hid (Both w b k own S (.slice ta k tc) (wr.alloc (.cells #[.int .i64 kind, .int .i64 x] 57))) :=
        ⟨HS.out.sl.keep ((Keeps.refl _ _).alloc _), ownsRow_kept HS.out.row ((Keeps.refl (fun _ => False) _).alloc _) (fun _ _ => id), HS.out.apart, HS.out.keep.alloc _⟩
      have HTR0 : Hid (Rd (wr.alloc (.cells #[.int .i64 kind, .int .i64 x] 57)) ta (bools S k)) := HTR.out.keep ((Keeps.refl _ _).alloc _)

      go_upto_block 2 with fail
      have hAk : (wr.alloc (.cells #[.int .i64 kind, .int .i64 x] 57)).cell? ⟨wr.heap.size, 0, none⟩ = some (.int .i64 kind) := by rw [HA.out.cell]; rfl
      rw [show (9 : Int) = ((9 : Nat) : Int) from rfl, HM.out]
      go_cut [8] (fun t wc => ActCut w b k own wr.heap.size kind x t wc)
      case first =>
        by_cases hm4 : m < 4
        · by_cases hfull : cnt S k = k
          · have hcc := Lib.hid (take_none HB0.out.sl hfull)
            have HF := Lib.hid hfull
            clear hfull
            go_wp2_with fail
            refine hcc.out.mono ?_
            rintro e w2 ⟨he, hk, hs⟩
            obtain rfl : e = .returned (.tuple #[.int .i64 0, .iface 92 (.int .i64 16)]) := he
            have HB2 := Lib.hid (HB0.out.skip HG.out (hk.mono (fun _ _ h => h.elim)) hs rfl)
            have HA2 := Lib.hid (HA.out.keep hk)
            have hrt := Lib.hid (refTake ta tc k S w2 (HTR0.out.keep hk) (by omega))
            clear hk hs
            go_wp2_with fail
            refine hrt.out.mono ?_
            rintro e w' ⟨z, f, hzf, rfl, rfl⟩
            obtain ⟨rfl, rfl⟩ : z = 0 ∧ f = false := by
              rcases hzf with ⟨_, h1, h2, _⟩ | ⟨h1, h2, _⟩
              · have := cnt_full S k HF.out z h1; rw [h2] at this; exact absurd this (by decide)
              · exact ⟨h2, h1⟩
            clear hzf
            go_wp2_with fail
            refine (num02_err 16 w2 (HE.out.keep HB2.out.keep)).mono ?_
            rintro e w3 ⟨rfl, hk⟩
            have HB3 := Lib.hid (HB2.out.quiet hk)
            have HA3 := Lib.hid (HA2.out.keep hk)
            clear hk
            go_wp2_with fail
            go_meet
            exact ActCut.at_ HB3.out HA3.out
          · obtain ⟨z, hzk, hSz, hlo⟩ := lowest S k (by have := cnt_le S k; omega)
            have hcc := Lib.hid (stake HB0.out.sl (HT.out.keep HB0.out.keep) z hzk hSz hlo)
            have HLO := Lib.hid (And.intro hSz hlo)
            clear hfull hSz hlo
            go_wp2_with fail
            refine hcc.out.mono ?_
            rintro e w2 ⟨rfl, hk, hs⟩
            have H2 := Lib.hid (And.intro hk hs)
            have HA2 := Lib.hid (HA.out.kept hk HNO.out)
            have HTR2 := Lib.hid (HTR0.out.kept hk (fun bb off e => HB0.out.apart bb (by simp [Value.ownBlock, e])))
            have hrt := Lib.hid (refTake ta tc k S w2 HTR2.out (by omega))
            have hwi := Lib.hid (refWith ta tc k S (z : Int) z rfl true w2 HTR2.out hzk (by omega))
            clear hk hs
            go_wp2_with fail
            refine hrt.out.mono ?_
            rintro e w' ⟨z', f, hzf, rfl, rfl⟩
            obtain ⟨rfl, rfl⟩ : z' = z ∧ f = true := by
              rcases hzf with ⟨h0, h1, h2, h3⟩ | ⟨h1, h2, h3⟩
              · refine ⟨?_, h0⟩
                by_cases e1 : z' < z
                · have := HLO.out.2 z' e1; rw [h2] at this; exact absurd this (by decide)
                · by_cases e2 : z < z'
                  · have := h3 z e2; rw [HLO.out.1] at this; exact absurd this (by decide)
                  · omega
              · have := h3 z hzk; rw [HLO.out.1] at this; exact absurd this (by decide)
            clear hzf
            go_wp2_with fail
            refine hwi.out.mono ?_
            rintro e w4 ⟨v4, rfl, hr4, hk4⟩
            have HE4 := Lib.hid (HB0.out.next HG.out H2.out.1 H2.out.2 hr4 hk4)
            have HA4 := Lib.hid (HA2.out.keep hk4)
            clear hr4 hk4
            go_wp2_with fail
            go_meet
            exact ActCut.at_ HE4.out HA4.out
        · by_cases hm6 : m < 6
          · have hcx : (wr.alloc (.cells #[.int .i64 kind, .int .i64 x] 57)).cell? ⟨wr.heap.size, 1, none⟩ = some (.int .i64 x) := by rw [HA.out.cell]; rfl
            generalize hW : wr.alloc (.cells #[.int .i64 kind, .int .i64 x] 57) = w0 at *
            have HSL := Lib.hid (sclaim HB0.out.sl x)
            have HRF := Lib.hid (refClaim ta tc k S x w0 HTR0.out (by omega))
            by_cases hce : claimErr S k x = 0
            · obtain ⟨y, rfl, hyk, hSy⟩ := claim_zero hce
              have HCE := Lib.hid hce
              clear hce hSy
              go_wp2_with fail
              refine HRF.out.mono ?_
              rintro e w' ⟨rfl, rfl⟩
              rw [HCE.out]
              go_wp2_with fail
              refine HSL.out.mono ?_
              rintro e w2 ⟨he, hk, hs⟩
              rw [HCE.out] at he hs
              simp only [if_true] at hs
              obtain rfl : e = .returned .nilIface := he
              rw [Int.toNat_natCast] at hs
              have H2 := Lib.hid (And.intro hk hs)
              have HA2 := Lib.hid (HA.out.kept hk HNO.out)
              have HK2 := Lib.hid (HB0.out.keep.thin hk HG.out)
              have HTR2 := Lib.hid (HTR0.out.kept hk (fun bb off e => HB0.out.apart bb (by simp [Value.ownBlock, e])))
              clear hk hs
              go_wp2_with fail
              refine (num02_nil w2).mono ?_
              rintro e w3 ⟨rfl, hk⟩
              have H3 := Lib.hid (And.intro (H2.out.1.trans' (hk.mono (fun _ _ h => h.elim))) (H2.out.2.keep hk))
              have HA3 := Lib.hid (HA2.out.keep hk)
              have HTR3 := Lib.hid (HTR2.out.keep hk)
              have hax : w3.cell? ⟨wr.heap.size, 1, none⟩ = some (.int .i64 (y : Int)) := by rw [HA3.out.cell]; rfl
              have hwi := Lib.hid (refWith ta tc k S (y : Int) y rfl true w3 HTR3.out hyk (by omega))
              clear hk
              go_wp2_with fail
              refine hwi.out.mono ?_
              rintro e w4 ⟨v4, rfl, hr4, hk4⟩
              have HE4 := Lib.hid (HB0.out.next HG.out H3.out.1 H3.out.2 hr4 hk4)
              have HA4 := Lib.hid (HA3.out.keep hk4)
              clear hr4 hk4 hax
              go_wp2_with fail
              go_meet
              exact ActCut.at_ HE4.out HA4.out
            · have HCE := Lib.hid hce
              have hcb : (((claimErr S k x : Nat) : Int) == 0) = false := by rw [beq_eq_false_iff_ne]; omega
              generalize claimErr S k x = ce at *
              clear hce
              go_wp2_with fail
              refine HRF.out.mono ?_
              rintro e w' ⟨rfl, rfl⟩
              go_wp2_with fail
              refine HSL.out.mono ?_
              rintro e w2 ⟨he, hk, hs⟩
              rw [if_neg HCE.out] at hs
              obtain rfl := he
              have HA2 := Lib.hid (HA.out.kept hk HNO.out)
              have HB2 := Lib.hid (HB0.out.skip HG.out hk hs rfl)
              clear hk hs
              go_wp2_with fail
              refine (num02_val ce w2 (HE.out.keep HB2.out.keep)).mono ?_
              rintro e w3 ⟨rfl, hk⟩
              have HB3 := Lib.hid (HB2.out.quiet hk)
              have HA3 := Lib.hid (HA2.out.keep hk)
              clear hk
              go_wp2_with fail
              go_meet
              exact ActCut.at_ HB3.out HA3.out
          · have hcx : (wr.alloc (.cells #[.int .i64 kind, .int .i64 x] 57)).cell? ⟨wr.heap.size, 1, none⟩ = some (.int .i64 x) := by rw [HA.out.cell]; rfl
            generalize hW : wr.alloc (.cells #[.int .i64 kind, .int .i64 x] 57) = w0 at *
            have HSL := Lib.hid (sfree HB0.out.sl x)
            have HRF := Lib.hid (refFree ta tc k S x w0 HTR0.out (by omega))
            by_cases hce : freeErr S k x = 0
            · obtain ⟨y, rfl, hyk, hSy⟩ := free_zero hce
              have HCE := Lib.hid hce
              clear hce hSy
              go_wp2_with fail
              refine HRF.out.mono ?_
              rintro e w' ⟨rfl, rfl⟩
              rw [HCE.out]
              go_wp2_with fail
              refine HSL.out.mono ?_
              rintro e w2 ⟨he, hk, hs⟩
              rw [HCE.out] at he hs
              simp only [if_true] at hs
              obtain rfl : e = .returned .nilIface := he
              rw [Int.toNat_natCast] at hs
              have H2 := Lib.hid (And.intro hk hs)
              have HA2 := Lib.hid (HA.out.kept hk HNO.out)
              have HK2 := Lib.hid (HB0.out.keep.thin hk HG.out)
              have HTR2 := Lib.hid (HTR0.out.kept hk (fun bb off e => HB0.out.apart bb (by simp [Value.ownBlock, e])))
              clear hk hs
              go_wp2_with fail
              refine (num02_nil w2).mono ?_
              rintro e w3 ⟨rfl, hk⟩
              have H3 := Lib.hid (And.intro (H2.out.1.trans' (hk.mono (fun _ _ h => h.elim))) (H2.out.2.keep hk))
              have HA3 := Lib.hid (HA2.out.keep hk)
              have HTR3 := Lib.hid (HTR2.out.keep hk)
              have hax : w3.cell? ⟨wr.heap.size, 1, none⟩ = some (.int .i64 (y : Int)) := by rw [HA3.out.cell]; rfl
              have hwi := Lib.hid (refWith ta tc k S (y : Int) y rfl false w3 HTR3.out hyk (by omega))
              clear hk
              go_wp2_with fail
              refine hwi.out.mono ?_
              rintro e w4 ⟨v4, rfl, hr4, hk4⟩
              have HE4 := Lib.hid (HB0.out.next HG.out H3.out.1 H3.out.2 hr4 hk4)
              have HA4 := Lib.hid (HA3.out.keep hk4)
              clear hr4 hk4 hax
              go_wp2_with fail
              go_meet
              exact ActCut.at_ HE4.out HA4.out
            · have HCE := Lib.hid hce
              have hcb : (((freeErr S k x : Nat) : Int) == 0) = false := by rw [beq_eq_false_iff_ne]; omega
              generalize freeErr S k x = ce at *
              clear hce
              go_wp2_with fail
              refine HRF.out.mono ?_
              rintro e w' ⟨rfl, rfl⟩
              go_wp2_with fail
              refine HSL.out.mono ?_
              rintro e w2 ⟨he, hk, hs⟩
              rw [if_neg HCE.out] at hs
              obtain rfl := he
              have HA2 := Lib.hid (HA.out.kept hk HNO.out)
              have HB2 := Lib.hid (HB0.out.skip HG.out hk hs rfl)
              clear hk hs
              go_wp2_with fail
              refine (num02_val ce w2 (HE.out.keep HB2.out.keep)).mono ?_
              rintro e w3 ⟨rfl, hk⟩
              have HB3 := Lib.hid (HB2.out.quiet hk)
              have HA3 := Lib.hid (HA2.out.keep hk)
              clear hk
              go_wp2_with fail
              go_meet
              exact ActCut.at_ HB3.out HA3.out
      case rest =>
        obtain ⟨T, ta2, tc2, rfl, hB, hA⟩ := hcut
        have HB := Lib.hid hB
        have HA2 := Lib.hid hA
        obtain ⟨ta3, tc3, htt, htr2⟩ := hB.row.rd
        simp only [Value.slice.injEq, true_and] at htt
        obtain ⟨rfl, rfl⟩ := htt
        have HTR2 := Lib.hid htr2
        clear hB hA htr2
        have hlen := Lib.hid (slen (HB.out.sl.keep ((Keeps.refl _ _).drew)))
        have hall := Lib.hid (fun W (hk : Keeps (fun _ => False) wc W) => refAll ta2 tc2 k T W (HTR2.out.keep hk) (by omega))
        have hhas := Lib.hid (fun W (hk : Keeps (fun _ => False) wc W) => shas (HB.out.sl.keep hk) x)
        have hcx : wc.cell? ⟨wr.heap.size, 1, none⟩ = some (.int .i64 x) := by rw [HA2.out.cell]; rfl
        have hcb := cnt_le T k
        have hal : Hid ((allOf T k).length = cnt T k) := rfl
        clear hc1 hc2 HM hm9 HA HB0 HTR0 hAk
        by_cases hxr : 0 ≤ x ∧ x < k
        · obtain ⟨hx0, hxk⟩ := hxr
          obtain ⟨y, rfl⟩ := Int.eq_ofNat_of_zero_le hx0
          obtain ⟨tb, tof, rfl, htc⟩ := HTR2.out.at_ y (by rw [bools_length]; omega)
          have hty := htc y (by rw [bools_length]; omega)
          rw [bools_get _ _ _ (by omega)] at hty
          clear htc
          have hhv := hasAt_nat T k y (by omega)
          rw [hhv] at hhas
          clear hhv
          go_wp2_with fail
          go_region_held3 (fun w' => w'.cell? ⟨wr.heap.size, 1, none⟩ = some (.int .i64 (y : Int)) ∧ w'.cell? ⟨tb, tof + y, none⟩ = some (.bool (T y)))
            (first | go_keep | (exact Keeps.cell2 (by assumption) (by assumption)))
            (first | (go_at_call 26; refine hlen.out.mono ?_; rintro e w' ⟨rfl, rfl⟩) | (go_at_call 22; refine (hall.out _ ((Keeps.refl _ _).drew)).mono ?_; rintro e w4 ⟨v4, rfl, ho4, hk4⟩; obtain ⟨a4, c4, rfl⟩ := ownsRow_slice ho4; clear ho4; rw [hal.out]) | (go_at_call 25; refine (hhas.out _ (((Keeps.refl _ _).drew).trans' (by assumption))).mono ?_; rintro e w' ⟨rfl, rfl⟩))
          go_wp2_with fail
          refine ⟨⟨j + 1, T, hlt, by go_num, HB.out.quiet (((Keeps.refl _ _).drew).trans' (by assumption))⟩, by simp [intOf]; omega⟩
        · have hhv : hasAt T k x = false := hasAt_out T k x hxr
          rw [hhv] at hhas
          clear hhv
          by_cases hx : x < 0
          · have d1 : decide (x ≥ 0) = false := by simp; omega
            have d2 : decide (0 ≤ x) = false := by simp; omega
            go_wp2_with fail
            refine wp_region_held_drew (S := (fun w' => w'.cell? ⟨wr.heap.size, 1, none⟩ = some (.int .i64 x))) (by kernel_rfl) (hcx) (fun hHeld => ?_)
            refine wpAnyH_take (i := 0) (v := ?_) rfl (by kernel_rfl) (by kernel_rfl) (by kernel_rfl) (fun _ _ _ h => h) (Or.inl ⟨by rfl, ?_⟩) (by assumption) ?_
            rotate_left
            · (intro w hSw; (try dsimp only at hSw); simp only [List.getElem_toArray, List.getElem_cons_zero, List.getElem_cons_succ]; go_simp <;> with_reducible rfl)
            try simp only [Act.put, List.getElem_toArray, List.getElem_cons_zero, List.getElem_cons_succ, List.setIfInBounds_toArray, List.set_cons_zero, List.set_cons_succ]
            refine wpAnyH_take (i := 2) (v := ?_) rfl (by kernel_rfl) (by kernel_rfl) (by kernel_rfl) (fun _ _ _ h => h) (Or.inl ⟨by rfl, ?_⟩) (by assumption) ?_
            rotate_left
            · (intro w hSw; (try dsimp only at hSw); simp only [List.getElem_toArray, List.getElem_cons_zero, List.getElem_cons_succ]; go_simp <;> with_reducible rfl)
            try simp only [Act.put, List.getElem_toArray, List.getElem_cons_zero, List.getElem_cons_succ, List.setIfInBounds_toArray, List.set_cons_zero, List.set_cons_succ]
            refine wpAnyH_ready (rs := [1]) (by kernel_rfl) (by simp) (AllReadyH.cons rfl (fun K hK => ?_) AllReadyH.nil)
            try simp only [List.getElem_toArray, List.getElem_cons_zero, List.getElem_cons_succ]
            go_simp
            refine hlen.out.mono ?_
            rintro e w' ⟨rfl, rfl⟩
            try go_wp2_with fail
            refine hK.out _ _ ?_ (fun hHeld => ?_)
            · (first | assumption | go_keep | (exact Keeps.cell1 (by assumption) (by assumption)))
            clear hK K
            try simp only [Act.put, List.getElem_toArray, List.getElem_cons_zero, List.getElem_cons_succ, List.setIfInBounds_toArray, List.set_cons_zero, List.set_cons_succ]
            refine wpAnyH_ready (rs := [3]) (by kernel_rfl) (by simp) (AllReadyH.cons rfl (fun K hK => ?_) AllReadyH.nil)
            try simp only [List.getElem_toArray, List.getElem_cons_zero, List.getElem_cons_succ]
            go_simp
            refine (hall.out _ ((Keeps.refl _ _).drew)).mono ?_
            rintro e w4 ⟨v4, rfl, ho4, hk4⟩
            obtain ⟨a4, c4, rfl⟩ := ownsRow_slice ho4
            clear ho4
            rw [hal.out]
            try go_wp2_with fail
            refine hK.out _ _ ?_ (fun hHeld => ?_)
            · (first | assumption | go_keep | (exact Keeps.cell1 (by assumption) (by assumption)))
            clear hK K
            try simp only [Act.put, List.getElem_toArray, List.getElem_cons_zero, List.getElem_cons_succ, List.setIfInBounds_toArray, List.set_cons_zero, List.set_cons_succ]
            refine wpAnyH_take (i := 4) (v := ?_) rfl (by kernel_rfl) (by kernel_rfl) (by kernel_rfl) (fun _ _ _ h => h) (Or.inl ⟨by rfl, ?_⟩) (by assumption) ?_
            rotate_left
            · (intro w hSw; (try dsimp only at hSw); simp only [List.getElem_toArray, List.getElem_cons_zero, List.getElem_cons_succ]; go_simp <;> with_reducible rfl)
            try simp only [Act.put, List.getElem_toArray, List.getElem_cons_zero, List.getElem_cons_succ, List.setIfInBounds_toArray, List.set_cons_zero, List.set_cons_succ]
            refine wpAnyH_take (i := 5) (v := ?_) rfl (by kernel_rfl) (by kernel_rfl) (by kernel_rfl) (fun _ _ _ h => h) (Or.inl ⟨by rfl, ?_⟩) (by assumption) ?_
            rotate_left
            · (intro w hSw; (try dsimp only at hSw); simp only [List.getElem_toArray, List.getElem_cons_zero, List.getElem_cons_succ]; go_simp <;> with_reducible rfl)
            try simp only [Act.put, List.getElem_toArray, List.getElem_cons_zero, List.getElem_cons_succ, List.setIfInBounds_toArray, List.set_cons_zero, List.set_cons_succ]
            refine wpAnyH_take (i := 6) (v := ?_) rfl (by kernel_rfl) (by kernel_rfl) (by kernel_rfl) (fun _ _ _ h => h) (Or.inl ⟨by rfl, ?_⟩) (by assumption) ?_
            rotate_left
            · (intro w hSw; (try dsimp only at hSw); simp only [List.getElem_toArray, List.getElem_cons_zero, List.getElem_cons_succ]; go_simp <;> with_reducible rfl)
            try simp only [Act.put, List.getElem_toArray, List.getElem_cons_zero, List.getElem_cons_succ, List.setIfInBounds_toArray, List.set_cons_zero, List.set_cons_succ]
            refine wpAnyH_take (i := 7) (v := ?_) rfl (by kernel_rfl) (by kernel_rfl) (by kernel_rfl) (fun _ _ _ h => h) (Or.inl ⟨by rfl, ?_⟩) (by assumption) ?_
            rotate_left
            · (intro w hSw; (try dsimp only at hSw); simp only [List.getElem_toArray, List.getElem_cons_zero, List.getElem_cons_succ]; go_simp <;> with_reducible rfl)
            try simp only [Act.put, List.getElem_toArray, List.getElem_cons_zero, List.getElem_cons_succ, List.setIfInBounds_toArray, List.set_cons_zero, List.set_cons_succ]
            refine wpAnyH_take (i := 8) (v := ?_) rfl (by kernel_rfl) (by kernel_rfl) (by kernel_rfl) (fun _ _ _ h => h) (Or.inl ⟨by rfl, ?_⟩) (by assumption) ?_
            rotate_left
            · (intro w hSw; (try dsimp only at hSw); simp only [List.getElem_toArray, List.getElem_cons_zero, List.getElem_cons_succ]; go_simp <;> with_reducible rfl)
            try simp only [Act.put, List.getElem_toArray, List.getElem_cons_zero, List.getElem_cons_succ, List.setIfInBounds_toArray, List.set_cons_zero, List.set_cons_succ]
            refine wpAnyH_take (i := 9) (v := ?_) rfl (by kernel_rfl) (by kernel_rfl) (by kernel_rfl) (fun _ _ _ h => h) (Or.inl ⟨by rfl, ?_⟩) (by assumption) ?_
            rotate_left
            · (intro w hSw; (try dsimp only at hSw); simp only [List.getElem_toArray, List.getElem_cons_zero, List.getElem_cons_succ]; go_simp <;> with_reducible rfl)
            try simp only [Act.put, List.getElem_toArray, List.getElem_cons_zero, List.getElem_cons_succ, List.setIfInBounds_toArray, List.set_cons_zero, List.set_cons_succ]
            refine wpAnyH_take (i := 11) (v := ?_) rfl (by kernel_rfl) (by kernel_rfl) (by kernel_rfl) (fun _ _ _ h => h) (Or.inl ⟨by rfl, ?_⟩) (by assumption) ?_
            rotate_left
            · (intro w hSw; (try dsimp only at hSw); simp only [List.getElem_toArray, List.getElem_cons_zero, List.getElem_cons_succ]; go_simp <;> with_reducible rfl)
            try simp only [Act.put, List.getElem_toArray, List.getElem_cons_zero, List.getElem_cons_succ, List.setIfInBounds_toArray, List.set_cons_zero, List.set_cons_succ]
            refine wpAnyH_take (i := 12) (v := ?_) rfl (by kernel_rfl) (by kernel_rfl) (by kernel_rfl) (fun _ _ _ h => h) (Or.inl ⟨by rfl, ?_⟩) (by assumption) ?_
            rotate_left
            · (intro w hSw; (try dsimp only at hSw); simp only [List.getElem_toArray, List.getElem_cons_zero, List.getElem_cons_succ]; go_simp <;> with_reducible rfl)
            try simp only [Act.put, List.getElem_toArray, List.getElem_cons_zero, List.getElem_cons_succ, List.setIfInBounds_toArray, List.set_cons_zero, List.set_cons_succ]
            refine wpAnyH_take (i := 13) (v := ?_) rfl (by kernel_rfl) (by kernel_rfl) (by kernel_rfl) (fun _ _ _ h => h) (Or.inl ⟨by rfl, ?_⟩) (by assumption) ?_
            rotate_left
            · (intro w hSw; (try dsimp only at hSw); simp only [List.getElem_toArray, List.getElem_cons_zero, List.getElem_cons_succ]; go_simp <;> with_reducible rfl)
            try simp only [Act.put, List.getElem_toArray, List.getElem_cons_zero, List.getElem_cons_succ, List.setIfInBounds_toArray, List.set_cons_zero, List.set_cons_succ]
            refine wpAnyH_ready (rs := [10]) (by kernel_rfl) (by simp) (AllReadyH.cons rfl (fun K hK => ?_) AllReadyH.nil)
            try simp only [List.getElem_toArray, List.getElem_cons_zero, List.getElem_cons_succ]
            go_simp
            refine (hhas.out _ (((Keeps.refl _ _).drew).trans' (by assumption))).mono ?_
            rintro e w' ⟨rfl, rfl⟩
            try go_wp2_with fail
            refine hK.out _ _ ?_ (fun hHeld => ?_)
            · (first | assumption | go_keep | (exact Keeps.cell1 (by assumption) (by assumption)))
            clear hK K
            try simp only [Act.put, List.getElem_toArray, List.getElem_cons_zero, List.getElem_cons_succ, List.setIfInBounds_toArray, List.set_cons_zero, List.set_cons_succ]
            refine wpAnyH_take (i := 14) (v := ?_) rfl (by kernel_rfl) (by kernel_rfl) (by kernel_rfl) (fun _ _ _ h => h) (Or.inl ⟨by rfl, ?_⟩) (by assumption) ?_
            rotate_left
            · (intro w hSw; (try dsimp only at hSw); simp only [List.getElem_toArray, List.getElem_cons_zero, List.getElem_cons_succ]; go_simp <;> with_reducible rfl)
            try simp only [Act.put, List.getElem_toArray, List.getElem_cons_zero, List.getElem_cons_succ, List.setIfInBounds_toArray, List.set_cons_zero, List.set_cons_succ]
            refine wpAnyH_take (i := 15) (v := undef) rfl (by kernel_rfl) (by kernel_rfl) (by kernel_rfl) (fun _ _ _ h => h) (Or.inr ⟨by rfl, rfl⟩) (by assumption) ?_
            try simp only [Act.put, List.getElem_toArray, List.getElem_cons_zero, List.getElem_cons_succ, List.setIfInBounds_toArray, List.set_cons_zero, List.set_cons_succ]
            refine wpAnyH_take (i := 16) (v := undef) rfl (by kernel_rfl) (by kernel_rfl) (by kernel_rfl) (fun _ _ _ h => h) (Or.inr ⟨by rfl, rfl⟩) (by assumption) ?_
            try simp only [Act.put, List.getElem_toArray, List.getElem_cons_zero, List.getElem_cons_succ, List.setIfInBounds_toArray, List.set_cons_zero, List.set_cons_succ]
            refine wpAnyH_take (i := 17) (v := undef) rfl (by kernel_rfl) (by kernel_rfl) (by kernel_rfl) (fun _ _ _ h => h) (Or.inr ⟨by rfl, rfl⟩) (by assumption) ?_
            try simp only [Act.put, List.getElem_toArray, List.getElem_cons_zero, List.getElem_cons_succ, List.setIfInBounds_toArray, List.set_cons_zero, List.set_cons_succ]
            refine wpAnyH_take (i := 18) (v := undef) rfl (by kernel_rfl) (by kernel_rfl) (by kernel_rfl) (fun _ _ _ h => h) (Or.inr ⟨by rfl, rfl⟩) (by assumption) ?_
            try simp only [Act.put, List.getElem_toArray, List.getElem_cons_zero, List.getElem_cons_succ, List.setIfInBounds_toArray, List.set_cons_zero, List.set_cons_succ]
            refine wpAnyH_take (i := 19) (v := ?_) rfl (by kernel_rfl) (by kernel_rfl) (by kernel_rfl) (fun _ _ _ h => h) (Or.inl ⟨by rfl, ?_⟩) (by assumption) ?_
            rotate_left
            · (intro w hSw; (try dsimp only at hSw); simp only [List.getElem_toArray, List.getElem_cons_zero, List.getElem_cons_succ]; go_simp <;> with_reducible rfl)
            try simp only [Act.put, List.getElem_toArray, List.getElem_cons_zero, List.getElem_cons_succ, List.setIfInBounds_toArray, List.set_cons_zero, List.set_cons_succ]
            refine wpAnyH_take (i := 20) (v := ?_) rfl (by kernel_rfl) (by kernel_rfl) (by kernel_rfl) (fun _ _ _ h => h) (Or.inl ⟨by rfl, ?_⟩) (by assumption) ?_
            rotate_left
            · (intro w hSw; (try dsimp only at hSw); simp only [List.getElem_toArray, List.getElem_cons_zero, List.getElem_cons_succ]; go_simp <;> with_reducible rfl)
            try simp only [Act.put, List.getElem_toArray, List.getElem_cons_zero, List.getElem_cons_succ, List.setIfInBounds_toArray, List.set_cons_zero, List.set_cons_succ]
            refine wpAnyH_take (i := 21) (v := undef) rfl (by kernel_rfl) (by kernel_rfl) (by kernel_rfl) (fun _ _ _ h => h) (Or.inr ⟨by rfl, rfl⟩) (by assumption) ?_
            try simp only [Act.put, List.getElem_toArray, List.getElem_cons_zero, List.getElem_cons_succ, List.setIfInBounds_toArray, List.set_cons_zero, List.set_cons_succ]
            refine wpAnyH_take (i := 22) (v := undef) rfl (by kernel_rfl) (by kernel_rfl) (by kernel_rfl) (fun _ _ _ h => h) (Or.inr ⟨by rfl, rfl⟩) (by assumption) ?_
            try simp only [Act.put, List.getElem_toArray, List.getElem_cons_zero, List.getElem_cons_succ, List.setIfInBounds_toArray, List.set_cons_zero, List.set_cons_succ]
            refine wpAnyH_take (i := 23) (v := undef) rfl (by kernel_rfl) (by kernel_rfl) (by kernel_rfl) (fun _ _ _ h => h) (Or.inr ⟨by rfl, rfl⟩) (by assumption) ?_
            try simp only [Act.put, List.getElem_toArray, List.getElem_cons_zero, List.getElem_cons_succ, List.setIfInBounds_toArray, List.set_cons_zero, List.set_cons_succ]
            refine wpAnyH_take (i := 24) (v := undef) rfl (by kernel_rfl) (by kernel_rfl) (by kernel_rfl) (fun _ _ _ h => h) (Or.inr ⟨by rfl, rfl⟩) (by assumption) ?_
            try simp only [Act.put, List.getElem_toArray, List.getElem_cons_zero, List.getElem_cons_succ, List.setIfInBounds_toArray, List.set_cons_zero, List.set_cons_succ]
            refine wpAnyH_take (i := 25) (v := undef) rfl (by kernel_rfl) (by kernel_rfl) (by kernel_rfl) (fun _ _ _ h => h) (Or.inr ⟨by rfl, rfl⟩) (by assumption) ?_
            try simp only [Act.put, List.getElem_toArray, List.getElem_cons_zero, List.getElem_cons_succ, List.setIfInBounds_toArray, List.set_cons_zero, List.set_cons_succ]
            refine wpAnyH_take (i := 26) (v := ?_) rfl (by kernel_rfl) (by kernel_rfl) (by kernel_rfl) (fun _ _ _ h => h) (Or.inl ⟨by rfl, ?_⟩) (by assumption) ?_
            rotate_left
            · (intro w hSw; (try dsimp only at hSw); simp only [List.getElem_toArray, List.getElem_cons_zero, List.getElem_cons_succ]; go_simp <;> with_reducible rfl)
            try simp only [Act.put, List.getElem_toArray, List.getElem_cons_zero, List.getElem_cons_succ, List.setIfInBounds_toArray, List.set_cons_zero, List.set_cons_succ]
            refine wpAnyH_take (i := 27) (v := ?_) rfl (by kernel_rfl) (by kernel_rfl) (by kernel_rfl) (fun _ _ _ h => h) (Or.inl ⟨by rfl, ?_⟩) (by assumption) ?_
            rotate_left
            · (intro w hSw; (try dsimp only at hSw); simp only [List.getElem_toArray, List.getElem_cons_zero, List.getElem_cons_succ]; go_simp <;> with_reducible rfl)
            try simp only [Act.put, List.getElem_toArray, List.getElem_cons_zero, List.getElem_cons_succ, List.setIfInBounds_toArray, List.set_cons_zero, List.set_cons_succ]
            refine wpAnyH_take (i := 28) (v := ?_) rfl (by kernel_rfl) (by kernel_rfl) (by kernel_rfl) (fun _ _ _ h => h) (Or.inl ⟨by rfl, ?_⟩) (by assumption) ?_
            rotate_left
            · (intro w hSw; (try dsimp only at hSw); simp only [List.getElem_toArray, List.getElem_cons_zero, List.getElem_cons_succ]; go_simp <;> with_reducible rfl)
            try simp only [Act.put, List.getElem_toArray, List.getElem_cons_zero, List.getElem_cons_succ, List.setIfInBounds_toArray, List.set_cons_zero, List.set_cons_succ]
            refine wpAnyH_done (by kernel_rfl) ?_ _
            go_wp2_with fail
            refine ⟨⟨j + 1, T, hlt, by go_num, HB.out.quiet (((Keeps.refl _ _).drew).trans' (by assumption))⟩, by simp [intOf]; omega⟩
          · have d1 : decide (x ≥ 0) = true := by simp; omega
            have d2 : decide (0 ≤ x) = true := by simp; omega
            have d3 : decide (x < (k : Int)) = false := by simp; omega
            go_wp2_with fail
            refine wp_region_held_drew (S := (fun w' => w'.cell? ⟨wr.heap.size, 1, none⟩ = some (.int .i64 x))) (by kernel_rfl) (hcx) (fun hHeld => ?_)
            refine wpAnyH_take (i := 0) (v := ?_) rfl (by kernel_rfl) (by kernel_rfl) (by kernel_rfl) (fun _ _ _ h => h) (Or.inl ⟨by rfl, ?_⟩) (by assumption) ?_
            rotate_left
            · (intro w hSw; (try dsimp only at hSw); simp only [List.getElem_toArray, List.getElem_cons_zero, List.getElem_cons_succ]; go_simp <;> with_reducible rfl)
            try simp only [Act.put, List.getElem_toArray, List.getElem_cons_zero, List.getElem_cons_succ, List.setIfInBounds_toArray, List.set_cons_zero, List.set_cons_succ]
            refine wpAnyH_take (i := 2) (v := ?_) rfl (by kernel_rfl) (by kernel_rfl) (by kernel_rfl) (fun _ _ _ h => h) (Or.inl ⟨by rfl, ?_⟩) (by assumption) ?_
            rotate_left
            · (intro w hSw; (try dsimp only at hSw); simp only [List.getElem_toArray, List.getElem_cons_zero, List.getElem_cons_succ]; go_simp <;> with_reducible rfl)
            try simp only [Act.put, List.getElem_toArray, List.getElem_cons_zero, List.getElem_cons_succ, List.setIfInBounds_toArray, List.set_cons_zero, List.set_cons_succ]
            refine wpAnyH_ready (rs := [1]) (by kernel_rfl) (by simp) (AllReadyH.cons rfl (fun K hK => ?_) AllReadyH.nil)
            try simp only [List.getElem_toArray, List.getElem_cons_zero, List.getElem_cons_succ]
            go_simp
            refine hlen.out.mono ?_
            rintro e w' ⟨rfl, rfl⟩
            try go_wp2_with fail
            refine hK.out _ _ ?_ (fun hHeld => ?_)
            · (first | assumption | go_keep | (exact Keeps.cell1 (by assumption) (by assumption)))
            clear hK K
            try simp only [Act.put, List.getElem_toArray, List.getElem_cons_zero, List.getElem_cons_succ, List.setIfInBounds_toArray, List.set_cons_zero, List.set_cons_succ]
            refine wpAnyH_ready (rs := [3]) (by kernel_rfl) (by simp) (AllReadyH.cons rfl (fun K hK => ?_) AllReadyH.nil)
            try simp only [List.getElem_toArray, List.getElem_cons_zero, List.getElem_cons_succ]
            go_simp
            refine (hall.out _ ((Keeps.refl _ _).drew)).mono ?_
            rintro e w4 ⟨v4, rfl, ho4, hk4⟩
            obtain ⟨a4, c4, rfl⟩ := ownsRow_slice ho4
            clear ho4
            rw [hal.out]
            try go_wp2_with fail
            refine hK.out _ _ ?_ (fun hHeld => ?_)
            · (first | assumption | go_keep | (exact Keeps.cell1 (by assumption) (by assumption)))
            clear hK K
            try simp only [Act.put, List.getElem_toArray, List.getElem_cons_zero, List.getElem_cons_succ, List.setIfInBounds_toArray, List.set_cons_zero, List.set_cons_succ]
            refine wpAnyH_take (i := 4) (v := ?_) rfl (by kernel_rfl) (by kernel_rfl) (by kernel_rfl) (fun _ _ _ h => h) (Or.inl ⟨by rfl, ?_⟩) (by assumption) ?_
            rotate_left
            · (intro w hSw; (try dsimp only at hSw); simp only [List.getElem_toArray, List.getElem_cons_zero, List.getElem_cons_succ]; go_simp <;> with_reducible rfl)
            try simp only [Act.put, List.getElem_toArray, List.getElem_cons_zero, List.getElem_cons_succ, List.setIfInBounds_toArray, List.set_cons_zero, List.set_cons_succ]
            refine wpAnyH_take (i := 5) (v := ?_) rfl (by kernel_rfl) (by kernel_rfl) (by kernel_rfl) (fun _ _ _ h => h) (Or.inl ⟨by rfl, ?_⟩) (by assumption) ?_
            rotate_left
            · (intro w hSw; (try dsimp only at hSw); simp only [List.getElem_toArray, List.getElem_cons_zero, List.getElem_cons_succ]; go_simp <;> with_reducible rfl)
            try simp only [Act.put, List.getElem_toArray, List.getElem_cons_zero, List.getElem_cons_succ, List.setIfInBounds_toArray, List.set_cons_zero, List.set_cons_succ]
            refine wpAnyH_take (i := 6) (v := ?_) rfl (by kernel_rfl) (by kernel_rfl) (by kernel_rfl) (fun _ _ _ h => h) (Or.inl ⟨by rfl, ?_⟩) (by assumption) ?_
            rotate_left
            · (intro w hSw; (try dsimp only at hSw); simp only [List.getElem_toArray, List.getElem_cons_zero, List.getElem_cons_succ]; go_simp <;> with_reducible rfl)
            try simp only [Act.put, List.getElem_toArray, List.getElem_cons_zero, List.getElem_cons_succ, List.setIfInBounds_toArray, List.set_cons_zero, List.set_cons_succ]
            refine wpAnyH_take (i := 7) (v := ?_) rfl (by kernel_rfl) (by kernel_rfl) (by kernel_rfl) (fun _ _ _ h => h) (Or.inl ⟨by rfl, ?_⟩) (by assumption) ?_
            rotate_left
            · (intro w hSw; (try dsimp only at hSw); simp only [List.getElem_toArray, List.getElem_cons_zero, List.getElem_cons_succ]; go_simp <;> with_reducible rfl)
            try simp only [Act.put, List.getElem_toArray, List.getElem_cons_zero, List.getElem_cons_succ, List.setIfInBounds_toArray, List.set_cons_zero, List.set_cons_succ]
            refine wpAnyH_take (i := 8) (v := ?_) rfl (by kernel_rfl) (by kernel_rfl) (by kernel_rfl) (fun _ _ _ h => h) (Or.inl ⟨by rfl, ?_⟩) (by assumption) ?_
            rotate_left
            · (intro w hSw; (try dsimp only at hSw); simp only [List.getElem_toArray, List.getElem_cons_zero, List.getElem_cons_succ]; go_simp <;> with_reducible rfl)
            try simp only [Act.put, List.getElem_toArray, List.getElem_cons_zero, List.getElem_cons_succ, List.setIfInBounds_toArray, List.set_cons_zero, List.set_cons_succ]
            refine wpAnyH_take (i := 9) (v := ?_) rfl (by kernel_rfl) (by kernel_rfl) (by kernel_rfl) (fun _ _ _ h => h) (Or.inl ⟨by rfl, ?_⟩) (by assumption) ?_
            rotate_left
            · (intro w hSw; (try dsimp only at hSw); simp only [List.getElem_toArray, List.getElem_cons_zero, List.getElem_cons_succ]; go_simp <;> with_reducible rfl)
            try simp only [Act.put, List.getElem_toArray, List.getElem_cons_zero, List.getElem_cons_succ, List.setIfInBounds_toArray, List.set_cons_zero, List.set_cons_succ]
            refine wpAnyH_take (i := 11) (v := ?_) rfl (by kernel_rfl) (by kernel_rfl) (by kernel_rfl) (fun _ _ _ h => h) (Or.inl ⟨by rfl, ?_⟩) (by assumption) ?_
            rotate_left
            · (intro w hSw; (try dsimp only at hSw); simp only [List.getElem_toArray, List.getElem_cons_zero, List.getElem_cons_succ]; go_simp <;> with_reducible rfl)
            try simp only [Act.put, List.getElem_toArray, List.getElem_cons_zero, List.getElem_cons_succ, List.setIfInBounds_toArray, List.set_cons_zero, List.set_cons_succ]
            refine wpAnyH_take (i := 12) (v := ?_) rfl (by kernel_rfl) (by kernel_rfl) (by kernel_rfl) (fun _ _ _ h => h) (Or.inl ⟨by rfl, ?_⟩) (by assumption) ?_
            rotate_left
            · (intro w hSw; (try dsimp only at hSw); simp only [List.getElem_toArray, List.getElem_cons_zero, List.getElem_cons_succ]; go_simp <;> with_reducible rfl)
            try simp only [Act.put, List.getElem_toArray, List.getElem_cons_zero, List.getElem_cons_succ, List.setIfInBounds_toArray, List.set_cons_zero, List.set_cons_succ]
            refine wpAnyH_take (i := 13) (v := ?_) rfl (by kernel_rfl) (by kernel_rfl) (by kernel_rfl) (fun _ _ _ h => h) (Or.inl ⟨by rfl, ?_⟩) (by assumption) ?_
            rotate_left
            · (intro w hSw; (try dsimp only at hSw); simp only [List.getElem_toArray, List.getElem_cons_zero, List.getElem_cons_succ]; go_simp <;> with_reducible rfl)
            try simp only [Act.put, List.getElem_toArray, List.getElem_cons_zero, List.getElem_cons_succ, List.setIfInBounds_toArray, List.set_cons_zero, List.set_cons_succ]
            refine wpAnyH_ready (rs := [10]) (by kernel_rfl) (by simp) (AllReadyH.cons rfl (fun K hK => ?_) AllReadyH.nil)
            try simp only [List.getElem_toArray, List.getElem_cons_zero, List.getElem_cons_succ]
            go_simp
            refine (hhas.out _ (((Keeps.refl _ _).drew).trans' (by assumption))).mono ?_
            rintro e w' ⟨rfl, rfl⟩
            try go_wp2_with fail
            refine hK.out _ _ ?_ (fun hHeld => ?_)
            · (first | assumption | go_keep | (exact Keeps.cell1 (by assumption) (by assumption)))
            clear hK K
            try simp only [Act.put, List.getElem_toArray, List.getElem_cons_zero, List.getElem_cons_succ, List.setIfInBounds_toArray, List.set_cons_zero, List.set_cons_succ]
            refine wpAnyH_take (i := 14) (v := ?_) rfl (by kernel_rfl) (by kernel_rfl) (by kernel_rfl) (fun _ _ _ h => h) (Or.inl ⟨by rfl, ?_⟩) (by assumption) ?_
            rotate_left
            · (intro w hSw; (try dsimp only at hSw); simp only [List.getElem_toArray, List.getElem_cons_zero, List.getElem_cons_succ]; go_simp <;> with_reducible rfl)
            try simp only [Act.put, List.getElem_toArray, List.getElem_cons_zero, List.getElem_cons_succ, List.setIfInBounds_toArray, List.set_cons_zero, List.set_cons_succ]
            refine wpAnyH_take (i := 15) (v := ?_) rfl (by kernel_rfl) (by kernel_rfl) (by kernel_rfl) (fun _ _ _ h => h) (Or.inl ⟨by rfl, ?_⟩) (by assumption) ?_
            rotate_left
            · (intro w hSw; (try dsimp only at hSw); simp only [List.getElem_toArray, List.getElem_cons_zero, List.getElem_cons_succ]; go_simp <;> with_reducible rfl)
            try simp only [Act.put, List.getElem_toArray, List.getElem_cons_zero, List.getElem_cons_succ, List.setIfInBounds_toArray, List.set_cons_zero, List.set_cons_succ]
            refine wpAnyH_take (i := 16) (v := ?_) rfl (by kernel_rfl) (by kernel_rfl) (by kernel_rfl) (fun _ _ _ h => h) (Or.inl ⟨by rfl, ?_⟩) (by assumption) ?_
            rotate_left
            · (intro w hSw; (try dsimp only at hSw); simp only [List.getElem_toArray, List.getElem_cons_zero, List.getElem_cons_succ]; go_simp <;> with_reducible rfl)
            try simp only [Act.put, List.getElem_toArray, List.getElem_cons_zero, List.getElem_cons_succ, List.setIfInBounds_toArray, List.set_cons_zero, List.set_cons_succ]
            refine wpAnyH_take (i := 17) (v := ?_) rfl (by kernel_rfl) (by kernel_rfl) (by kernel_rfl) (fun _ _ _ h => h) (Or.inl ⟨by rfl, ?_⟩) (by assumption) ?_
            rotate_left
            · (intro w hSw; (try dsimp only at hSw); simp only [List.getElem_toArray, List.getElem_cons_zero, List.getElem_cons_succ]; go_simp <;> with_reducible rfl)
            try simp only [Act.put, List.getElem_toArray, List.getElem_cons_zero, List.getElem_cons_succ, List.setIfInBounds_toArray, List.set_cons_zero, List.set_cons_succ]
            refine wpAnyH_take (i := 18) (v := ?_) rfl (by kernel_rfl) (by kernel_rfl) (by kernel_rfl) (fun _ _ _ h => h) (Or.inl ⟨by rfl, ?_⟩) (by assumption) ?_
            rotate_left
            · (intro w hSw; (try dsimp only at hSw); simp only [List.getElem_toArray, List.getElem_cons_zero, List.getElem_cons_succ]; go_simp <;> with_reducible rfl)
            try simp only [Act.put, List.getElem_toArray, List.getElem_cons_zero, List.getElem_cons_succ, List.setIfInBounds_toArray, List.set_cons_zero, List.set_cons_succ]
            refine wpAnyH_take (i := 19) (v := ?_) rfl (by kernel_rfl) (by kernel_rfl) (by kernel_rfl) (fun _ _ _ h => h) (Or.inl ⟨by rfl, ?_⟩) (by assumption) ?_
            rotate_left
            · (intro w hSw; (try dsimp only at hSw); simp only [List.getElem_toArray, List.getElem_cons_zero, List.getElem_cons_succ]; go_simp <;> with_reducible rfl)
            try simp only [Act.put, List.getElem_toArray, List.getElem_cons_zero, List.getElem_cons_succ, List.setIfInBounds_toArray, List.set_cons_zero, List.set_cons_succ]
            refine wpAnyH_take (i := 20) (v := ?_) rfl (by kernel_rfl) (by kernel_rfl) (by kernel_rfl) (fun _ _ _ h => h) (Or.inl ⟨by rfl, ?_⟩) (by assumption) ?_
            rotate_left
            · (intro w hSw; (try dsimp only at hSw); simp only [List.getElem_toArray, List.getElem_cons_zero, List.getElem_cons_succ]; go_simp <;> with_reducible rfl)
            try simp only [Act.put, List.getElem_toArray, List.getElem_cons_zero, List.getElem_cons_succ, List.setIfInBounds_toArray, List.set_cons_zero, List.set_cons_succ]
            refine wpAnyH_take (i := 21) (v := undef) rfl (by kernel_rfl) (by kernel_rfl) (by kernel_rfl) (fun _ _ _ h => h) (Or.inr ⟨by rfl, rfl⟩) (by assumption) ?_
            try simp only [Act.put, List.getElem_toArray, List.getElem_cons_zero, List.getElem_cons_succ, List.setIfInBounds_toArray, List.set_cons_zero, List.set_cons_succ]
            refine wpAnyH_take (i := 22) (v := undef) rfl (by kernel_rfl) (by kernel_rfl) (by kernel_rfl) (fun _ _ _ h => h) (Or.inr ⟨by rfl, rfl⟩) (by assumption) ?_
            try simp only [Act.put, List.getElem_toArray, List.getElem_cons_zero, List.getElem_cons_succ, List.setIfInBounds_toArray, List.set_cons_zero, List.set_cons_succ]
            refine wpAnyH_take (i := 23) (v := undef) rfl (by kernel_rfl) (by kernel_rfl) (by kernel_rfl) (fun _ _ _ h => h) (Or.inr ⟨by rfl, rfl⟩) (by assumption) ?_
            try simp only [Act.put, List.getElem_toArray, List.getElem_cons_zero, List.getElem_cons_succ, List.setIfInBounds_toArray, List.set_cons_zero, List.set_cons_succ]
            refine wpAnyH_take (i := 24) (v := undef) rfl (by kernel_rfl) (by kernel_rfl) (by kernel_rfl) (fun _ _ _ h => h) (Or.inr ⟨by rfl, rfl⟩) (by assumption) ?_
            try simp only [Act.put, List.getElem_toArray, List.getElem_cons_zero, List.getElem_cons_succ, List.setIfInBounds_toArray, List.set_cons_zero, List.set_cons_succ]
            refine wpAnyH_take (i := 25) (v := undef) rfl (by kernel_rfl) (by kernel_rfl) (by kernel_rfl) (fun _ _ _ h => h) (Or.inr ⟨by rfl, rfl⟩) (by assumption) ?_
            try simp only [Act.put, List.getElem_toArray, List.getElem_cons_zero, List.getElem_cons_succ, List.setIfInBounds_toArray, List.set_cons_zero, List.set_cons_succ]
            refine wpAnyH_take (i := 26) (v := ?_) rfl (by kernel_rfl) (by kernel_rfl) (by kernel_rfl) (fun _ _ _ h => h) (Or.inl ⟨by rfl, ?_⟩) (by assumption) ?_
            rotate_left
            · (intro w hSw; (try dsimp only at hSw); simp only [List.getElem_toArray, List.getElem_cons_zero, List.getElem_cons_succ]; go_simp <;> with_reducible rfl)
            try simp only [Act.put, List.getElem_toArray, List.getElem_cons_zero, List.getElem_cons_succ, List.setIfInBounds_toArray, List.set_cons_zero, List.set_cons_succ]
            refine wpAnyH_take (i := 27) (v := ?_) rfl (by kernel_rfl) (by kernel_rfl) (by kernel_rfl) (fun _ _ _ h => h) (Or.inl ⟨by rfl, ?_⟩) (by assumption) ?_
            rotate_left
            · (intro w hSw; (try dsimp only at hSw); simp only [List.getElem_toArray, List.getElem_cons_zero, List.getElem_cons_succ]; go_simp <;> with_reducible rfl)
            try simp only [Act.put, List.getElem_toArray, List.getElem_cons_zero, List.getElem_cons_succ, List.setIfInBounds_toArray, List.set_cons_zero, List.set_cons_succ]
            refine wpAnyH_take (i := 28) (v := ?_) rfl (by kernel_rfl) (by kernel_rfl) (by kernel_rfl) (fun _ _ _ h => h) (Or.inl ⟨by rfl, ?_⟩) (by assumption) ?_
            rotate_left
            · (intro w hSw; (try dsimp only at hSw); simp only [List.getElem_toArray, List.getElem_cons_zero, List.getElem_cons_succ]; go_simp <;> with_reducible rfl)
            try simp only [Act.put, List.getElem_toArray, List.getElem_cons_zero, List.getElem_cons_succ, List.setIfInBounds_toArray, List.set_cons_zero, List.set_cons_succ]
            refine wpAnyH_done (by kernel_rfl) ?_ _
            go_wp2_with fail
            refine ⟨⟨j + 1, T, hlt, by go_num, HB.out.quiet (((Keeps.refl _ _).drew).trans' (by assumption))⟩, by simp [intOf]; omega⟩
    · have hall := Lib.hid (sall HS.out.sl (HT.out.keep HS.out.keep))
      have hcb := cnt_le S k
      have hal : Hid ((allOf S k).length = cnt S k) := rfl
      generalize hlen : (allOf S k).length = len at *
      have HLEN := Lib.hid hlen
      have hcb' : len ≤ k := by rw [hal.out]; exact hcb
      clear hlen hcb hal
      go_wp2_with fail
      all_goals
        refine hall.out.mono ?_
        rintro e w2 ⟨v, rfl, ho, hk⟩
        obtain ⟨a2, c2, rfl, hrd, _, _⟩ := Rd.of_own ho
        have HB2 := Lib.hid (HS.out.quiet hk)
        have HRD := Lib.hid hrd
        have hra := Lib.hid (refAll ta tc k S w2 (HTR.out.keep hk) (by omega))
        clear ho hk hrd
        go_wp2_with fail
        refine hra.out.mono ?_
        rintro e w3 ⟨v3, rfl, ho, hk⟩
        obtain ⟨a3, c3, rfl, hrd, _, _⟩ := Rd.of_own ho
        have HB3 := Lib.hid (HB2.out.quiet hk)
        have hc := Lib.hid (ints02 a2 a3 c2 c3 len (allOf S k) HLEN.out.symm (by omega) w3 (HRD.out.keep hk) hrd)
        clear ho hk hrd
        rw [HLEN.out]
        go_wp2_with fail
        refine hc.out.mono ?_
        rintro e w4 ⟨rfl, hk⟩
        have HB4 := Lib.hid (HB3.out.quiet hk)
        have hsz := Lib.hid (ssize HB4.out.sl)
        have hsu := Lib.hid (sure02 w4 (HT.out.keep HB4.out.keep))
        clear hk
        go_wp2_with (first | (go_at_call 40; refine hsz.out.mono ?_; rintro e w' ⟨rfl, rfl⟩))
        refine hsu.out.mono ?_
        rintro e w5 ⟨rfl, hk⟩
        have HB5 := Lib.hid (HB4.out.quiet hk)
        clear hk
        go_wp2_with fail
        go_ret
        exact ⟨rfl, HB5.out.keep⟩
theorem slotsRuns_enter (W : World) (hT : Tab W) (hE : ErrT W) (n : Int) (_ : (Lit.int .i64 n).wf = true) (a : Option Addr) (c : Nat) (ls : List (Int × Int)) (hr : Rd W a (ls.flatMap fun p => [Value.int .i64 p.1, .int .i64 p.2])) (hl : ls.length ≤ 9223372036854775807) (_ : ∀ p ∈ ls, (Lit.int .i64 p.1).wf = true ∧ (Lit.int .i64 p.2).wf = true) :
    Calls Tryd.prog 9 #[.int .i64 n, .slice a ls.length c] W (TruePost W) := slotsRuns_walk n a c ls W hT hE hr hl
end Go.Proofs.YtiphdlhnoceeiaaDoor
