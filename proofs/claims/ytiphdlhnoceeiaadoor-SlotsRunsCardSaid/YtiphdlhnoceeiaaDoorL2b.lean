/- Chapter 2's laws: SlotsNexts. -/
import Derived.Test.YtiphdlhnoceeiaaDoorRef2
namespace Go.Proofs.YtiphdlhnoceeiaaDoor
open Go Go.RowKit
set_option linter.unusedVariables false
set_option linter.unusedSimpArgs false

theorem ownsRow_full (w : World) (base : Nat) (e : TypeId) (xs : List Value) (hb : base ≤ w.heap.size) (hm : xs.length ≤ maxLen) :
    (w.alloc (.cells xs.toArray e)).ownsRow base e 1 (.slice (some ⟨w.heap.size, 0, none⟩) xs.length xs.length) xs.length xs :=
  ⟨by simp, .inr ⟨w.heap.size, xs.length, xs.toArray, rfl, hb, Blk.new w _ _, Nat.le_refl _, hm, by simp, by simp⟩⟩
theorem bools_none (k : Nat) : bools (fun _ => false) k = List.replicate k (.bool false) := by
  apply List.ext_getElem?
  intro j
  by_cases hj : j < k
  · rw [bools_get _ _ _ hj]; simp [hj]
  · rw [List.getElem?_eq_none (by simp [bools]; omega), List.getElem?_eq_none (by simp; omega)]

theorem claim_zero {S : Nat → Bool} {k : Nat} {z : Int} (h : claimErr S k z = 0) : ∃ y : Nat, z = y ∧ y < k ∧ S y = false := by
  unfold claimErr at h
  by_cases hz : z < 0 ∨ (k : Int) ≤ z
  · rw [if_pos hz] at h; exact absurd h (by decide)
  · rw [if_neg hz] at h
    refine ⟨z.toNat, by omega, by omega, ?_⟩
    cases e : S z.toNat with
    | false => rfl
    | true => rw [e] at h; simp at h

theorem allOf_lt (S : Nat → Bool) (k : Nat) : (allOf S k).Pairwise (· < ·) := List.Pairwise.filter _ List.pairwise_lt_range
theorem mem_allOf {S : Nat → Bool} {k y : Nat} : y ∈ allOf S k ↔ y < k ∧ S y = true := by simp [allOf]
theorem next_hit {S : Nat → Bool} {k : Nat} {x : Int} {f : Bool} {y i z : Nat} (h : NextAns S k x f y) (hi : (allOf S k)[i]? = some z) (hz : x ≤ z) (hlo : ∀ (j z' : Nat), j < i → (allOf S k)[j]? = some z' → (z' : Int) < x) : f = true ∧ y = z := by
  have hzm : z ∈ allOf S k := List.mem_of_getElem? hi
  obtain ⟨hzk, hzS⟩ := mem_allOf.1 hzm
  rcases h with ⟨hf, h1, h2, h3, h4⟩ | ⟨hf, h1, h2⟩
  · refine ⟨hf, ?_⟩
    have hle : y ≤ z := by
      by_cases hlt : z < y
      · have := h4 z hz hlt; rw [hzS] at this; exact absurd this (by decide)
      · omega
    by_cases hlt : y < z
    · obtain ⟨j, hj⟩ := List.getElem?_of_mem (mem_allOf.2 ⟨h2, h3⟩)
      exfalso
      have hp := List.pairwise_iff_getElem.1 (allOf_lt S k)
      obtain ⟨hil, hie⟩ := List.getElem?_eq_some_iff.1 hi
      obtain ⟨hjl, hje⟩ := List.getElem?_eq_some_iff.1 hj
      by_cases hji : j < i
      · have := hlo j y hji hj; omega
      · by_cases e : j = i
        · subst e; omega
        · have := hp i j hil hjl (by omega); omega
    · omega
  · have := h2 z hz hzk; rw [hzS] at this; exact absurd this (by decide)
theorem next_end {S : Nat → Bool} {k : Nat} {x : Int} {f : Bool} {y : Nat} (h : NextAns S k x f y) (hlo : ∀ (j z' : Nat), j < (allOf S k).length → (allOf S k)[j]? = some z' → (z' : Int) < x) : f = false ∧ y = 0 := by
  rcases h with ⟨hf, h1, h2, h3, h4⟩ | ⟨hf, h1, h2⟩
  · obtain ⟨j, hj⟩ := List.getElem?_of_mem (mem_allOf.2 ⟨h2, h3⟩)
    have := hlo j y (List.getElem?_eq_some_iff.1 hj).1 hj
    omega
  · exact ⟨hf, h1⟩

/-- The object and the list of truths, behind some acts. -/
structure Both (w : World) (b k : Nat) (own : Nat → Prop) (S : Nat → Bool) (v : Value) (wr : World) : Prop where
  sl : Sl wr b own k S
  row : TRow wr w.heap.size v k S
  apart : ∀ g, v.ownBlock = some g → ¬ own g
  keep : Keeps (fun _ => False) w wr

theorem Both.skip {w wr w2 : World} {b k : Nat} {own : Nat → Prop} {S T : Nat → Bool} {v : Value} (h : Both w b k own S v wr) (hge : ∀ i, own i → w.heap.size ≤ i) (hk : Keeps own wr w2) (hs : Sl w2 b own k T) (he : T = S) : Both w b k own S v w2 :=
  ⟨he ▸ hs, ownsRow_kept h.row hk h.apart, h.apart, h.keep.thin hk hge⟩
theorem Both.next {w wr w2 w3 : World} {b k : Nat} {own : Nat → Prop} {S T : Nat → Bool} {v v' : Value} (h : Both w b k own S v wr) (hge : ∀ i, own i → w.heap.size ≤ i) (hk : Keeps own wr w2) (hs : Sl w2 b own k T)
    (hr : TRow w3 w2.heap.size v' k T) (hk2 : Keeps (fun _ => False) w2 w3) : Both w b k own T v' w3 :=
  ⟨hs.keep hk2, ownsRow_base hr ((h.keep.thin hk hge).size), fun g hg ho => by have := (hr.lt g hg).1; have := hs.lt g ho; omega, (h.keep.thin hk hge).trans' hk2⟩

set_option maxHeartbeats 2000000 in
set_option maxRecDepth 100000 in
theorem slotsNexts_walk (n : Int) (a : Option Addr) (c : Nat) (zs : List Int) (x : Int) (w : World) (hT : Tab w) (hr : Rd w a (i64s zs)) (hl : zs.length ≤ 9223372036854775807) :
    Calls Tryd.prog 3 #[.int .i64 n, .slice a zs.length c, .int .i64 x] w (TruePost w) := by
  obtain ⟨i0, hi, hz0, hz1, hz2⟩ := info_parts info4
  have HT := Lib.hid hT
  have HR := Lib.hid hr
  have hg := hT.lt
  clear hT hr
  obtain ⟨hk1, hk2⟩ := kof_le n 300 (by decide)
  have HK := Lib.hid (kof_val n 300 (by decide) (by decide))
  generalize kof n 300 = k at *
  go_enter Tryd.func3, Tryd.ntmps3
  go_wp2_with fail
  rw [show (300 : Int) = ((300 : Nat) : Int) from rfl, HK.out]
  refine (snew _ k rfl w hk1 (by omega)).mono ?_
  rintro e w1 ⟨b, own, rfl, hs1, hge, hkp⟩
  have HG := Lib.hid hge
  have hws := hkp.size
  have HST : Hid (Both w b k own (fun _ => false) (.slice (some ⟨w1.heap.size, 0, none⟩) k k) (w1.alloc (.cells (Array.replicate k (.bool false)) 4))) := by
    have hrow := ownsRow_full w1 w.heap.size 4 (bools (fun _ => false) k) hws (by rw [bools_length]; unfold maxLen; omega)
    rw [bools_length, bools_none, List.toArray_replicate] at hrow
    refine ⟨hs1.keep ((Keeps.refl _ _).alloc _), ?_, fun g hg ho => ?_, hkp.alloc _⟩
    · unfold TRow; rw [bools_none]; exact hrow
    · simp [Value.ownBlock] at hg
      have := hs1.lt g ho
      omega
  clear hs1 hge hkp
  go_wp2_with (at_make; refine wpList_mk1 rfl _ _ 29 rfl 4 i0 (.bool false) 1 Tryd.underlying29 hi hz0 hz1 hz2 rfl k .i64 .i64 _ _ rfl rfl rfl rfl (by omega) (by omega) ?_)
  go_loopw [10, 11] (fun t i wr => ∃ (j : Nat) (S : Nat → Bool), j ≤ zs.length ∧ i = .int .i64 (j : Int) ∧ Both w b k own S t wr) (fun _ i _ => zs.length - (intOf i).toNat)
  case atStart => exact ⟨0, _, Nat.zero_le _, rfl, HST.out⟩
  case round =>
    obtain ⟨j, S, hj, rfl, hs⟩ := hrel
    clear HST
    have HS := Lib.hid hs
    obtain ⟨ta, tc, rfl, htr⟩ := hs.row.rd
    have HTR := Lib.hid htr
    clear hs htr
    by_cases hlt : j < zs.length ∧ j < 100
    · obtain ⟨hlt, hlt2⟩ := hlt
      obtain ⟨ab, off, rfl, hc⟩ := (HR.out.keep HS.out.keep).at_ j (by simp [i64s]; exact hlt)
      have hcj := hc j (by simp [i64s]; exact hlt)
      have hsome : (i64s zs)[j]? = some (.int .i64 zs[j]) := by simp [i64s, hlt]
      rw [hsome] at hcj
      have HC := Lib.hid (fun (W : World) (hk : Keeps (fun _ => False) w W) => (HR.out.keep hk))
      clear hc hsome
      have HCL := Lib.hid (sclaim HS.out.sl zs[j])
      have hzj : Hid ((i64s zs)[j]? = some (.int .i64 zs[j])) := by show _ = _; simp [i64s, hlt]
      generalize zs[j] = z at *
      by_cases hce : claimErr S k z = 0
      · obtain ⟨y, rfl, hyk, hSy⟩ := claim_zero hce
        have HCE := Lib.hid hce
        clear hce hSy
        go_wp2_with fail
        refine HCL.out.mono ?_
        rintro e w2 ⟨he, hk3, hs3⟩
        rw [HCE.out] at he hs3
        simp only [if_true] at hs3
        obtain rfl : e = .returned .nilIface := he
        rw [Int.toNat_natCast] at hs3
        have H2 := Lib.hid (And.intro hk3 hs3)
        have hk4 := HS.out.keep.thin hk3 HG.out
        obtain ⟨ab2, off2, hae, hc2⟩ := (HR.out.keep hk4).at_ j (by simp [i64s]; exact hlt)
        simp only [Option.some.injEq, Addr.mk.injEq, and_true] at hae
        obtain ⟨rfl, rfl⟩ := hae
        have hcj2 := hc2 j (by simp [i64s]; exact hlt)
        rw [hzj.out] at hcj2
        have hwi := Lib.hid (refWith ta tc k S (y : Int) y rfl true w2 (HTR.out.kept hk3 (fun bb off e => HS.out.apart bb (by simp [Value.ownBlock, e]))) hyk (by omega))
        clear hk3 hs3 hk4 hc2 hcj
        go_wp2_with (go_at_call 20; refine hwi.out.mono ?_; rintro e w3 ⟨v3, rfl, hr3, hk5⟩)
        have hnx := Lib.hid (HS.out.next HG.out H2.out.1 H2.out.2 (by assumption) (by assumption))
        refine ⟨⟨j + 1, _, hlt, by go_num, hnx.out⟩, by simp [intOf]; omega⟩
      · have HCE := Lib.hid hce
        clear hce
        go_wp2_with fail
        refine HCL.out.mono ?_
        rintro e w2 ⟨he, hk3, hs3⟩
        unfold errVal errno at he
        rw [if_neg HCE.out] at he
        rw [if_neg HCE.out] at hs3
        subst he
        have hnx := Lib.hid (HS.out.skip HG.out hk3 hs3 rfl)
        clear hk3 hs3 hcj
        go_wp2_with fail
        refine ⟨⟨j + 1, _, hlt, by go_num, hnx.out⟩, by simp [intOf]; omega⟩
    · have hnext := Lib.hid (snext HS.out.sl (HT.out.kept HS.out.keep id) x)
      have hall := Lib.hid (refAll ta tc k S wr HTR.out (by omega))
      go_wp2_with fail
      all_goals
        refine hnext.out.mono ?_
        rintro e w2 ⟨f, y, hans, rfl, rfl⟩
        have HANS := Lib.hid hans
        clear hans
        go_wp2_with fail
        refine hall.out.mono ?_
        rintro e w2 ⟨v2, rfl, ho2, hk3⟩
        obtain ⟨a2, c2, rfl, hrd, _⟩ := Rd.of_own ho2
        have HRD := Lib.hid hrd
        have HK2 := Lib.hid (HS.out.keep.trans' hk3)
        have hsure := Lib.hid (sure02 w2 (HT.out.kept HK2.out id))
        have hcb := cnt_le S k
        have hal : Hid ((allOf S k).length = cnt S k) := rfl
        generalize hlen : (allOf S k).length = len at *
        have HLEN := Lib.hid hlen
        have hcb' : len ≤ k := by rw [hal.out]; exact hcb
        clear ho2 hk3 hrd hlen hall hnext hcb
        go_wp2_with fail
        go_loopw [15] (fun i wr2 => w2 = wr2 ∧ ∃ q : Nat, q ≤ len ∧ i = .int .i64 (q : Int) ∧ Hid (∀ (j z' : Nat), j < q → (allOf S k)[j]? = some z' → (z' : Int) < x)) (fun i _ => len - (intOf i).toNat)
        case atStart => exact ⟨rfl, 0, Nat.zero_le _, rfl, fun j z' h => absurd h (by omega)⟩
        case round =>
          obtain ⟨rfl, q, hq, rfl, hlo⟩ := hrel
          by_cases hql : q < len
          · obtain ⟨z, hz⟩ : ∃ z, (allOf S k)[q]? = some z := ⟨_, List.getElem?_eq_getElem (by rw [HLEN.out]; exact hql)⟩
            obtain ⟨ab, off, rfl, hc⟩ := HRD.out.at_ q (by rw [ints_length, HLEN.out]; exact hql)
            have hcj := hc q (by rw [ints_length, HLEN.out]; exact hql)
            rw [show (ints (allOf S k))[q]? = some (.int .i64 (z : Int)) from by simp [ints, hz]] at hcj
            have HZ := Lib.hid hz
            clear hc hz
            by_cases hxz : x ≤ z
            · obtain ⟨hft, hyz⟩ := next_hit HANS.out HZ.out hxz hlo.out
              subst hft hyz
              go_wp2_with (go_at_call 23; refine hsure.out.mono ?_; rintro e w3 ⟨rfl, hk4⟩)
              go_ret
              exact ⟨rfl, HK2.out.trans' (by assumption)⟩
            · go_wp2_with fail
              refine ⟨⟨trivial, q + 1, hql, by go_num, fun j z' hj hz' => ?_⟩, by simp [intOf]; omega⟩
              by_cases e : j = q
              · subst e; rw [HZ.out] at hz'; simp at hz'; omega
              · exact hlo.out j z' (by omega) hz'
          · obtain ⟨hff, hy0⟩ := next_end HANS.out (fun j z' hj hz' => hlo.out j z' (by rw [HLEN.out] at hj; omega) hz')
            subst hff hy0
            go_wp2_with (go_at_call 23; refine hsure.out.mono ?_; rintro e w3 ⟨rfl, hk4⟩)
            go_ret
            exact ⟨rfl, HK2.out.trans' (by assumption)⟩

theorem slotsNexts_enter (W : World) (hT : Tab W) (n : Int) (_ : (Lit.int .i64 n).wf = true) (a : Option Addr) (c : Nat) (zs : List Int) (hr : Rd W a (zs.map fun z => Value.int .i64 z)) (hl : zs.length ≤ 9223372036854775807) (_ : ∀ z ∈ zs, (Lit.int .i64 z).wf = true)
    (x : Int) (_ : (Lit.int .i64 x).wf = true) :
    Calls Tryd.prog 3 #[.int .i64 n, .slice a zs.length c, .int .i64 x] W (TruePost W) := slotsNexts_walk n a c zs x W hT hr hl
end Go.Proofs.YtiphdlhnoceeiaaDoor
