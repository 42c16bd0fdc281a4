/- Chapter 2's laws: ints, SlotsBack. -/
import Derived.Test.YtiphdlhnoceeiaaDoorRef2
import Derived.Test.YtiphdlhnoceeiaaDoorNum
namespace Go.Proofs.YtiphdlhnoceeiaaDoor
open Go Go.RowKit
set_option linter.unusedVariables false
set_option linter.unusedSimpArgs false

set_option maxHeartbeats 1000000 in
set_option maxRecDepth 100000 in
theorem ints02 (a1 a2 : Option Addr) (c1 c2 n : Nat) (l : List Nat) (hn : n = l.length) (hm : n ≤ 9000000000000000000) (w : World) (h1 : Rd w a1 (ints l)) (h2 : Rd w a2 (ints l)) :
    Calls Tryd.prog 36 #[.slice a1 n c1, .slice a2 n c2] w (TruePost w) := by
  have H1 := Lib.hid h1
  have H2 := Lib.hid h2
  have HN := Lib.hid hn
  clear h1 h2 hn
  go_enter Tryd.func36, Tryd.ntmps36
  go_wp2_with fail
  go_loopw [5] (fun i wr => ∃ (k q : Nat), k ≤ n ∧ i = .int .i64 (k : Int) ∧ wr = w.drewN q) (fun i _ => n - (intOf i).toNat)
  case atStart => exact ⟨0, 0, Nat.zero_le _, rfl, rfl⟩
  case round =>
    obtain ⟨k, q, hk, rfl, rfl⟩ := hrel
    by_cases hlt : k < n
    · obtain ⟨b1, o1, rfl, hc1⟩ := H1.out.at_ k (by rw [ints_length, ← HN.out]; exact hlt)
      obtain ⟨b2, o2, rfl, hc2⟩ := H2.out.at_ k (by rw [ints_length, ← HN.out]; exact hlt)
      have hj1 := hc1 k (by rw [ints_length, ← HN.out]; exact hlt)
      have hj2 := hc2 k (by rw [ints_length, ← HN.out]; exact hlt)
      obtain ⟨z, hz⟩ : ∃ z, l[k]? = some z := ⟨_, List.getElem?_eq_getElem (by rw [← HN.out]; exact hlt)⟩
      rw [show (ints l)[k]? = some (.int .i64 (z : Int)) from by simp [ints, hz]] at hj1 hj2
      clear hc1 hc2 hz
      go_wp2_with fail
      go_quiet (fail)
      go_wp2_with fail
      refine ⟨⟨k + 1, _, hlt, by go_num, rfl⟩, by simp [intOf]; omega⟩
    · go_wp2_with fail
      go_ret
      exact ⟨rfl, (Keeps.refl _ _).drewN _⟩

theorem upd_back {S : Nat → Bool} {x : Nat} {b c : Bool} (h : S x = b) : upd (upd S x c) x b = S := by
  funext y
  unfold upd
  split
  · rename_i e; rw [e, h]
  · rfl
theorem hasAt_nat (S : Nat → Bool) (n y : Nat) (h : y < n) : hasAt S n (y : Int) = S y := by simp [hasAt, h]
theorem claimErr_same {S : Nat → Bool} {n y : Nat} (h : y < n) (hS : S y = true) : claimErr S n (y : Int) = 20 := by simp [claimErr, hS]; omega
theorem claimErr_ok {S : Nat → Bool} {n y : Nat} (h : y < n) (hS : S y = false) : claimErr S n (y : Int) = 0 := by simp [claimErr, hS]; omega
theorem freeErr_apart {S : Nat → Bool} {n y : Nat} (h : y < n) (hS : S y = false) : freeErr S n (y : Int) = 21 := by simp [freeErr, hS]; omega
theorem freeErr_ok {S : Nat → Bool} {n y : Nat} (h : y < n) (hS : S y = true) : freeErr S n (y : Int) = 0 := by simp [freeErr, hS]; omega
theorem upd_at (S : Nat → Bool) (x : Nat) (b : Bool) : upd S x b x = b := by simp [upd]

/-- A claim, or a freeing, with its error known. -/
def ActPost (w : World) (b n : Nat) (own : Nat → Prop) (S : Nat → Bool) (v : Value) (e : Ending) (w' : World) : Prop :=
  e = .returned v ∧ Keeps own w w' ∧ Sl w' b own n S
section
variable {w : World} {b n : Nat} {own : Nat → Prop} {S : Nat → Bool}
theorem claim_no (h : Sl w b own n S) (x : Int) (y : Nat) (hx : x = y) (hy : y < n) (hS : S y = true) : Calls Tryd.prog 19 #[.pointer (some ⟨b, 0, none⟩), .int .i64 x] w (ActPost w b n own S (errVal 20)) := by
  subst hx
  refine (sclaim h y).mono ?_
  rintro e w' ⟨he, hk, hs⟩
  rw [claimErr_same hy hS] at he hs
  exact ⟨he, hk, hs⟩
theorem claim_yes (h : Sl w b own n S) (x : Int) (y : Nat) (hx : x = y) (hy : y < n) (hS : S y = false) : Calls Tryd.prog 19 #[.pointer (some ⟨b, 0, none⟩), .int .i64 x] w (ActPost w b n own (upd S y true) .nilIface) := by
  subst hx
  refine (sclaim h y).mono ?_
  rintro e w' ⟨he, hk, hs⟩
  rw [claimErr_ok hy hS] at he hs
  exact ⟨he, hk, by simpa using hs⟩
theorem free_no (h : Sl w b own n S) (x : Int) (y : Nat) (hx : x = y) (hy : y < n) (hS : S y = false) : Calls Tryd.prog 35 #[.pointer (some ⟨b, 0, none⟩), .int .i64 x] w (ActPost w b n own S (errVal 21)) := by
  subst hx
  refine (sfree h y).mono ?_
  rintro e w' ⟨he, hk, hs⟩
  rw [freeErr_apart hy hS] at he hs
  exact ⟨he, hk, hs⟩
theorem free_yes (h : Sl w b own n S) (x : Int) (y : Nat) (hx : x = y) (hy : y < n) (hS : S y = true) : Calls Tryd.prog 35 #[.pointer (some ⟨b, 0, none⟩), .int .i64 x] w (ActPost w b n own (upd S y false) .nilIface) := by
  subst hx
  refine (sfree h y).mono ?_
  rintro e w' ⟨he, hk, hs⟩
  rw [freeErr_ok hy hS] at he hs
  exact ⟨he, hk, by simpa using hs⟩
end

/-- The object, behind some acts of a law that began at w. -/
theorem SlLoop.act {w wr w2 : World} {b k : Nat} {own : Nat → Prop} {S T : Nat → Bool} (h : SlLoop w b k own S wr) (hge : ∀ i, own i → w.heap.size ≤ i) (hk : Keeps own wr w2) (hs : Sl w2 b own k T) : SlLoop w b k own T w2 :=
  ⟨hs, h.2.thin hk hge⟩
theorem SlLoop.keeps {w wr w2 : World} {b k : Nat} {own : Nat → Prop} {S : Nat → Bool} (h : SlLoop w b k own S wr) (hk : Keeps (fun _ => False) wr w2) : SlLoop w b k own S w2 :=
  ⟨h.1.keep hk, h.2.trans' hk⟩
theorem ErrT.keep {w w' : World} (h : ErrT w) (hk : Keeps (fun _ => False) w w') : ErrT w' := h.kept hk id
theorem Tab.keep {w w' : World} (h : Tab w) (hk : Keeps (fun _ => False) w w') : Tab w' := h.kept hk id

set_option maxHeartbeats 2000000 in
set_option maxRecDepth 100000 in
theorem slotsBack_walk (n : Int) (a : Option Addr) (c : Nat) (zs : List Int) (x : Int) (w : World) (hT : Tab w) (hE : ErrT w) (hr : Rd w a (i64s zs)) (hl : zs.length ≤ 9223372036854775807) :
    Calls Tryd.prog 8 #[.int .i64 n, .slice a zs.length c, .int .i64 x] w (TruePost w) := by
  have HT := Lib.hid hT
  have HE := Lib.hid hE
  have HR := Lib.hid hr
  have hg := hT.lt
  clear hT hr hE
  obtain ⟨hk1, hk2⟩ := kof_le n 400 (by decide)
  have HK := Lib.hid (kof_val n 400 (by decide) (by decide))
  generalize kof n 400 = k at *
  have HX := Lib.hid (mod_val x k (by omega) (by omega))
  have hy := Nat.mod_lt (unsg x) (show 0 < k by omega)
  generalize unsg x % k = y at *
  go_enter Tryd.func8, Tryd.ntmps8
  go_wp2_with fail
  rw [show (400 : Int) = ((400 : Nat) : Int) from rfl, HK.out]
  refine (snew _ k rfl w hk1 (by omega)).mono ?_
  rintro e w1 ⟨b, own, rfl, hs1, hge, hkp⟩
  have HG := Lib.hid hge
  have HS := Lib.hid (show SlLoop w b k own _ w1 from ⟨hs1, hkp⟩)
  clear hs1 hge hkp
  go_wp2_with fail
  go_loopw [10] (fun i wr => ∃ (j : Nat) (S : Nat → Bool), j ≤ zs.length ∧ i = .int .i64 (j : Int) ∧ SlLoop w b k own S wr) (fun i _ => zs.length - (intOf i).toNat)
  case atStart => exact ⟨0, _, Nat.zero_le _, rfl, HS.out⟩
  case round =>
    obtain ⟨j, S, hj, rfl, hs⟩ := hrel
    have HS := Lib.hid hs
    clear hs
    by_cases hlt : j < zs.length ∧ j < 60
    · obtain ⟨hlt, hlt2⟩ := hlt
      obtain ⟨ab, off, rfl, hc⟩ := (HR.out.keep HS.out.2).at_ j (by simp [i64s]; exact hlt)
      have hcj := hc j (by simp [i64s]; exact hlt)
      rw [show (i64s zs)[j]? = some (.int .i64 zs[j]) from by simp [i64s, hlt]] at hcj
      clear hc
      have HM := Lib.hid (mod_val zs[j] k (by omega) (by omega))
      generalize zs[j] = z at *
      have hcl := Lib.hid (sclaim HS.out.1 ((unsg z % k : Nat) : Int))
      go_wp2_with fail
      rw [HM.out]
      refine hcl.out.mono ?_
      rintro e w2 ⟨rfl, hk3, hs3⟩
      have hst := Lib.hid (show SlLoop w b k own _ w2 from ⟨hs3, HS.out.2.thin hk3 HG.out⟩)
      clear hk3 hs3 hcl
      go_wp2_with fail
      refine ⟨⟨j + 1, _, hlt, by go_num, hst.out⟩, by simp [intOf]; omega⟩
    · have hall := Lib.hid (sall HS.out.1 (HT.out.keep HS.out.2))
      go_wp2_with fail
      all_goals
        rw [HX.out]
        refine hall.out.mono ?_
        rintro e w2 ⟨v, rfl, ho, hk3⟩
        obtain ⟨a2, c2, rfl, hrd, _, hob⟩ := Rd.of_own ho
        have HNO : Hid (∀ g off, a2 = some ⟨g, off, none⟩ → ¬ own g) := fun g off e hog => by
          have := (ho.lt g (hob g off e)).1
          have := HS.out.1.lt g hog
          omega
        have HS2 := Lib.hid (HS.out.keeps hk3)
        have HRD := Lib.hid hrd
        have hcb := cnt_le S k
        have hal : Hid ((allOf S k).length = cnt S k) := rfl
        generalize hlen : (allOf S k).length = len at *
        have HLEN := Lib.hid hlen
        have hcb' : len ≤ k := by rw [hal.out]; exact hcb
        have hhas := Lib.hid (shas_nat HS2.out.1 (y : Int) y rfl hy)
        clear ho hk3 hrd hob hall hlen hcb
        cases hSy : S y with
        | true =>
          rw [hSy] at hhas
          have hc1 := Lib.hid (claim_no HS2.out.1 (y : Int) y rfl hy hSy)
          go_wp2_with (go_at_call 25; refine hhas.out.mono ?_; rintro e w' ⟨rfl, rfl⟩)
          refine hc1.out.mono ?_
          rintro e w3 ⟨rfl, hk, hs⟩
          have H3 := Lib.hid (HS2.out.act HG.out hk hs)
          have HR3 := Lib.hid (HRD.out.kept hk HNO.out)
          clear hk hs hc1
          go_wp2_with fail
          refine (num02_val 20 w3 (HE.out.keep H3.out.2)).mono ?_
          rintro e w4 ⟨rfl, hk⟩
          have H4 := Lib.hid (H3.out.keeps hk)
          have HR4 := Lib.hid (HR3.out.keep hk)
          have hc := Lib.hid (free_yes H4.out.1 (y : Int) y rfl hy hSy)
          clear hk
          go_wp2_with fail
          refine hc.out.mono ?_
          rintro e w5 ⟨rfl, hk, hs⟩
          have H5 := Lib.hid (H4.out.act HG.out hk hs)
          have HR5 := Lib.hid (HR4.out.kept hk HNO.out)
          have hc := Lib.hid (free_no H5.out.1 (y : Int) y rfl hy (upd_at S y false))
          clear hk hs
          go_wp2_with fail
          refine hc.out.mono ?_
          rintro e w6 ⟨rfl, hk, hs⟩
          have H6 := Lib.hid (H5.out.act HG.out hk hs)
          have HR6 := Lib.hid (HR5.out.kept hk HNO.out)
          clear hk hs
          go_wp2_with fail
          refine (num02_val 21 w6 (HE.out.keep H6.out.2)).mono ?_
          rintro e w7 ⟨rfl, hk⟩
          have H7 := Lib.hid (H6.out.keeps hk)
          have HR7 := Lib.hid (HR6.out.keep hk)
          have hc := Lib.hid (claim_yes H7.out.1 (y : Int) y rfl hy (upd_at S y false))
          clear hk
          go_wp2_with fail
          refine hc.out.mono ?_
          rintro e w8 ⟨rfl, hk, hs⟩
          rw [upd_back hSy] at hs
          have H8 := Lib.hid (H7.out.act HG.out hk hs)
          have HR8 := Lib.hid (HR7.out.kept hk HNO.out)
          have hc := Lib.hid (sall H8.out.1 (HT.out.keep H8.out.2))
          clear hk hs
          go_wp2_with fail
          refine hc.out.mono ?_
          rintro e w9 ⟨v9, rfl, ho, hk⟩
          obtain ⟨a9, c9, rfl, hrd, _, _⟩ := Rd.of_own ho
          have H9 := Lib.hid (H8.out.keeps hk)
          have HR9 := Lib.hid (HR8.out.keep hk)
          have hc := Lib.hid (ints02 a9 a2 c9 c2 len (allOf S k) HLEN.out.symm (by omega) w9 hrd HR9.out)
          clear ho hk hrd
          rw [HLEN.out]
          go_wp2_with fail
          refine hc.out.mono ?_
          rintro e w10 ⟨rfl, hk⟩
          have H10 := Lib.hid (H9.out.keeps hk)
          have hc := Lib.hid (sure02 w10 (HT.out.keep H10.out.2))
          clear hk
          go_wp2_with fail
          refine hc.out.mono ?_
          rintro e w11 ⟨rfl, hk⟩
          have H11 := Lib.hid (H10.out.keeps hk)
          clear hk
          go_wp2_with fail
          go_ret
          exact ⟨rfl, H11.out.2⟩
        | false =>
          rw [hSy] at hhas
          have hc1 := Lib.hid (free_no HS2.out.1 (y : Int) y rfl hy hSy)
          go_wp2_with (go_at_call 25; refine hhas.out.mono ?_; rintro e w' ⟨rfl, rfl⟩)
          refine hc1.out.mono ?_
          rintro e w3 ⟨rfl, hk, hs⟩
          have H3 := Lib.hid (HS2.out.act HG.out hk hs)
          have HR3 := Lib.hid (HRD.out.kept hk HNO.out)
          clear hk hs hc1
          go_wp2_with fail
          refine (num02_val 21 w3 (HE.out.keep H3.out.2)).mono ?_
          rintro e w4 ⟨rfl, hk⟩
          have H4 := Lib.hid (H3.out.keeps hk)
          have HR4 := Lib.hid (HR3.out.keep hk)
          have hc := Lib.hid (claim_yes H4.out.1 (y : Int) y rfl hy hSy)
          clear hk
          go_wp2_with fail
          refine hc.out.mono ?_
          rintro e w5 ⟨rfl, hk, hs⟩
          have H5 := Lib.hid (H4.out.act HG.out hk hs)
          have HR5 := Lib.hid (HR4.out.kept hk HNO.out)
          have hc := Lib.hid (claim_no H5.out.1 (y : Int) y rfl hy (upd_at S y true))
          clear hk hs
          go_wp2_with fail
          refine hc.out.mono ?_
          rintro e w6 ⟨rfl, hk, hs⟩
          have H6 := Lib.hid (H5.out.act HG.out hk hs)
          have HR6 := Lib.hid (HR5.out.kept hk HNO.out)
          clear hk hs
          go_wp2_with fail
          refine (num02_val 20 w6 (HE.out.keep H6.out.2)).mono ?_
          rintro e w7 ⟨rfl, hk⟩
          have H7 := Lib.hid (H6.out.keeps hk)
          have HR7 := Lib.hid (HR6.out.keep hk)
          have hc := Lib.hid (free_yes H7.out.1 (y : Int) y rfl hy (upd_at S y true))
          clear hk
          go_wp2_with fail
          refine hc.out.mono ?_
          rintro e w8 ⟨rfl, hk, hs⟩
          rw [upd_back hSy] at hs
          have H8 := Lib.hid (H7.out.act HG.out hk hs)
          have HR8 := Lib.hid (HR7.out.kept hk HNO.out)
          have hc := Lib.hid (sall H8.out.1 (HT.out.keep H8.out.2))
          clear hk hs
          go_wp2_with fail
          refine hc.out.mono ?_
          rintro e w9 ⟨v9, rfl, ho, hk⟩
          obtain ⟨a9, c9, rfl, hrd, _, _⟩ := Rd.of_own ho
          have H9 := Lib.hid (H8.out.keeps hk)
          have HR9 := Lib.hid (HR8.out.keep hk)
          have hc := Lib.hid (ints02 a9 a2 c9 c2 len (allOf S k) HLEN.out.symm (by omega) w9 hrd HR9.out)
          clear ho hk hrd
          rw [HLEN.out]
          go_wp2_with fail
          refine hc.out.mono ?_
          rintro e w10 ⟨rfl, hk⟩
          have H10 := Lib.hid (H9.out.keeps hk)
          have hc := Lib.hid (sure02 w10 (HT.out.keep H10.out.2))
          clear hk
          go_wp2_with fail
          refine hc.out.mono ?_
          rintro e w11 ⟨rfl, hk⟩
          have H11 := Lib.hid (H10.out.keeps hk)
          clear hk
          go_wp2_with fail
          go_ret
          exact ⟨rfl, H11.out.2⟩

theorem slotsBack_enter (W : World) (hT : Tab W) (hE : ErrT W) (n : Int) (_ : (Lit.int .i64 n).wf = true) (a : Option Addr) (c : Nat) (zs : List Int) (hr : Rd W a (zs.map fun z => Value.int .i64 z)) (hl : zs.length ≤ 9223372036854775807) (_ : ∀ z ∈ zs, (Lit.int .i64 z).wf = true)
    (x : Int) (_ : (Lit.int .i64 x).wf = true) :
    Calls Tryd.prog 8 #[.int .i64 n, .slice a zs.length c, .int .i64 x] W (TruePost W) := slotsBack_walk n a c zs x W hT hE hr hl
end Go.Proofs.YtiphdlhnoceeiaaDoor
