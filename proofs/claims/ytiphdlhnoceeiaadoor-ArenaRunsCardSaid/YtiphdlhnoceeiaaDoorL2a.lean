/- Chapter 2's laws: sure, SlotsOrder. -/
import Derived.Test.YtiphdlhnoceeiaaDoorSl6
import Derived.Test.YtiphdlhnoceeiaaDoorRd
namespace Go.Proofs.YtiphdlhnoceeiaaDoor
open Go Go.RowKit
set_option linter.unusedVariables false
set_option linter.unusedSimpArgs false

theorem Tab.lt {w : World} (h : Tab w) : 0 < w.heap.size := World.block_lt_of_cell? w _ (h 0 (by decide))
theorem Keeps.thin {fp : Nat → Prop} {a b c : World} (h : Keeps (fun _ => False) a b) (k : Keeps fp b c) (hs : ∀ i, fp i → a.heap.size ≤ i) : Keeps (fun _ => False) a c :=
  h.trans k fun i hi e => by have := hs i e; omega

def TruePost (w : World) (e : Ending) (w' : World) : Prop := e = .returned (.bool true) ∧ Keeps (fun _ => False) w w'

set_option maxHeartbeats 1000000 in
set_option maxRecDepth 100000 in
theorem sure02 (w : World) (hT : Tab w) : Calls Tryd.prog 23 #[] w (TruePost w) := by
  have HT := Lib.hid hT
  have hg := hT.lt
  clear hT
  go_enter Tryd.func23, Tryd.ntmps23
  go_wp2_with fail
  refine (snew 5 5 rfl w (by decide) (by decide)).mono ?_
  rintro e w1 ⟨b, own, rfl, hs1, hge, hk1⟩
  have ht1 := HT.out.kept hk1 id
  have H1 := Lib.hid (And.intro hs1 (And.intro hge hk1))
  have hc := Lib.hid (stake hs1 ht1 0 (by decide) rfl (by omega))
  clear hs1 hge hk1 ht1
  go_wp2_with fail
  refine hc.out.mono ?_
  rintro e w2 ⟨rfl, hk, hs⟩
  have hk2 := H1.out.2.2.thin hk H1.out.2.1
  have hc := Lib.hid (stake hs (HT.out.kept hk2 id) 1 (by decide) rfl (by intro y hy; have : y = 0 := by omega
                                                                          subst this; rfl))
  have H2 := Lib.hid (And.intro hs hk2)
  clear hs hk hk2
  go_wp2_with fail
  refine hc.out.mono ?_
  rintro e w3 ⟨rfl, hk, hs⟩
  have hk2 := H2.out.2.thin hk H1.out.2.1
  have hc := Lib.hid (stake hs (HT.out.kept hk2 id) 2 (by decide) rfl (by intro y hy; have : y = 0 ∨ y = 1 := by omega
                                                                          rcases this with rfl | rfl <;> rfl))
  have H3 := Lib.hid (And.intro hs hk2)
  clear hs hk hk2
  go_wp2_with fail
  refine hc.out.mono ?_
  rintro e w4 ⟨rfl, hk, hs⟩
  have hk2 := H3.out.2.thin hk H1.out.2.1
  have hc := Lib.hid (sfree hs 1)
  have H4 := Lib.hid (And.intro hs hk2)
  clear hs hk hk2
  go_wp2_with fail
  refine hc.out.mono ?_
  rintro e w5 ⟨he, hk, hs⟩
  obtain rfl : e = .returned .nilIface := he
  have hk2 := H4.out.2.thin hk H1.out.2.1
  have hc := Lib.hid (stake hs (HT.out.kept hk2 id) 1 (by decide) rfl (by intro y hy; have : y = 0 := by omega
                                                                          subst this; rfl))
  have H5 := Lib.hid (And.intro hs hk2)
  clear hs hk hk2
  go_wp2_with fail
  refine hc.out.mono ?_
  rintro e w6 ⟨rfl, hk, hs⟩
  have H6 := Lib.hid (H5.out.2.thin hk H1.out.2.1)
  clear hs hk
  go_wp2_with fail
  go_ret
  exact ⟨rfl, H6.out⟩

/-- Whole numbers as values. -/
def i64s (l : List Int) : List Value := l.map fun z => Value.int .i64 z
/-- A number without its sign, as 64 bits. -/
def unsg (n : Int) : Nat := (n % 18446744073709551616).toNat
/-- What the laws take for a size. -/
def kof (n : Int) (m : Nat) : Nat := 1 + unsg n % m
theorem unsg_eq (n : Int) : IntKind.u64.wrap n = (unsg n : Int) := by rw [IntKind.wrap_u64]; unfold unsg; omega
theorem mod_val (n : Int) (m : Nat) (h0 : 0 < m) (hm : m ≤ 1048576) : wrap64 ((IntKind.u64.wrap n).tmod m) = ((unsg n % m : Nat) : Int) := by
  rw [unsg_eq, ← Int.ofNat_tmod]
  have := Nat.mod_lt (unsg n) h0
  unfold wrap64
  omega
theorem kof_val (n : Int) (m : Nat) (h0 : 0 < m) (hm : m ≤ 100000) : wrap64 (1 + wrap64 ((IntKind.u64.wrap n).tmod m)) = (kof n m : Int) := by
  rw [mod_val n m h0 (by omega)]
  have := Nat.mod_lt (unsg n) h0
  unfold wrap64 kof
  omega
theorem kof_le (n : Int) (m : Nat) (h0 : 0 < m) : 1 ≤ kof n m ∧ kof n m ≤ m := by
  have := Nat.mod_lt (unsg n) h0
  unfold kof
  omega

theorem allOf_get (S : Nat → Bool) (k x : Nat) (hx : x < k) (hS : S x = true) : (allOf S k)[cnt S x]? = some x := by
  obtain ⟨d, rfl⟩ : ∃ d, k = x + 1 + d := ⟨k - (x + 1), by omega⟩
  unfold allOf
  rw [List.range_add, List.filter_append, List.range_succ, List.filter_append, List.append_assoc]
  have e : ((List.range x).filter S).length = cnt S x := rfl
  rw [List.getElem?_append_right (by omega), e, Nat.sub_self]
  simp [hS]
theorem allOf_len (S : Nat → Bool) (k : Nat) : (allOf S k).length = cnt S k := rfl
theorem cnt_mono (S : Nat → Bool) (x k : Nat) (h : x ≤ k) : cnt S x ≤ cnt S k := by
  obtain ⟨d, rfl⟩ : ∃ d, k = x + d := ⟨k - x, by omega⟩
  induction d with
  | zero => exact Nat.le_refl _
  | succ d ih => rw [← Nat.add_assoc, cnt_succ]; have := ih (by omega); omega

def SlLoop (w : World) (b k : Nat) (own : Nat → Prop) (S : Nat → Bool) (wr : World) : Prop := Sl wr b own k S ∧ Keeps (fun _ => False) w wr

set_option maxHeartbeats 1000000 in
set_option maxRecDepth 100000 in
theorem slotsOrder_walk (n : Int) (a : Option Addr) (c : Nat) (zs : List Int) (w : World) (hT : Tab w) (hr : Rd w a (i64s zs)) (hl : zs.length ≤ 9223372036854775807) :
    Calls Tryd.prog 4 #[.int .i64 n, .slice a zs.length c] w (TruePost w) := by
  have HT := Lib.hid hT
  have HR := Lib.hid hr
  have hg := hT.lt
  clear hT hr
  obtain ⟨hk1, hk2⟩ := kof_le n 400 (by decide)
  have HK := Lib.hid (kof_val n 400 (by decide) (by decide))
  generalize kof n 400 = k at *
  go_enter Tryd.func4, Tryd.ntmps4
  go_wp2_with fail
  rw [show (400 : Int) = ((400 : Nat) : Int) from rfl, HK.out]
  refine (snew _ k rfl w hk1 (by omega)).mono ?_
  rintro e w1 ⟨b, own, rfl, hs1, hge, hkp⟩
  have HG := Lib.hid hge
  have HS := Lib.hid (show SlLoop w b k own _ w1 from ⟨hs1, hkp⟩)
  clear hs1 hge hkp
  go_wp2_with fail
  go_loopw [8] (fun i wr => ∃ (j : Nat) (S : Nat → Bool), j ≤ zs.length ∧ i = .int .i64 (j : Int) ∧ SlLoop w b k own S wr) (fun i _ => zs.length - (intOf i).toNat)
  case atStart => exact ⟨0, _, Nat.zero_le _, rfl, HS.out⟩
  case round =>
    obtain ⟨j, S, hj, rfl, hs⟩ := hrel
    have HS := Lib.hid hs
    clear hs
    by_cases hlt : j < zs.length ∧ j < 100
    · obtain ⟨hlt, hlt2⟩ := hlt
      obtain ⟨ab, off, rfl, hc⟩ := (HR.out.keep HS.out.2).at_ j (by simp [i64s]; exact hlt)
      have hcj := hc j (by simp [i64s]; exact hlt)
      rw [show (i64s zs)[j]? = some (.int .i64 zs[j]) from by simp [i64s, hlt]] at hcj
      clear hc
      have HM := Lib.hid (mod_val zs[j] k (by omega) (by omega))
      generalize zs[j] = z at *
      have hcl := Lib.hid (sclaim HS.out.1 ((unsg z % k : Nat) : Int))
      go_wp2_with fail
      rw [HM.out]
      refine hcl.out.mono ?_
      rintro e w2 ⟨rfl, hk3, hs3⟩
      have hst := Lib.hid (show SlLoop w b k own _ w2 from ⟨hs3, HS.out.2.thin hk3 HG.out⟩)
      clear hk3 hs3 hcl
      go_wp2_with fail
      refine ⟨⟨j + 1, _, hlt, by go_num, hst.out⟩, by simp [intOf]; omega⟩
    · have hall := Lib.hid (sall HS.out.1 (HT.out.kept HS.out.2 id))
      go_wp2_with fail
      all_goals
        refine hall.out.mono ?_
        rintro e w2 ⟨v, rfl, ho, hk3⟩
        obtain ⟨a2, c2, rfl, hrd, _⟩ := Rd.of_own ho
        have hcb := cnt_le S k
        have HS2 := Lib.hid (show SlLoop w b k own S w2 from ⟨HS.out.1.keep hk3, HS.out.2.trans' hk3⟩)
        have HRD := Lib.hid hrd
        clear ho hk3 hrd hall
        rw [allOf_len]
        have hlen := Lib.hid (slen HS2.out.1)
        have hsure := Lib.hid (sure02 w2 (HT.out.kept HS2.out.2 id))
        go_wp2_with fail
        go_loopw [10, 11] (fun t x wr2 => w2 = wr2 ∧ ∃ (y : Nat), y ≤ k ∧ x = .int .i64 (y : Int) ∧ t = .int .i64 (cnt S y : Nat)) (fun _ x _ => k - (intOf x).toNat)
        case atStart => exact ⟨rfl, 0, Nat.zero_le _, rfl, rfl⟩
        case round =>
          obtain ⟨rfl, y, hy, rfl, rfl⟩ := hrel
          by_cases hyk : y < k
          · have hhas := Lib.hid (shas_nat HS2.out.1 (y : Int) y rfl hyk)
            have hcm := cnt_mono S (y + 1) k hyk
            have hcs := cnt_succ S y
            cases hSy : S y with
            | true =>
              rw [hSy] at hhas hcs
              have hcs' : Hid (cnt S (y + 1) = cnt S y + 1) := hcs
              have hlt : cnt S y < cnt S k := by simp at hcs; omega
              clear hcs hcm
              obtain ⟨ab, off, rfl, hc⟩ := HRD.out.at_ (cnt S y) (by rw [ints_length]; exact hlt)
              have hcj := hc (cnt S y) (by rw [ints_length]; exact hlt)
              rw [show (ints (allOf S k))[cnt S y]? = some (.int .i64 (y : Int)) from by simp [ints, allOf_get S k y hyk hSy]] at hcj
              clear hc hSy
              generalize cnt S y = cy at *
              go_wp2_with (go_at_call 25; refine hhas.out.mono ?_; rintro e w' ⟨rfl, rfl⟩)
              refine ⟨⟨trivial, y + 1, hyk, by go_num, by rw [hcs'.out]; go_num⟩, by simp [intOf]; omega⟩
            | false =>
              rw [hSy] at hhas hcs
              have hcs' : Hid (cnt S (y + 1) = cnt S y) := by show cnt S (y + 1) = cnt S y; simpa using hcs
              clear hcs hcm hSy
              generalize cnt S y = cy at *
              go_wp2_with (go_at_call 25; refine hhas.out.mono ?_; rintro e w' ⟨rfl, rfl⟩)
              refine ⟨⟨trivial, y + 1, hyk, by go_num, by rw [hcs'.out]⟩, by simp [intOf]; omega⟩
          · obtain rfl : y = k := by omega
            generalize cnt S y = cy at *
            go_wp2_with (first | (go_at_call 26; refine hlen.out.mono ?_; rintro e w' ⟨rfl, rfl⟩) | (go_at_call 23; refine hsure.out.mono ?_; rintro e w3 ⟨rfl, hk4⟩))
            go_ret
            exact ⟨rfl, HS2.out.2.trans' (by assumption)⟩

theorem slotsOrder_enter (W : World) (hT : Tab W) (n : Int) (_ : (Lit.int .i64 n).wf = true) (a : Option Addr) (c : Nat) (zs : List Int) (hr : Rd W a (zs.map fun z => Value.int .i64 z)) (hl : zs.length ≤ 9223372036854775807) (_ : ∀ z ∈ zs, (Lit.int .i64 z).wf = true) :
    Calls Tryd.prog 4 #[.int .i64 n, .slice a zs.length c] W (TruePost W) := slotsOrder_walk n a c zs W hT hr hl
end Go.Proofs.YtiphdlhnoceeiaaDoor
