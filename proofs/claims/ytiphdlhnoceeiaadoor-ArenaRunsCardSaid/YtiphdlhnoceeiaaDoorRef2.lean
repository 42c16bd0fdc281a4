/- Chapter 2's reference: lists of truths. -/
import Derived.Test.YtiphdlhnoceeiaaDoorL2a
namespace Go.Proofs.YtiphdlhnoceeiaaDoor
open Go Go.RowKit
set_option linter.unusedVariables false
set_option linter.unusedSimpArgs false

/-- A list of truths as values. -/
def bools (S : Nat → Bool) (k : Nat) : List Value := (List.range k).map fun i => Value.bool (S i)
theorem bools_length (S : Nat → Bool) (k : Nat) : (bools S k).length = k := by simp [bools]
theorem bools_get (S : Nat → Bool) (k i : Nat) (h : i < k) : (bools S k)[i]? = some (.bool (S i)) := by simp [bools, List.getElem?_range h]
theorem bools_set (S : Nat → Bool) (k i : Nat) (b : Bool) : (bools S k).set i (.bool b) = bools (upd S i b) k := by
  apply List.ext_getElem?
  intro j
  by_cases hj : j < k
  · by_cases e : i = j
    · subst e
      rw [List.getElem?_set_self (by rw [bools_length]; exact hj), bools_get _ _ _ hj]
      simp [upd]
    · rw [List.getElem?_set_ne e, bools_get _ _ _ hj, bools_get _ _ _ hj]
      simp [upd, Ne.symm e]
  · rw [List.getElem?_eq_none (by simp [bools]; omega), List.getElem?_eq_none (by simp [bools]; omega)]

theorem ownsRow_store {w : World} {base : Nat} {e : TypeId} {g n cap : Nat} {xs : List Value} (h : w.ownsRow base e 1 (.slice (some ⟨g, 0, none⟩) n cap) n xs) (i : Nat) (hi : i < n) (u : Value) :
    (w.setCell ⟨g, i, none⟩ u).ownsRow base e 1 (.slice (some ⟨g, 0, none⟩) n cap) n (xs.set i u) := by
  obtain ⟨hl, hr⟩ := h
  refine ⟨by simpa using hl, ?_⟩
  rcases hr with ⟨h, _⟩ | ⟨g', cap', cur, he, hb, hgg, hnc, hcm, hcs, htake⟩
  · simp at h
  · simp at he
    obtain ⟨rfl, rfl⟩ := he
    refine .inr ⟨g, cap, cur.setIfInBounds i u, rfl, hb, (show Blk w g cur e from hgg).set i u, hnc, hcm, by simpa using hcs, ?_⟩
    rw [Array.toList_setIfInBounds, List.take_set, htake]
theorem ownsRow_cell {w : World} {base : Nat} {e : TypeId} {g n cap : Nat} {xs : List Value} (h : w.ownsRow base e 1 (.slice (some ⟨g, 0, none⟩) n cap) n xs) (i : Nat) (hi : i < n) :
    w.cell? ⟨g, i, none⟩ = xs[i]? ∧ w.frozen? ⟨g, i, none⟩ = false := by
  obtain ⟨hl, hr⟩ := h
  rcases hr with ⟨h, _⟩ | ⟨g', cap', cur, he, hb, hgg, hnc, hcm, hcs, htake⟩
  · simp at h
  · simp at he
    obtain ⟨rfl, rfl⟩ := he
    have hB : Blk w g cur e := hgg
    refine ⟨?_, hB.free i⟩
    rw [hB.cell, ← htake, List.getElem?_take, if_pos (by omega)]
    simp

theorem info4 : (Tryd.prog.info? 4).map (fun i => (i.zero, i.size, i.bytes)) = some (some (.bool false), 1, 1) := by kernel_rfl

/-- A row of truths that a call made: the value, and what it holds. -/
def TRow (w : World) (base : Nat) (v : Value) (k : Nat) (S : Nat → Bool) : Prop := w.ownsRow base 4 1 v k (bools S k)
theorem TRow.rd {w : World} {base k : Nat} {v : Value} {S : Nat → Bool} (h : TRow w base v k S) : ∃ a c, v = .slice a k c ∧ Rd w a (bools S k) := by
  obtain ⟨a, c, h1, h2, _⟩ := Rd.of_own h
  exact ⟨a, c, h1, h2⟩

def WithPost (w : World) (k : Nat) (S : Nat → Bool) (e : Ending) (w' : World) : Prop :=
  ∃ v, e = .returned v ∧ TRow w' w.heap.size v k S ∧ Keeps (fun _ => False) w w'

set_option maxHeartbeats 1000000 in
theorem refWith (a : Option Addr) (c k : Nat) (S : Nat → Bool) (x : Int) (y : Nat) (hx : x = y) (b : Bool) (w : World) (hr : Rd w a (bools S k)) (hy : y < k) (hk : k ≤ 10000000) :
    Calls Tryd.prog 20 #[.slice a k c, .int .i64 x, .bool b] w (WithPost w k (upd S y b)) := by
  subst hx
  obtain ⟨ab, off, rfl, hc⟩ := hr.at_ y (by rw [bools_length]; exact hy)
  obtain ⟨i0, hi, hz0, hz1, hz2⟩ := info_parts info4
  have hcells : Hid (∀ j u, (bools S k)[j]? = some u → w.cell? ((⟨ab, off, none⟩ : Addr).add j) = some u) := fun j u hu => by
    have hadd : (⟨ab, off, none⟩ : Addr).add j = ⟨ab, off + j, none⟩ := by unfold Addr.add; split <;> simp_all
    rw [hadd, hc j (by have := (List.getElem?_eq_some_iff.1 hu).1; exact this), hu]
  clear hc hr
  go_enter Tryd.func20, Tryd.ntmps20
  go_wp2_with (first | (at_builtin; refine wpList_app rfl _ _ 29 rfl w.heap.size 4 i0 (.bool false) 1 1 Tryd.underlying29 hi hz0 hz1 hz2 rfl (by decide) _ 0 [] rfl (World.ownsRow_nil _ _ _ _) ⟨ab, off, none⟩ k c (bools S k) rfl ?c1 hcells.out ?c2 ?c3 ?c4 ?c5 ?_))
  case c1 => rw [bools_length, Nat.mul_one]
  case c2 => simp [bools, Value.oneCell']
  case c3 => unfold maxLen; omega
  case c4 => omega
  case c5 => exact Nat.le_refl _
  intro v1 w1 ho hk1 _ _
  obtain ⟨g, cap, rfl, hg⟩ : ∃ g cap, v1 = .slice (some ⟨g, 0, none⟩) k cap ∧ w.heap.size ≤ g := by
    rcases ho.2 with ⟨_, h⟩ | ⟨g, cap, cur, h1, h2, _⟩
    · omega
    · exact ⟨g, cap, h1, h2⟩
  obtain ⟨hc1, hc2⟩ := ownsRow_cell ho y hy
  rw [bools_get _ _ _ hy] at hc1
  have hst := ownsRow_store ho y hy (.bool b)
  rw [bools_set] at hst
  have hfin : Hid (TRow (w1.setCell ⟨g, y, none⟩ (.bool b)) w.heap.size (.slice (some ⟨g, 0, none⟩) k cap) k (upd S y b) ∧ Keeps (fun _ => False) w (w1.setCell ⟨g, y, none⟩ (.bool b))) := by
    refine ⟨hst, Keeps.setCell ?_ _ _ (fun h => by simp at h; omega)⟩
    exact hk1.mono fun i _ h => by simp [Value.ownBlock] at h
  clear hst ho hk1
  go_wp2_with fail
  go_ret
  exact ⟨_, rfl, hfin.out.1, hfin.out.2⟩

def RefAllRel (w : World) (S : Nat → Bool) (f : Nat) (v : Value) (wr : World) : Prop :=
  wr.ownsRow w.heap.size 3 1 v (cnt S f) (ints (allOf S f)) ∧ Keeps (fun _ => False) w wr
theorem RefAllRel.grow {w : World} {S : Nat → Bool} {f : Nat} {v v' : Value} {wr w1 : World} (h : RefAllRel w S f v wr) (hS : S f = true)
    (hown : w1.ownsRow w.heap.size 3 1 v' (cnt S f + 1) (ints (allOf S f) ++ [.int .i64 (f : Int)])) (hg : Keeps (fun k => v.ownBlock = some k) wr w1) : RefAllRel w S (f + 1) v' w1 := by
  obtain ⟨ho, hk⟩ := h
  refine ⟨?_, hk.trans hg fun i hi e => by have := ho.lt i e; omega⟩
  have e1 : cnt S (f + 1) = cnt S f + 1 := by rw [cnt_succ, hS]; rfl
  have e2 : allOf S (f + 1) = allOf S f ++ [f] := by simp [allOf, List.range_succ, hS]
  rw [e1, e2]
  simpa [ints] using hown
theorem RefAllRel.skip {w : World} {S : Nat → Bool} {f : Nat} {v : Value} {wr : World} (h : RefAllRel w S f v wr) (hS : S f = false) : RefAllRel w S (f + 1) v wr := by
  obtain ⟨ho, hk⟩ := h
  refine ⟨?_, hk⟩
  have e1 : cnt S (f + 1) = cnt S f := by rw [cnt_succ, hS]; rfl
  have e2 : allOf S (f + 1) = allOf S f := by simp [allOf, List.range_succ, hS]
  rw [e1, e2]
  exact ho

set_option maxHeartbeats 1000000 in
set_option maxRecDepth 100000 in
theorem refAll (a : Option Addr) (c k : Nat) (S : Nat → Bool) (w : World) (hr : Rd w a (bools S k)) (hk : k ≤ 10000000) :
    Calls Tryd.prog 22 #[.slice a k c] w (SAllPost S k w) := by
  obtain ⟨i0, hi, hz0, hz1, hz2⟩ := info_parts info3
  have HR := Lib.hid hr
  clear hr
  have hst : Hid (RefAllRel w S 0 (.slice none 0 0) w) := ⟨World.ownsRow_nil _ _ _ _, Keeps.refl _ _⟩
  go_enter Tryd.func22, Tryd.ntmps22
  go_wp2_with fail
  go_loopw [3, 4] (fun l i wr => ∃ f : Nat, f ≤ k ∧ i = .int .i64 (f : Int) ∧ RefAllRel w S f l wr) (fun _ i _ => k - (intOf i).toNat)
  case atStart => exact ⟨0, Nat.zero_le _, rfl, hst.out⟩
  case round =>
    obtain ⟨f, hf, rfl, hrel⟩ := hrel
    clear hst
    by_cases hlt : f < k
    · obtain ⟨ab, off, rfl, hc⟩ := (HR.out.keep hrel.2).at_ f (by rw [bools_length]; exact hlt)
      have hcj := hc f (by rw [bools_length]; exact hlt)
      rw [bools_get _ _ _ hlt] at hcj
      clear hc
      have hown := hrel.1
      have hcn := cnt_le S f
      have hws := hrel.2.size
      have HREL := Lib.hid hrel
      clear hrel
      cases hS : S f with
      | true =>
        have HS := Lib.hid hS
        rw [hS] at hcj
        clear hS
        generalize hcf : cnt S f = cf at *
        go_wp2_with (first | (at_builtin; refine wpList_app1 rfl _ _ 22 rfl w.heap.size 3 i0 (.int .i64 0) 1 8 Tryd.underlying22 hi hz0 hz1 hz2 rfl (by decide) _ _ _ rfl hown _ 1 1 [.int .i64 (f : Int)] 3 rfl rfl rfl ?c1 ?c2 ?c3 ?c4 ?_))
        case c1 => simp [Value.oneCell']
        case c2 => unfold maxLen; omega
        case c3 => omega
        case c4 => exact hws
        intro v1 w1 ho hk1 _ _ _
        have hgr := Lib.hid (HREL.out.grow HS.out (by rw [hcf]; exact ho) hk1)
        clear ho hk1 hown hcj hcf
        go_wp2_with fail
        refine ⟨⟨f + 1, hlt, by go_num, hgr.out⟩, by simp [intOf]; omega⟩
      | false =>
        have HS := Lib.hid hS
        rw [hS] at hcj
        clear hS hown
        go_wp2_with fail
        refine ⟨⟨f + 1, hlt, by go_num, HREL.out.skip HS.out⟩, by simp [intOf]; omega⟩
    · obtain rfl : f = k := by omega
      have HREL := Lib.hid hrel
      clear hrel
      go_wp2_with fail
      go_ret
      exact ⟨_, rfl, HREL.out.1, HREL.out.2⟩
end Go.Proofs.YtiphdlhnoceeiaaDoor
