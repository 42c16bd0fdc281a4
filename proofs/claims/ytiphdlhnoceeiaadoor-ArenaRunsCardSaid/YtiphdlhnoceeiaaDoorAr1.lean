/- arena: New, the small readers, Find, Drop. -/
import Derived.Test.YtiphdlhnoceeiaaDoorArObj
namespace Go.Proofs.YtiphdlhnoceeiaaDoor
open Go Go.RowKit
set_option linter.unusedVariables false
set_option linter.unusedSimpArgs false

set_option maxRecDepth 100000

def ANewPost (n : Nat) (w : World) (e : Ending) (w' : World) : Prop :=
  ∃ p b ownS, e = .returned (.tuple #[.pointer (some ⟨p, 0, none⟩), .nilIface]) ∧ AX w' p b n ownS (.slice none 0 0) [] (fun _ => false) 0 ∧ (∀ k, AX.own p ownS (.slice none 0 0) k → w.heap.size ≤ k) ∧ Keeps (fun _ => False) w w'
theorem anew (x : Int) (n : Nat) (hx : x = n) (w : World) (h1 : 1 ≤ n) (h2 : n ≤ 1048576) : Calls Tryd.prog 27 #[.int .i64 x] w (ANewPost n w) := by
  subst hx
  have hn := Lib.hid (snew (n : Int) n rfl w h1 h2)
  go_enter Tryd.func27, Tryd.ntmps27
  go_wp2_with fail
  refine hn.out.mono ?_
  rintro e w1 ⟨b, ownS, rfl, hs, hge, hk⟩
  have HS := Lib.hid (And.intro hs (And.intro hge hk))
  clear hs hge hk
  go_wp2_with fail
  go_ret2
  obtain ⟨hs, hge, hk⟩ := HS.out
  refine ⟨w1.heap.size, b, ownS, rfl, ⟨Blk.new w1 _ _, World.ownsRow_nil _ _ _ _, hs.keep ((Keeps.refl _ _).alloc _), fun h => by have := hs.lt _ h; omega, fun g e => by simp [Value.ownBlock] at e⟩, fun k e => ?_, hk.alloc _⟩
  rcases e with rfl | e | e
  · exact hk.size
  · exact hge k e
  · simp [Value.ownBlock] at e
theorem anew_bad (x : Int) (w : World) (h : x < 1 ∨ 1048576 < x) :
    Calls Tryd.prog 27 #[.int .i64 x] w fun e w' => e = .returned (.tuple #[.pointer none, errno 1]) ∧ w = w' := by
  have hb := Lib.hid (new_bad x w h)
  clear h
  go_enter Tryd.func27, Tryd.ntmps27
  go_wp2_with fail
  refine hb.out.mono ?_
  rintro e w1 ⟨rfl, rfl⟩
  unfold errno
  go_wp2_with fail
  go_ret2
  exact ⟨rfl, rfl⟩

section
variable {w : World} {own : Nat → Prop} {p n : Nat} {L : List (Int × Int)}
theorem alen (h : Ar w own p n L) : Calls Tryd.prog 31 #[.pointer (some ⟨p, 0, none⟩)] w fun e w' => e = .returned (.int .i64 (liv L : Nat)) ∧ w = w' := by
  obtain ⟨⟨b, ownS, v, h1, rfl⟩, _⟩ := h
  have g3 := h1.c3
  clear h1
  go_enter Tryd.func31, Tryd.ntmps31
  go_wp2_with fail
  go_ret
  exact ⟨rfl, rfl⟩
theorem afull (h : Ar w own p n L) : Calls Tryd.prog 29 #[.pointer (some ⟨p, 0, none⟩)] w fun e w' => e = .returned (.bool (decide (cnt (tak L) n = n))) ∧ ∃ q, w' = w.drewN q := by
  obtain ⟨⟨b, ownS, v, h1, rfl⟩, _⟩ := h
  have g0 := h1.c0
  have g2 := h1.c2
  have hl := Lib.hid (fun q => (slen (h1.sl.keep ((Keeps.refl _ w).drewN q))).mono fun e w' hh => (⟨hh.1, hh.2.symm⟩ : _ ∧ _))
  have hd : (((cnt (tak L) n : Nat) : Int) == (n : Int)) = decide (cnt (tak L) n = n) := by
    by_cases e : cnt (tak L) n = n
    · rw [e]; simp
    · simp [e]; omega
  clear h1
  generalize cnt (tak L) n = c at *
  go_enter Tryd.func29, Tryd.ntmps29
  go_wp2_with fail
  go_quiet ((go_at_call 26; exact Calls.quiet_of_same (hl.out _)))
  go_wp2_with fail
  go_ret
  exact ⟨rfl, _, rfl⟩

/-- A handle's value. -/
def hval (age at_ : Int) : Value := .agg #[.int .u32 age, .int .u32 at_]
def findErr (n : Nat) (L : List (Int × Int)) (age : Int) (a : Nat) : Nat := if n ≤ a then 12 else if L[a]? = some (age, 1) then 0 else 13
def FindPost (n : Nat) (L : List (Int × Int)) (age : Int) (a : Nat) (w : World) (e : Ending) (w' : World) : Prop :=
  e = .returned (.tuple #[.int .i64 (if findErr n L age a = 0 then (a : Int) else 0), errVal (findErr n L age a)]) ∧ Keeps (fun _ => False) w w'

theorem afind (h : Ar w own p n L) (age : Int) (a : Nat) (ha : a ≤ 4294967295) : Calls Tryd.prog 41 #[.pointer (some ⟨p, 0, none⟩), hval age a] w (FindPost n L age a w) := by
  have hb := h.bound
  have hle := h.le
  obtain ⟨⟨b, ownS, v, h1, rfl⟩, _⟩ := h
  unfold hval
  by_cases han : n ≤ a
  · have he : findErr n L age a = 12 := by simp [findErr, han]
    unfold FindPost
    rw [he]
    have g0 := h1.c0
    have hpb := h1.head.lt
    clear h1 he
    go_enter Tryd.func41, Tryd.ntmps41
    go_wp2_with fail
    go_ret2
    exact ⟨rfl, (Keeps.refl _ _).alloc _⟩
  · have g0 := h1.c0
    have g1 := h1.c1
    by_cases hal : a < L.length
    · obtain ⟨g, c, rfl, hlc⟩ := h1.some_ (by omega)
      have e1 := h1.age a hal
      have e2 := h1.is a hal
      have hget : L[a]? = some L[a] := List.getElem?_eq_getElem hal
      have hpb := h1.head.lt
      have hgb := (h1.row.lt g rfl).2
      clear h1
      have he : findErr n L age a = if L[a] = (age, 1) then 0 else 13 := by unfold findErr; rw [if_neg han, hget]; simp
      generalize L[a] = q at *
      obtain ⟨qa, qs⟩ := q
      unfold FindPost
      clear hget
      have hla : decide (L.length ≤ a) = false := by simp; omega
      by_cases hq : qa = age ∧ qs = 1
      · obtain ⟨rfl, rfl⟩ := hq
        rw [he.trans (if_pos rfl)]
        clear he
        go_enter Tryd.func41, Tryd.ntmps41
        go_wp2_with fail
        go_quiet (fail)
        go_wp2_with fail
        go_ret2
        exact ⟨rfl, ((Keeps.refl _ _).alloc _).drewN _⟩
      · rw [he.trans (if_neg (fun e => hq (by simpa using e)))]
        clear he
        by_cases hqa : qa = age
        · subst hqa
          have hqs : ¬ qs = 1 := fun e => hq ⟨rfl, e⟩
          have hqb : (qs == 1) = false := by rw [beq_eq_false_iff_ne]; exact hqs
          have hqd : decide (qs = 1) = false := by simp; exact hqs
          clear hq
          go_enter Tryd.func41, Tryd.ntmps41
          go_wp2_with fail
          go_quiet (fail)
          go_wp2_with fail
          go_ret2
          exact ⟨rfl, ((Keeps.refl _ _).alloc _).drewN _⟩
        · have hqb : (qa == age) = false := by rw [beq_eq_false_iff_ne]; exact hqa
          have hqd : decide (qa = age) = false := by simp; exact hqa
          clear hq
          go_enter Tryd.func41, Tryd.ntmps41
          go_wp2_with fail
          go_quiet (fail)
          go_wp2_with fail
          go_ret2
          exact ⟨rfl, ((Keeps.refl _ _).alloc _).drewN _⟩
    · have he : findErr n L age a = 13 := by unfold findErr; rw [if_neg han, List.getElem?_eq_none (by omega)]; simp
      unfold FindPost
      rw [he]
      obtain ⟨va, vc, rfl⟩ := ownsRow_slice h1.row
      have hpb := h1.head.lt
      have hla : decide (L.length ≤ a) = true := by simp; omega
      clear h1 he
      go_enter Tryd.func41, Tryd.ntmps41
      go_wp2_with fail
      go_quiet (fail)
      go_wp2_with fail
      go_ret2
      exact ⟨rfl, ((Keeps.refl _ _).alloc _).drewN _⟩
end
end Go.Proofs.YtiphdlhnoceeiaaDoor
