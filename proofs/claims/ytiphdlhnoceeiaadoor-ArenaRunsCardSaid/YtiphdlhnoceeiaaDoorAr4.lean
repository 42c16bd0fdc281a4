/- arena: nothing of a nil one; the handles, all that live, the places. -/
import Derived.Test.YtiphdlhnoceeiaaDoorAr3
namespace Go.Proofs.YtiphdlhnoceeiaaDoor
open Go Go.RowKit
set_option linter.unusedVariables false
set_option linter.unusedSimpArgs false
set_option maxRecDepth 100000

def NilPost (v : Value) (w : World) (e : Ending) (w' : World) : Prop := e = .returned v ∧ Keeps (fun _ => False) w w'
section
variable (w : World)
theorem nilAdd : Calls Tryd.prog 28 #[.pointer none] w (NilPost (.tuple #[hval 0 0, errno 1]) w) := by
  unfold NilPost
  try unfold hval
  go_enter Tryd.func28, Tryd.ntmps28
  go_wp2_with fail
  refine bodyPost_ret (v := .tuple #[hval 0 0, errno 1]) (by simp [results, Tryd.results28, go_sem, hval, errno]) rfl ?_
  exact ⟨by first | rfl | simp [errno], (Keeps.refl _ _).alloc _⟩
theorem nilFind : Calls Tryd.prog 41 #[.pointer none, hval 0 0] w (NilPost (.tuple #[.int .i64 0, errno 1]) w) := by
  unfold NilPost
  try unfold hval
  go_enter Tryd.func41, Tryd.ntmps41
  go_wp2_with fail
  go_ret2
  exact ⟨by first | rfl | simp [errno], (Keeps.refl _ _).alloc _⟩
theorem nilHandle : Calls Tryd.prog 42 #[.pointer none, .int .i64 0] w (NilPost (.tuple #[hval 0 0, errno 1]) w) := by
  unfold NilPost
  try unfold hval
  go_enter Tryd.func42, Tryd.ntmps42
  go_wp2_with fail
  refine bodyPost_ret (v := .tuple #[hval 0 0, errno 1]) (by simp [results, Tryd.results42, go_sem, hval, errno]) rfl ?_
  exact ⟨by first | rfl | simp [errno], (Keeps.refl _ _).alloc _⟩
theorem nilDrop : Calls Tryd.prog 30 #[.pointer none, hval 0 0] w (NilPost (errno 1) w) := by
  unfold NilPost
  have hf := Lib.hid (nilFind (w.alloc (.cells #[.int .u32 0, .int .u32 0] 46)))
  unfold hval at *
  go_enter Tryd.func30, Tryd.ntmps30
  go_wp2_with fail
  refine hf.out.mono ?_
  unfold errno
  rintro e w1 ⟨rfl, hk⟩
  have HK := Lib.hid (((Keeps.refl (fun _ => False) w).alloc (.cells #[.int .u32 0, .int .u32 0] 46)).trans' hk)
  clear hk
  go_wp2_with fail
  go_ret
  exact ⟨rfl, HK.out⟩
theorem nilLen : Calls Tryd.prog 31 #[.pointer none] w (NilPost (.int .i64 0) w) := by
  unfold NilPost
  go_enter Tryd.func31, Tryd.ntmps31
  go_wp2_with fail
  go_ret
  exact ⟨rfl, Keeps.refl _ _⟩
theorem nilAll : Calls Tryd.prog 44 #[.pointer none] w (NilPost (.slice none 0 0) w) := by
  unfold NilPost
  go_enter Tryd.func44, Tryd.ntmps44
  go_wp2_with fail
  go_ret
  exact ⟨rfl, Keeps.refl _ _⟩
theorem nilPlaces : Calls Tryd.prog 45 #[.pointer none] w (NilPost (.slice none 0 0) w) := by
  unfold NilPost
  go_enter Tryd.func45, Tryd.ntmps45
  go_wp2_with fail
  go_ret
  exact ⟨rfl, Keeps.refl _ _⟩
theorem nilFull : Calls Tryd.prog 29 #[.pointer none] w (NilPost (.bool true) w) := by
  unfold NilPost
  go_enter Tryd.func29, Tryd.ntmps29
  go_wp2_with fail
  go_quiet (fail)
  go_wp2_with fail
  go_ret
  exact ⟨rfl, (Keeps.refl _ _).drewN _⟩
end

section
variable {w : World} {own : Nat → Prop} {p n : Nat} {L : List (Int × Int)}
/-- What Handle answers. -/
def hanErr (n : Nat) (L : List (Int × Int)) (x : Int) : Nat := if x < 0 ∨ (n : Int) ≤ x then 12 else if (L[x.toNat]?).map (·.2) = some 1 then 0 else 13
def HanPost (n : Nat) (L : List (Int × Int)) (x : Int) (w : World) (e : Ending) (w' : World) : Prop :=
  e = .returned (.tuple #[if hanErr n L x = 0 then hval (L.getD x.toNat (0, 0)).1 x.toNat else hval 0 0, errVal (hanErr n L x)]) ∧ Keeps (fun _ => False) w w'
set_option maxHeartbeats 1000000 in
theorem ahandle (h : Ar w own p n L) (x : Int) : Calls Tryd.prog 42 #[.pointer (some ⟨p, 0, none⟩), .int .i64 x] w (HanPost n L x w) := by
  have hb := h.bound
  have hle := h.le
  obtain ⟨⟨b, ownS, v, h1, rfl⟩, _⟩ := h
  have g0 := h1.c0
  have g1 := h1.c1
  have hpb := h1.head.lt
  unfold HanPost
  by_cases hx : x < 0 ∨ (n : Int) ≤ x
  · have he : hanErr n L x = 12 := by simp [hanErr, hx]
    rw [he]
    clear h1 he
    by_cases hx0 : x < 0
    · go_enter Tryd.func42, Tryd.ntmps42
      go_wp2_with fail
      refine bodyPost_ret (v := .tuple #[hval 0 0, errno 12]) (by simp [results, Tryd.results42, go_sem, hval, errno]) rfl ?_
      exact ⟨rfl, (Keeps.refl _ _).alloc _⟩
    · have hx1 : (n : Int) ≤ x := by omega
      clear hx
      go_enter Tryd.func42, Tryd.ntmps42
      go_wp2_with fail
      refine bodyPost_ret (v := .tuple #[hval 0 0, errno 12]) (by simp [results, Tryd.results42, go_sem, hval, errno]) rfl ?_
      exact ⟨rfl, (Keeps.refl _ _).alloc _⟩
  · obtain ⟨a, rfl⟩ := Int.eq_ofNat_of_zero_le (show 0 ≤ x by omega)
    have han : a < n := by omega
    clear hx
    by_cases hal : a < L.length
    · obtain ⟨g, c, rfl, hlc⟩ := h1.some_ (by omega)
      have e1 := h1.age a hal
      have e2 := h1.is a hal
      have hget : L[a]? = some L[a] := List.getElem?_eq_getElem hal
      have hgb := (h1.row.lt g rfl).2
      clear h1
      have he : hanErr n L a = if L[a].2 = 1 then 0 else 13 := by unfold hanErr; rw [if_neg (by omega), Int.toNat_natCast, hget]; simp
      have hgd : L.getD a (0, 0) = L[a] := by rw [List.getD_eq_getElem?_getD, hget]; rfl
      simp only [Int.toNat_natCast]
      rw [hgd]
      clear hgd hget
      generalize L[a] = q at *
      obtain ⟨qa, qs⟩ := q
      simp only at he e1 e2
      have hwz : IntKind.u32.wrap (a : Int) = a := by rw [IntKind.wrap_u32]; omega
      by_cases hqs : qs = 1
      · subst hqs
        rw [he, if_pos rfl]
        clear he
        go_enter Tryd.func42, Tryd.ntmps42
        go_wp2_with fail
        refine bodyPost_ret (v := .tuple #[hval qa a, .nilIface]) (by simp [results, Tryd.results42, go_sem, hval]) rfl ?_
        exact ⟨rfl, (Keeps.refl _ _).alloc _⟩
      · rw [he, if_neg hqs]
        clear he
        have hqb : (qs == 1) = false := by rw [beq_eq_false_iff_ne]; exact hqs
        have hqn : (qs != 1) = true := by rw [bne_iff_ne]; exact hqs
        have hla : decide (L.length ≤ a) = false := by simp; omega
        go_enter Tryd.func42, Tryd.ntmps42
        go_wp2_with fail
        refine bodyPost_ret (v := .tuple #[hval 0 0, errno 13]) (by simp [results, Tryd.results42, go_sem, hval, errno]) rfl ?_
        exact ⟨rfl, (Keeps.refl _ _).alloc _⟩
    · have he : hanErr n L a = 13 := by unfold hanErr; rw [if_neg (by omega), Int.toNat_natCast, List.getElem?_eq_none (by omega)]; simp
      rw [he]
      obtain ⟨va, vc, rfl⟩ := ownsRow_slice h1.row
      have hla : decide (L.length ≤ a) = true := by simp; omega
      have hla0 : L.length ≤ a := by omega
      clear h1 he
      go_enter Tryd.func42, Tryd.ntmps42
      go_wp2_with fail
      refine bodyPost_ret (v := .tuple #[hval 0 0, errno 13]) (by simp [results, Tryd.results42, go_sem, hval, errno]) rfl ?_
      exact ⟨rfl, (Keeps.refl _ _).alloc _⟩
end
end Go.Proofs.YtiphdlhnoceeiaaDoor
