/- unite: New. -/
import Derived.Test.YtdplphhlclhmfaaDoorUfA
namespace Go.Proofs.YtdplphhlclhmfaaDoor
open Go Go.RowKit
set_option linter.unusedVariables false
set_option linter.unusedSimpArgs false
set_option maxRecDepth 100000

/-- The first j told. -/
def firstA (n j : Nat) : List Nat := (List.range n).map fun i => if i < j then i else 0
def firstS (n j : Nat) : List Nat := (List.range n).map fun i => if i < j then 1 else 0
theorem firstA_length (n j : Nat) : (firstA n j).length = n := by simp [firstA]
theorem firstS_length (n j : Nat) : (firstS n j).length = n := by simp [firstS]
theorem firstA_get {n j i : Nat} (hi : i < n) : (firstA n j)[i]? = some (if i < j then i else 0) := by simp [firstA, hi]
theorem firstS_get {n j i : Nat} (hi : i < n) : (firstS n j)[i]? = some (if i < j then 1 else 0) := by simp [firstS, hi]
theorem firstA_step (n j : Nat) : (firstA n j).set j j = firstA n (j + 1) := by
  apply List.ext_getElem?
  intro i
  by_cases hi : i < n
  · rw [List.getElem?_set, firstA_get hi, firstA_get hi]
    by_cases e : j = i
    · subst e; simp [firstA_length, hi]
    · rw [if_neg e]
      by_cases h : i < j
      · rw [if_pos h, if_pos (by omega)]
      · rw [if_neg h, if_neg (by omega)]
  · rw [List.getElem?_eq_none (by rw [List.length_set, firstA_length]; omega), List.getElem?_eq_none (by rw [firstA_length]; omega)]
theorem firstS_step (n j : Nat) : (firstS n j).set j 1 = firstS n (j + 1) := by
  apply List.ext_getElem?
  intro i
  by_cases hi : i < n
  · rw [List.getElem?_set, firstS_get hi, firstS_get hi]
    by_cases e : j = i
    · subst e; simp [firstS_length, hi]
    · rw [if_neg e]
      by_cases h : i < j
      · rw [if_pos h, if_pos (by omega)]
      · rw [if_neg h, if_neg (by omega)]
  · rw [List.getElem?_eq_none (by rw [List.length_set, firstS_length]; omega), List.getElem?_eq_none (by rw [firstS_length]; omega)]
theorem firstA_all (n : Nat) : firstA n n = List.range n := by
  apply List.ext_getElem?
  intro i
  by_cases hi : i < n
  · rw [firstA_get hi, if_pos hi, List.getElem?_range hi]
  · rw [List.getElem?_eq_none (by rw [firstA_length]; omega), List.getElem?_eq_none (by simp; omega)]
theorem firstS_all (n : Nat) : firstS n n = List.replicate n 1 := by
  apply List.ext_getElem?
  intro i
  by_cases hi : i < n
  · rw [firstS_get hi, if_pos hi, List.getElem?_replicate, if_pos hi]
  · rw [List.getElem?_eq_none (by rw [firstS_length]; omega), List.getElem?_eq_none (by simp; omega)]
theorem first_zero (n : Nat) : firstA n 0 = firstS n 0 := by simp [firstA, firstS]
theorem zeros_32 (n : Nat) : madeCells #[.int .i32 0] n = (i32n (firstS n 0)).toArray := by
  rw [madeCells_one]
  congr 1
  apply List.ext_getElem
  · simp [i32n, firstS]
  · intro i h1 h2
    simp [i32n, firstS]
/-- While they are laid. -/
def UNew (w : World) (p a s t Bs n j : Nat) (wr : World) : Prop := UX wr p a s t Bs n 0 (firstA n j) (firstS n j) (firstA n j) (.slice none 0 0) ∧ w.heap.size ≤ p ∧ w.heap.size ≤ a ∧ w.heap.size ≤ s ∧ w.heap.size ≤ t ∧ Keeps (fun _ => False) w wr
theorem unew_mk {w W : World} {p a s t n : Nat} (h : Blk W p #[.slice (some ⟨a, 0, none⟩) n n, .slice (some ⟨s, 0, none⟩) n n, .slice (some ⟨t, 0, none⟩) n n, .slice none 0 0] 179)
    (h1 : Blk W a (i32n (firstS n 0)).toArray 21) (h2 : Blk W s (i32n (firstS n 0)).toArray 21) (h3 : Blk W t (i32n (firstS n 0)).toArray 21)
    (d : p ≠ a ∧ p ≠ s ∧ p ≠ t ∧ a ≠ s ∧ a ≠ t ∧ s ≠ t) (o : w.heap.size ≤ p ∧ w.heap.size ≤ a ∧ w.heap.size ≤ s ∧ w.heap.size ≤ t) (hk : Keeps (fun _ => False) w W) :
    Hid (∃ p' a s t Bs, Value.pointer (some ⟨p, 0, none⟩) = .pointer (some ⟨p', 0, none⟩) ∧ UNew w p' a s t Bs n 0 W) := by
  have e := first_zero n
  exact Lib.hid ⟨p, a, s, t, W.heap.size, rfl, ⟨h, by rw [e]; exact h1, h2, by rw [e]; exact h3, d, ⟨h.lt, h1.lt, h2.lt, h3.lt⟩, ⟨[], World.ownsRow_nil _ _ _ _⟩, Nat.le_refl _⟩, o.1, o.2.1, o.2.2.1, o.2.2.2, hk⟩
/-- New groups. -/
def UNewPost (n : Nat) (w : World) (e : Ending) (w' : World) : Prop :=
  ∃ p own, e = .returned (.tuple #[tptr p, .nilIface]) ∧ Uf w' own p n 0 (aloneG n) ∧ (∀ q, own q → w.heap.size ≤ q) ∧ Keeps (fun _ => False) w w'
set_option maxHeartbeats 2000000 in
theorem unew (n : Nat) (w : World) (h1n : 1 ≤ n) (hn : n ≤ 1048576) : Calls Tryd.prog 82 #[.int .i64 (n : Int)] w (UNewPost n w) := by
  obtain ⟨j0, hj, hy0, hy1, hy2⟩ := info_parts info32
  have hmk : ∀ W, (Instr.makeSlice 98 (.int .i64 (n : Int)) (.int .i64 (n : Int))).run Tryd.prog W = .ok (.slice (some ⟨W.heap.size, 0, none⟩) n n) (W.alloc (.cells (i32n (firstS n 0)).toArray 21)) := fun W => by
    have := run_make (P := Tryd.prog) W 98 21 j0 _ Tryd.underlying98 hj hy0 .i64 .i64 (n : Int) (n : Int) (by omega) (Int.le_refl _) (by rw [hy2]; omega) (by omega)
    rw [this, hy1, Int.toNat_natCast, Nat.mul_one, show (Value.int .i32 0).cells = #[.int .i32 0] from rfl, zeros_32]
  have h1 : decide ((n : Int) < 1) = false := by simp; omega
  have h2 : decide ((4194304 : Int) < (n : Int)) = false := by simp; omega
  clear hj hy0 hy1 hy2 j0
  unfold UNewPost tptr
  go_enter Tryd.func82, Tryd.ntmps82
  go_upto_region 3 with fail
  go_cut [4] (fun v wx => Hid (∃ p a s t Bs, v = .pointer (some ⟨p, 0, none⟩) ∧ UNew w p a s t Bs n 0 wx))
  case first =>
    go_region
    all_goals
      go_wp2_with fail
      go_meet
      refine unew_mk (Blk.drew (Blk.newAt _ _ _ (by simp))) ?_ ?_ ?_ ?_ ?_ ?_
      rotate_left 3
      · simp; omega
      · refine ⟨?_, ?_, ?_, ?_⟩ <;> omega
      · exact (((((Keeps.refl _ _).alloc _).alloc _).alloc _).alloc _).drew
      all_goals (refine Blk.drew ?_; repeat (first | (refine Blk.newAt _ _ _ ?_; simp; done) | refine Blk.alloc ?_ _))
  case rest =>
    obtain ⟨p, a, s, t, Bs, rfl, hn0⟩ := hcut.out
    have HN := Lib.hid hn0
    obtain ⟨c0, c1, c2, _⟩ := hn0.1.heads
    clear hcut hmk h1 h2 hn0
    go_wp2_with fail
    go_loopw [26] (fun i wr => ∃ j : Nat, j ≤ n ∧ i = .int .i64 (j : Int) ∧ Hid (UNew w p a s t Bs n j wr)) (fun i _ => n - (intOf i).toNat)
    case atStart => exact ⟨0, Nat.zero_le _, rfl, HN⟩
    case round =>
      obtain ⟨j, hj, rfl, HR⟩ := hrel
      by_cases hlt : j < n
      · obtain ⟨c0, c1, c2, _⟩ := HR.out.1.heads
        have qa := HR.out.1.b1.cell (i := j)
        have qs := HR.out.1.b2.cell (i := j)
        have qt := HR.out.1.b3.cell (i := j)
        rw [i32n_get (by rw [firstA_length]; exact hlt)] at qa qt
        rw [i32n_get (by rw [firstS_length]; exact hlt)] at qs
        obtain ⟨_, fa, fs, ft⟩ := HR.out.1.frees j
        have hjI : (j : Int) < (n : Int) := by omega
        have u1 := HR.out.1.setA j j
        have u2 := u1.setS j 1
        have u3 := Lib.hid (u2.setT j j)
        have k3 := Lib.hid ((((Keeps.refl (fun q => q = a ∨ q = s ∨ q = t) wr).setIn a j (.int .i32 (j : Int)) (Or.inl rfl)).setIn s j (.int .i32 ((1 : Nat) : Int)) (Or.inr (Or.inl rfl))).setIn t j (.int .i32 (j : Int)) (Or.inr (Or.inr rfl)))
        have qs2 := u1.b2.cell (i := j)
        have qt2 := u1.b3.cell (i := j)
        have qt3 := u2.b3.cell (i := j)
        rw [i32n_get (by rw [firstS_length]; exact hlt)] at qs2
        rw [i32n_get (by rw [firstA_length]; exact hlt)] at qt2 qt3
        obtain ⟨_, _, fs2, ft2⟩ := u1.frees j
        obtain ⟨_, _, _, ft3⟩ := u2.frees j
        clear u1 u2
        have h11 : ((1 : Nat) : Int) = 1 := rfl
        simp only [h11] at u3 k3 qt3 ft3
        clear h11
        go_upto_region 7 with fail
        go_region
        all_goals
          go_wp2_with fail
          refine ⟨⟨j + 1, by omega, by rfl, Lib.hid ?_⟩, by simp [intOf]; omega⟩
          obtain ⟨_, o1, o2, o3, o4, hk⟩ := HR.out
          have hx := u3.out.keep (Keeps.refl _ _).drew
          rw [firstA_step, firstS_step] at hx
          refine ⟨hx, o1, o2, o3, o4, Keeps.drew (hk.trans k3.out ?_)⟩
          rintro i hi (e | e | e) <;> omega
      · obtain rfl : j = n := by omega
        clear HN c0 c1 c2
        go_wp2_with fail
        go_ret2
        obtain ⟨hu, o1, o2, o3, o4, hk⟩ := HR.out
        rw [firstA_all, firstS_all] at hu
        refine ⟨p, _, rfl, ⟨a, s, t, Bs, 0, _, _, _, _, id, fun _ => 0, 0, hu, URel.alone _, rfl, hn, Nat.le_refl _, by omega⟩, ?_, hk⟩
        rintro q (e | e | e | e | e)
        · omega
        · omega
        · omega
        · omega
        · cases e
end Go.Proofs.YtdplphhlclhmfaaDoor
