/- turn: New. -/
import Derived.Test.YtjmkejkhpdhhbaaDoorTuG
namespace Go.Proofs.YtjmkejkhpdhhbaaDoor
open Go Go.RowKit
set_option linter.unusedVariables false
set_option linter.unusedSimpArgs false
set_option maxRecDepth 100000

theorem infoD : (Tryd.prog.info? 92).map (fun i => (i.zero, i.size, i.bytes)) = some (some (.agg #[.int .i32 0, .int .i32 0, .int .i32 0]), 3, 12) := by kernel_rfl
theorem info32 : (Tryd.prog.info? 21).map (fun i => (i.zero, i.size, i.bytes)) = some (some (.int .i32 0), 1, 4) := by kernel_rfl
/-- The first j told -1. -/
def newD (n j : Nat) : List Dart := (List.range n).map fun i => (if i < j then -1 else 0, 0, 0)
def newL (n j : Nat) : List Int := (List.range n).map fun i => if i < j then -1 else 0
theorem newD_length (n j : Nat) : (newD n j).length = n := by simp [newD]
theorem newL_length (n j : Nat) : (newL n j).length = n := by simp [newL]
theorem newD_get {n j i : Nat} (hi : i < n) : (newD n j)[i]? = some (if i < j then -1 else 0, 0, 0) := by simp [newD, hi]
theorem newL_get {n j i : Nat} (hi : i < n) : (newL n j)[i]? = some (if i < j then -1 else 0) := by simp [newL, hi]
theorem newD_step (n j : Nat) : setO (newD n j) j (-1) = newD n (j + 1) := by
  apply List.ext_getElem?
  intro i
  rw [setO_get]
  by_cases hi : i < n
  · rw [newD_get hi, newD_get hi]
    by_cases e : j = i
    · subst e; simp
    · rw [if_neg e]
      by_cases h : i < j
      · rw [if_pos h, if_pos (by omega)]
      · rw [if_neg h, if_neg (by omega)]
  · have e1 : (newD n j)[i]? = none := List.getElem?_eq_none (by rw [newD_length]; omega)
    have e2 : (newD n (j + 1))[i]? = none := List.getElem?_eq_none (by rw [newD_length]; omega)
    rw [e1, e2]; simp
theorem newL_step (n j : Nat) : (newL n j).set j (-1) = newL n (j + 1) := by
  apply List.ext_getElem?
  intro i
  by_cases hi : i < n
  · rw [List.getElem?_set, newL_get hi, newL_get hi]
    by_cases e : j = i
    · subst e; simp [newL_length, hi]
    · rw [if_neg e]
      by_cases h : i < j
      · rw [if_pos h, if_pos (by omega)]
      · rw [if_neg h, if_neg (by omega)]
  · rw [List.getElem?_eq_none (by rw [List.length_set, newL_length]; omega), List.getElem?_eq_none (by rw [newL_length]; omega)]
theorem zeros_D (n : Nat) : madeCells #[.int .i32 0, .int .i32 0, .int .i32 0] (n * 3) = (dVals (newD n 0)).toArray := by
  apply Array.ext
  · simp [madeCells, dVals_length, newD_length]
  · intro i h1 h2
    have hi : i < n * 3 := by simpa [madeCells] using h1
    have hq : i / 3 < n := by omega
    obtain ⟨g0, g1, g2⟩ := dVals_get (newD_get (j := 0) hq)
    simp only [Nat.not_lt_zero, if_false] at g0 g1 g2
    have h3 : i % 3 < 3 := Nat.mod_lt _ (by decide)
    have e : (dVals (newD n 0)).toArray[i]? = some (.int .i32 0) := by
      rcases (show i = i / 3 * 3 ∨ i = i / 3 * 3 + 1 ∨ i = i / 3 * 3 + 2 by omega) with h | h | h
      · rw [h]; exact g0
      · rw [h]; exact g1
      · rw [h]; exact g2
    have e2 := (Array.getElem?_eq_some_iff.1 e).2
    rw [e2]
    have h4 : i % 3 = 0 ∨ i % 3 = 1 ∨ i % 3 = 2 := by omega
    simp only [madeCells, Array.getElem_ofFn]
    rcases h4 with h | h | h <;> simp [h]
theorem zeros_L (n : Nat) : madeCells #[.int .i32 0] n = (i32s (newL n 0)).toArray := by
  rw [madeCells_one]
  congr 1
  apply List.ext_getElem
  · simp [i32s, newL]
  · intro i h1 h2
    simp [i32s, newL]
theorem Rel.new (V E : Nat) : Rel E (List.replicate V []) (newD (2 * E) (2 * E)) (newL V V) (newL V 0) := by
  have hg := Good.new E V
  have hns : ∀ d, ¬ Stands (List.replicate V []) d := fun d hd => by
    obtain ⟨u, l, hu, hm⟩ := stands_iff.1 hd
    rw [List.getElem?_replicate] at hu
    split at hu
    · cases hu; simp at hm
    · cases hu
  have hrep : ∀ (v : Nat) (l : List Nat), (List.replicate V ([] : List Nat))[v]? = some l → v < V ∧ l = [] := fun v l h => by
    rw [List.getElem?_replicate] at h
    split at h
    · cases h; exact ⟨by assumption, rfl⟩
    · cases h
  refine ⟨hg.toWF, newD_length _ _, by simp [newL_length], by simp [newL_length], fun v l hv i hi => ?_, fun d hd _ => ?_, fun v hv => ?_, fun v l hv hl => ?_, fun v l hv => ?_⟩
  · obtain ⟨_, rfl⟩ := hrep v l hv; simp at hi
  · exact ⟨0, 0, by rw [newD_get hd, if_pos hd]⟩
  · obtain ⟨h, _⟩ := hrep v _ hv
    rw [newL_get h, if_pos h]
  · exact absurd (hrep v l hv).2 hl
  · obtain ⟨h, rfl⟩ := hrep v l hv
    rw [newL_get h]; rfl
/-- New turns. -/
def NewPost (V E : Nat) (w : World) (e : Ending) (w' : World) : Prop :=
  ∃ p own, e = .returned (.tuple #[tptr p, .nilIface]) ∧ Tu w' own p E (List.replicate V []) ∧ (∀ k, own k → w.heap.size ≤ k) ∧ Keeps (fun _ => False) w w'
def NewRel (w : World) (p g1 g2 g3 E V : Nat) (D : List Dart) (ls : List Int) (wr : World) : Prop :=
  TX wr p g1 g2 g3 E V D ls (newL V 0) ∧ (∀ k, TX.own p g1 g2 g3 k → w.heap.size ≤ k) ∧ Keeps (fun _ => False) w wr
theorem Keeps.setNew {a w : World} (h : Keeps (fun _ => False) a w) {b : Nat} (hb : a.heap.size ≤ b) (i : Nat) (u : Value) : Keeps (fun _ => False) a (w.setCell ⟨b, i, none⟩ u) := h.setCell _ _ fun q => absurd q (Nat.not_lt.2 hb)
theorem NewRel.stepD {w wr : World} {p g1 g2 g3 E V j n : Nat} {ls : List Int} (h : NewRel w p g1 g2 g3 E V (newD n j) ls wr) : NewRel w p g1 g2 g3 E V (newD n (j + 1)) ls (wr.setCell ⟨g1, j * 3, none⟩ (.int .i32 (-1))) := by
  refine ⟨?_, h.2.1, h.2.2.setNew (h.2.1 g1 (.inr (.inl rfl))) _ _⟩
  rw [← newD_step]
  exact h.1.setO j (-1)
theorem NewRel.stepL {w wr : World} {p g1 g2 g3 E V j n : Nat} {D : List Dart} (h : NewRel w p g1 g2 g3 E V D (newL n j) wr) : NewRel w p g1 g2 g3 E V D (newL n (j + 1)) (wr.setCell ⟨g2, j, none⟩ (.int .i32 (-1))) := by
  refine ⟨?_, h.2.1, h.2.2.setNew (h.2.1 g2 (.inr (.inr (.inl rfl)))) _ _⟩
  rw [← newL_step]
  exact h.1.setL j (-1)
theorem Blk.newAt (w : World) (cs : Array Value) (t : TypeId) {b : Nat} (hb : b = w.heap.size) : Blk (w.alloc (.cells cs t)) b cs t := hb ▸ Blk.new w cs t
theorem newRel_mk {w W : World} {p g1 g2 g3 E V : Nat} (h : Blk W p #[.slice (some ⟨g1, 0, none⟩) (2 * E) (2 * E), .slice (some ⟨g2, 0, none⟩) V V, .slice (some ⟨g3, 0, none⟩) V V] 90)
    (h1 : Blk W g1 (dVals (newD (2 * E) 0)).toArray 92) (h2 : Blk W g2 (i32s (newL V 0)).toArray 21) (h3 : Blk W g3 (i32s (newL V 0)).toArray 21)
    (d : p ≠ g1 ∧ p ≠ g2 ∧ p ≠ g3 ∧ g1 ≠ g2 ∧ g1 ≠ g3 ∧ g2 ≠ g3) (o : ∀ k, TX.own p g1 g2 g3 k → w.heap.size ≤ k) (hk : Keeps (fun _ => False) w W) :
    Hid (∃ p' g1 g2 g3, Value.pointer (some ⟨p, 0, none⟩) = .pointer (some ⟨p', 0, none⟩) ∧ NewRel w p' g1 g2 g3 E V (newD (2 * E) 0) (newL V 0) W) := ⟨p, g1, g2, g3, rfl, ⟨h, h1, h2, h3, d⟩, o, hk⟩
set_option maxHeartbeats 1000000 in
theorem tnew (V E : Nat) (w : World) (hV1 : 1 ≤ V) (hV : V ≤ 1048576) (hE1 : 1 ≤ E) (hE : E ≤ 1048576) : Calls Tryd.prog 16 #[.int .i64 (V : Int), .int .i64 (E : Int)] w (NewPost V E w) := by
  obtain ⟨i0, hi, hz0, hz1, hz2⟩ := info_parts infoD
  obtain ⟨j0, hj, hy0, hy1, hy2⟩ := info_parts info32
  have hmkD : ∀ W, (Instr.makeSlice 87 (.int .i64 (2 * (E : Int))) (.int .i64 (2 * (E : Int)))).run Tryd.prog W = .ok (.slice (some ⟨W.heap.size, 0, none⟩) (2 * E) (2 * E)) (W.alloc (.cells (dVals (newD (2 * E) 0)).toArray 92)) := fun W => by
    have := run_make (P := Tryd.prog) W 87 92 i0 _ Tryd.underlying87 hi hz0 .i64 .i64 (2 * (E : Int)) (2 * (E : Int)) (by omega) (Int.le_refl _) (by rw [hz2]; omega) (by omega)
    rw [this, hz1, show (2 * (E : Int)).toNat = 2 * E by omega, show (Value.agg #[.int .i32 0, .int .i32 0, .int .i32 0]).cells = #[.int .i32 0, .int .i32 0, .int .i32 0] from rfl, zeros_D]
  have hmkL : ∀ W, (Instr.makeSlice 88 (.int .i64 (V : Int)) (.int .i64 (V : Int))).run Tryd.prog W = .ok (.slice (some ⟨W.heap.size, 0, none⟩) V V) (W.alloc (.cells (i32s (newL V 0)).toArray 21)) := fun W => by
    have := run_make (P := Tryd.prog) W 88 21 j0 _ Tryd.underlying88 hj hy0 .i64 .i64 (V : Int) (V : Int) (by omega) (Int.le_refl _) (by rw [hy2]; omega) (by omega)
    rw [this, hy1, Int.toNat_natCast, Nat.mul_one, show (Value.int .i32 0).cells = #[.int .i32 0] from rfl, zeros_L]
  have h1 : decide ((V : Int) < 1) = false := by simp; omega
  have h2 : decide ((1048576 : Int) < (V : Int)) = false := by simp; omega
  have h3 : decide ((E : Int) < 1) = false := by simp; omega
  have h4 : decide ((1048576 : Int) < (E : Int)) = false := by simp; omega
  clear hi hz0 hz1 hz2 hj hy0 hy1 hy2 i0 j0
  go_enter Tryd.func16, Tryd.ntmps16
  go_upto_region 3 with fail
  go_cut [6] (fun t wx => Hid (∃ p g1 g2 g3, t = .pointer (some ⟨p, 0, none⟩) ∧ NewRel w p g1 g2 g3 E V (newD (2 * E) 0) (newL V 0) wx))
  case first =>
    go_region
    all_goals
      go_wp2_with fail
      go_meet
      refine newRel_mk (Blk.drew (Blk.newAt _ _ _ (by simp))) ?_ ?_ ?_ ?_ ?_ ?_
      rotate_left 3
      · simp; omega
      · rintro k (rfl | rfl | rfl | rfl) <;> omega
      · exact ((((((Keeps.refl _ _).alloc _).alloc _).alloc _).alloc _).drew)
      all_goals (refine Blk.drew ?_; repeat (first | (refine Blk.newAt _ _ _ ?_; simp; done) | refine Blk.alloc ?_ _))
  case rest =>
    obtain ⟨p, g1, g2, g3, rfl, hn⟩ := hcut.out
    have HN := Lib.hid hn
    have c0 := hn.1.c0
    clear hcut hmkD hmkL h1 h2 h3 h4 hn
    go_wp2_with fail
    go_loopw [38] (fun i wr => ∃ j : Nat, j ≤ 2 * E ∧ i = .int .i64 (j : Int) ∧ Hid (NewRel w p g1 g2 g3 E V (newD (2 * E) j) (newL V 0) wr)) (fun i _ => 2 * E - (intOf i).toNat)
    case atStart => exact ⟨0, Nat.zero_le _, rfl, HN⟩
    case round =>
      obtain ⟨j, hj, rfl, HR⟩ := hrel
      have c0 := HR.out.1.c0
      have c1 := HR.out.1.c1
      by_cases hlt : j < 2 * E
      · obtain ⟨q0, _, _⟩ := HR.out.1.dart (newD_get (j := j) hlt)
        have f0 := HR.out.1.f1 (j * 3)
        have hlE : (j : Int) < 2 * (E : Int) := by omega
        have HS := Lib.hid HR.out.stepD
        go_wp2_with fail
        refine ⟨⟨j + 1, hlt, by go_num, HS.out⟩, by simp [intOf]; omega⟩
      · obtain rfl : j = 2 * E := by omega
        have hlE : decide (2 * (E : Int) < 2 * (E : Int)) = false := by simp
        clear HN
        go_wp2_with fail
        go_loopw [54] (fun i wr => ∃ j : Nat, j ≤ V ∧ i = .int .i64 (j : Int) ∧ Hid (NewRel w p g1 g2 g3 E V (newD (2 * E) (2 * E)) (newL V j) wr)) (fun i _ => V - (intOf i).toNat)
        case atStart => exact ⟨0, Nat.zero_le _, rfl, HR⟩
        case round =>
          clear HR c0 c1
          obtain ⟨j, hj, rfl, HR⟩ := hrel
          have c1 := HR.out.1.c1
          by_cases hlt : j < V
          · have q0 := HR.out.1.lst (newL_get (j := j) hlt)
            have f0 := HR.out.1.f2 j
            have HS := Lib.hid HR.out.stepL
            go_wp2_with fail
            refine ⟨⟨j + 1, hlt, by go_num, HS.out⟩, by simp [intOf]; omega⟩
          · obtain rfl : j = V := by omega
            go_wp2_with fail
            go_ret2
            refine ⟨p, _, rfl, ⟨⟨g1, g2, g3, _, _, _, by rw [List.length_replicate]; exact HR.out.1, rfl, Rel.new _ _⟩, hE1, hE, by rw [List.length_replicate]; exact hV1, by rw [List.length_replicate]; exact hV⟩, HR.out.2.1, HR.out.2.2⟩
theorem tnew_bad (v x : Int) (w : World) (h : v < 1 ∨ 1048576 < v ∨ x < 1 ∨ 1048576 < x) : Calls Tryd.prog 16 #[.int .i64 v, .int .i64 x] w (RetPost (.tuple #[.pointer none, errno 1]) w) := by
  unfold RetPost
  rcases (show v < 1 ∨ (1 ≤ v ∧ 1048576 < v) ∨ (1 ≤ v ∧ v ≤ 1048576 ∧ x < 1) ∨ (1 ≤ v ∧ v ≤ 1048576 ∧ 1 ≤ x ∧ 1048576 < x) by omega) with h1 | ⟨h1, h2⟩ | ⟨h1, h2, h3⟩ | ⟨h1, h2, h3, h4⟩
  · have d1 : decide (v < 1) = true := by simp; omega
    clear h
    go_enter Tryd.func16, Tryd.ntmps16
    go_wp2_with fail
    go_ret2
    exact ⟨rfl, Keeps.refl _ _⟩
  · have d1 : decide (v < 1) = false := by simp; omega
    have d2 : decide (1048576 < v) = true := by simp; omega
    clear h
    go_enter Tryd.func16, Tryd.ntmps16
    go_wp2_with fail
    go_ret2
    exact ⟨rfl, Keeps.refl _ _⟩
  · have d1 : decide (v < 1) = false := by simp; omega
    have d2 : decide (1048576 < v) = false := by simp; omega
    have d3 : decide (x < 1) = true := by simp; omega
    clear h
    go_enter Tryd.func16, Tryd.ntmps16
    go_wp2_with fail
    go_ret2
    exact ⟨rfl, Keeps.refl _ _⟩
  · have d1 : decide (v < 1) = false := by simp; omega
    have d2 : decide (1048576 < v) = false := by simp; omega
    have d3 : decide (x < 1) = false := by simp; omega
    have d4 : decide (1048576 < x) = true := by simp; omega
    clear h
    go_enter Tryd.func16, Tryd.ntmps16
    go_wp2_with fail
    go_ret2
    exact ⟨rfl, Keeps.refl _ _⟩
end Go.Proofs.YtjmkejkhpdhhbaaDoor
