/- The document's Darts. -/
import Derived.Test.YtjmkejkhpdhhbaaDoorLwS
namespace Go.Proofs.YtjmkejkhpdhhbaaDoor
open Go Go.RowKit
set_option linter.unusedVariables false
set_option linter.unusedSimpArgs false
set_option maxRecDepth 100000

/-- The darts that are laid, below n. -/
def dartsN (L : List (List Nat)) (n : Nat) : List Nat := (List.range n).filter fun d => decide (Stands L d)
theorem dartsN_step (L : List (List Nat)) (n : Nat) : dartsN L (n + 1) = if Stands L n then dartsN L n ++ [n] else dartsN L n := by
  unfold dartsN
  rw [List.range_succ, List.filter_append]
  by_cases h : Stands L n
  · rw [if_pos h]; simp [h]
  · rw [if_neg h]; simp [h]
theorem dartsN_le (L : List (List Nat)) (n : Nat) : (dartsN L n).length ≤ n := by
  unfold dartsN
  exact Nat.le_trans (List.length_filter_le _ _) (by simp)
theorem mem_darts {E : Nat} {L : List (List Nat)} (h : WF E L) {d : Nat} : d ∈ dartsN L (2 * E) ↔ Stands L d := by
  unfold dartsN
  rw [List.mem_filter, List.mem_range]
  constructor
  · rintro ⟨_, q⟩; exact of_decide_eq_true q
  · intro q; exact ⟨h.bdS q, decide_eq_true q⟩
theorem owns_low {w : World} {b c : Nat} {t : TypeId} {s : Nat} {v : Value} {n : Nat} {xs : List Value} (h : w.ownsRow c t s v n xs) (hb : b ≤ c) : w.ownsRow b t s v n xs := by
  refine ⟨h.1, ?_⟩
  rcases h.2 with h2 | ⟨g, cap, cur, e, hg, r⟩
  · exact Or.inl h2
  · exact Or.inr ⟨g, cap, cur, e, Nat.le_trans hb hg, r⟩
/-- A list told: a slice that is the call's own. -/
def DsPost (l : List Nat) (w : World) (e : Ending) (w' : World) : Prop := ∃ u, e = .returned u ∧ w'.ownsRow w.heap.size 3 1 u l.length (nats l) ∧ Keeps (fun _ => False) w w'
section
variable {w : World} {B E : Nat} {v : Value} {L : List (List Nat)}
set_option maxHeartbeats 4000000 in
theorem rdarts (h : LsRow w B v L) (hw : WF E L) (h0 : 0 < L.length) (hV : L.length ≤ 1048576) (hE : E ≤ 1048576) :
    Calls Tryd.prog 49 #[rval E v] w (DsPost (dartsN L (2 * E)) w) := by
  obtain ⟨i0, hi, hz0, hz1, hz2⟩ := info_parts infoI
  obtain ⟨va, vc, rfl⟩ := h.form
  generalize hW : w.alloc (.cells #[.int .i64 (E : Int), .slice va L.length vc] 32) = w0
  have hK0 : Keeps (fun _ => False) w w0 := by rw [← hW]; exact (Keeps.refl _ _).alloc _
  have HB : Hid (Blk w0 w.heap.size #[.int .i64 (E : Int), .slice va L.length vc] 32) := by rw [← hW]; exact Lib.hid (Blk.new _ _ _)
  have HFD := Lib.hid (fun W (hk : Keeps (fun _ => False) w0 W) d => rfind ((h.keep hK0).keep hk) hw h0 hV hE d)
  have HK0 := Lib.hid hK0
  have hwE : wrap64 (2 * (E : Int)) = 2 * (E : Int) := by unfold wrap64; omega
  unfold RetPost rval at HFD
  unfold DsPost rval
  clear hK0 h
  go_enter Tryd.func49, Tryd.ntmps49
  go_upto_region 1 with fail
  clear hW
  go_upto_region 3 with fail
  go_loopw [3, 4] (fun t i wr => ∃ (d : Nat), d ≤ 2 * E ∧ i = .int .i64 (d : Int) ∧ Hid (wr.ownsRow w0.heap.size 3 1 t (dartsN L d).length (nats (dartsN L d)) ∧ Keeps (fun _ => False) w0 wr)) (fun _ i _ => 2 * E - (intOf i).toNat)
  case atStart => exact ⟨0, Nat.zero_le _, rfl, Lib.hid ⟨World.ownsRow_nil _ _ _ _, Keeps.refl _ _⟩⟩
  case round =>
    obtain ⟨d, hd, rfl, HR⟩ := hrel
    obtain ⟨x0, x1, _, _, _⟩ := (HB.out.kept HR.out.2 id).cells
    by_cases hdE : d < 2 * E
    · have hdI : (d : Int) < 2 * (E : Int) := by omega
      have hle := dartsN_le L d
      have hst := dartsN_step L d
      have hfv := fun hs => (fndV_at hw (d := d) hs).1
      have hfn := fun hs => fndV_neg (L := L) (d := d) hs
      go_wp2_with fail
      with_reducible refine (HFD.out _ HR.out.2 _).mono ?_
      rintro e w5 ⟨rfl, hk5⟩
      have HK5 := Lib.hid (HR.out.2.trans' hk5)
      have HO5 := Lib.hid (ownsRow_kept HR.out.1 hk5 fun _ _ => id)
      have hown := HO5.out
      have hB5 : w0.heap.size ≤ w5.heap.size := HK5.out.size
      clear hk5
      by_cases hs : Stands L d
      · have hd1 : decide (0 ≤ fndV L (d : Int)) = true := by rw [hfv hs]; simp
        rw [if_pos hs] at hst
        have HST := Lib.hid hst
        clear hfv hfn hs hst
        generalize fndV L (d : Int) = fv at *
        generalize fndI L (d : Int) = fi at *
        go_wp2_with (first | (at_builtin; refine wpList_app1 rfl _ _ 47 rfl w0.heap.size 3 i0 (.int .i64 0) 1 8 Tryd.underlying47 hi hz0 hz1 hz2 rfl (by decide) _ _ _ rfl hown _ 1 1 [.int .i64 (d : Int)] 3 rfl rfl rfl ?c1 ?c2 ?c3 ?c4 ?_))
        case c1 => simp [Value.oneCell']
        case c2 => unfold maxLen; omega
        case c3 => omega
        case c4 => exact hB5
        intro v7 w7 ho hk7 _ _ _
        have HN : Hid (w7.ownsRow w0.heap.size 3 1 v7 (dartsN L (d + 1)).length (nats (dartsN L (d + 1))) ∧ Keeps (fun _ => False) w0 w7) := by
          refine Lib.hid ⟨?_, HK5.out.thin hk7 fun i e => (HO5.out.lt i e).1⟩
          rw [HST.out, nats_append, List.length_append]; exact ho
        clear ho hk7 hown
        go_wp2_with fail
        exact ⟨⟨d + 1, by omega, by simp, HN⟩, by simp [intOf]; omega⟩
      · have hd1 : decide (0 ≤ fndV L (d : Int)) = false := by rw [hfn hs]; rfl
        rw [if_neg hs] at hst
        have HN : Hid (w5.ownsRow w0.heap.size 3 1 u3 (dartsN L (d + 1)).length (nats (dartsN L (d + 1))) ∧ Keeps (fun _ => False) w0 w5) := Lib.hid ⟨by rw [hst]; exact hown, HK5.out⟩
        clear hfv hfn hs hst hown
        generalize fndV L (d : Int) = fv at *
        generalize fndI L (d : Int) = fi at *
        go_wp2_with fail
        exact ⟨⟨d + 1, by omega, by simp, HN⟩, by simp [intOf]; omega⟩
    · obtain rfl : d = 2 * E := by omega
      have hlE : decide (2 * (E : Int) < 2 * (E : Int)) = false := by simp
      have HKF := Lib.hid (HK0.out.trans' HR.out.2)
      go_wp2_with fail
      go_ret
      exact ⟨_, rfl, owns_low HR.out.1 HK0.out.size, HKF.out⟩
end
end Go.Proofs.YtjmkejkhpdhhbaaDoor
