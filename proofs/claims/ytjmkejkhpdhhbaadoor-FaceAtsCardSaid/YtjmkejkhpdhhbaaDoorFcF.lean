/- Chapter 11: the darts round a face. -/
import Derived.Test.YtjmkejkhpdhhbaaDoorFcE
import Derived.Deep.LoopGhost
namespace Go.Proofs.YtjmkejkhpdhhbaaDoor
open Go Go.RowKit
set_option linter.unusedVariables false
set_option linter.unusedSimpArgs false
set_option maxRecDepth 100000

theorem orb_take {L : List (List Nat)} {E d k : Nat} (hk : k < per L E d) : (orb L E d).take (k + 1) = (orb L E d).take k ++ [itf L d k] := by
  rw [take_next (by rw [orb_length]; exact hk), orb_get hk]
section
variable {w : World} {own : Nat → Prop} {p E : Nat} {L : List (List Nat)}
set_option maxHeartbeats 2000000 in
theorem fwalk_err (h : Tu w own p E L) (hg : Good E L) (d : Int) (h0 : dErr E L d ≠ 0) : Calls Tryd.prog 39 #[tptr p, .int .i64 d] w (RetPost (.tuple #[.slice none 0 0, errVal (dErr E L d)]) w) := by
  have HN := Lib.hid (fnext h hg d)
  rw [if_neg h0] at HN
  have hne := errVal_pos h0
  rw [hne] at HN ⊢
  generalize dErr E L d = k at *
  unfold RetPost tptr at *
  clear h hg hne
  go_enter Tryd.func39, Tryd.ntmps39
  go_wp2_with fail
  with_reducible refine HN.out.mono ?_
  rintro e w1 ⟨rfl, hk⟩
  have HK := Lib.hid hk
  clear hk
  go_wp2_with fail
  go_ret2
  exact ⟨rfl, HK.out⟩
set_option maxHeartbeats 4000000 in
theorem fwalk (h : Tu w own p E L) (hg : Good E L) {d : Nat} (hd : Stands L d) : Calls Tryd.prog 39 #[tptr p, .int .i64 (d : Int)] w (LPost (orb L E d) 0 w) := by
  obtain ⟨i0', hi, hz0, hz1, hz2⟩ := info_parts infoI
  have hE2 := h.e2
  have hple := (per_le hg hd).1
  have hpback := (per_le hg hd).2
  have hp1 : 1 ≤ per L E d := Nat.succ_pos _
  have HN : Hid (∀ k W, Keeps (fun _ => False) w W → Calls Tryd.prog 40 #[tptr p, .int .i64 ((itf L d k : Nat) : Int)] W (RetPost (.tuple #[.int .i64 ((itf L d (k + 1) : Nat) : Int), .nilIface]) W)) := Lib.hid fun k W hk => by
    have hs := itf_stands hg hd k
    have := fnext (h.keep hk) hg ((itf L d k : Nat) : Int)
    rw [dErr_stands hg.toWF hs, if_pos rfl, Int.toNat_natCast, errVal_zero] at this
    exact this
  have HNE : Hid (∀ k, 1 ≤ k → k < per L E d → itf L d k ≠ d) := fun k h1 h2 => per_least h1 h2
  have HBD : Hid (∀ k, itf L d k < 2 * E) := fun k => hg.toWF.bdS (itf_stands hg hd k)
  have HT : Hid (∀ k, k < per L E d → (orb L E d).take (k + 1) = (orb L E d).take k ++ [itf L d k]) := fun k hk => orb_take hk
  have HRL : Hid ((orb L E d).length = per L E d) := orb_length L E d
  have h00 : itf L d 0 = d := rfl
  have hdE := HBD.out 0
  rw [h00] at hdE
  clear h hg hd
  unfold LPost tptr RetPost at *
  generalize orb L E d = R at *
  generalize per L E d = P at *
  obtain ⟨g, hg⟩ : ∃ g : Nat → Nat, ∀ k, itf L d k = g k := ⟨_, fun _ => rfl⟩
  simp only [hg] at HN HNE HBD HT h00 hpback
  clear hg
  have HN0 := Lib.hid (HN.out 0 w (Keeps.refl _ _))
  rw [h00, Nat.zero_add] at HN0
  have HT0 : Hid (R.take 1 = [d]) := by
    have := HT.out 0 (by omega)
    rw [h00] at this
    exact Lib.hid this
  have HGP := Lib.hid hpback
  clear h00 hpback
  rw [errVal_zero]
  go_enter Tryd.func39, Tryd.ntmps39
  go_wp2_with fail
  with_reducible refine HN0.out.mono ?_
  rintro e w1 ⟨rfl, hk⟩
  have hws := hk.size
  have HS0 : Hid ((w1.alloc (.cells #[.int .i64 (d : Int)] 3)).ownsRow w.heap.size 3 1 (.slice (some ⟨w1.heap.size, 0, none⟩) 1 1) 1 (nats (R.take 1)) ∧ Keeps (fun _ => False) w (w1.alloc (.cells #[.int .i64 (d : Int)] 3))) := by
    refine ⟨?_, hk.alloc _⟩
    rw [HT0.out]
    exact World.ownsRow_lit w1 #[.int .i64 (d : Int)] 1 hws (by decide) rfl
  clear hk HN0
  go_wp2_with fail
  go_loopg [6, 7, 8] (P - 1) (fun q x e o wr => ∃ k, k + q = P ∧ 1 ≤ k ∧ x = .int .i64 ((g k : Nat) : Int) ∧ e = .nilIface ∧ Hid (wr.ownsRow w.heap.size 3 1 o k (nats (R.take k)) ∧ Keeps (fun _ => False) w wr))
  case atStart => exact ⟨1, by omega, Nat.le_refl _, rfl, rfl, HS0⟩
  case round =>
    obtain ⟨k, hkq, hk1, rfl, rfl, HO⟩ := hrel
    clear HS0 hws
    by_cases hkP : k = P
    · have hge : ((g k : Nat) : Int) = (d : Int) := by rw [hkP, HGP.out]
      rw [hge]
      have hneb : (((d : Nat) : Int) != ((d : Nat) : Int)) = false := by simp
      clear hge
      go_wp2_with fail
      go_ret2
      refine ⟨_, rfl, ?_, HO.out.2⟩
      have h1 := HO.out.1
      rw [hkP, List.take_of_length_le (by rw [HRL.out]; exact Nat.le_refl _)] at h1
      rw [HRL.out]
      exact h1
    · have hne := HNE.out k hk1 (by omega)
      have hTN := HT.out k (by omega)
      have hNX := Lib.hid (HN.out k)
      have hgE := HBD.out k
      generalize hx : g k = x at *
      have hneb : (((x : Nat) : Int) != ((d : Nat) : Int)) = true := by rw [bne_iff_ne]; omega
      have hown := HO.out.1
      have hws := HO.out.2.size
      have HTN := Lib.hid hTN
      clear hTN hne hx
      go_wp2_with (first | (at_builtin; refine wpList_app1 rfl _ _ 47 rfl w.heap.size 3 i0' (.int .i64 0) 1 8 Tryd.underlying47 hi hz0 hz1 hz2 rfl (by decide) _ _ _ rfl hown _ 1 1 [.int .i64 ((x : Nat) : Int)] 3 rfl rfl rfl ?c1 ?c2 ?c3 ?c4 ?_))
      case c1 => simp [Value.oneCell']
      case c2 => unfold maxLen; omega
      case c3 => omega
      case c4 => exact hws
      intro v1 w1 ho hk1' _ _ _
      have HO1 : Hid (w1.ownsRow w.heap.size 3 1 v1 (k + 1) (nats (R.take (k + 1))) ∧ Keeps (fun _ => False) w w1) := by
        refine ⟨?_, HO.out.2.trans hk1' fun i hi e => by have := (HO.out.1.lt i e).1; omega⟩
        rw [HTN.out, nats_append]
        exact ho
      clear ho hk1' hown
      go_wp2_with fail
      with_reducible refine (hNX.out _ HO1.out.2).mono ?_
      rintro e w2 ⟨rfl, hk2⟩
      have HO2 : Hid (w2.ownsRow w.heap.size 3 1 v1 (k + 1) (nats (R.take (k + 1))) ∧ Keeps (fun _ => False) w w2) := ⟨ownsRow_kept HO1.out.1 hk2 fun _ _ q => q, HO1.out.2.trans' hk2⟩
      clear hk2
      go_wp2_with fail
      go_roundg (gk - 1)
      case measure => omega
      case rel => exact ⟨k + 1, by omega, by omega, rfl, rfl, HO2⟩
end
end Go.Proofs.YtjmkejkhpdhhbaaDoor
