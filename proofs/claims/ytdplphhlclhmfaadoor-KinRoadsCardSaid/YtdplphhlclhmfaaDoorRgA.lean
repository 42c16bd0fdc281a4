/- The document's groups: New, Join. -/
import Derived.Test.YtdplphhlclhmfaaDoorSpA
namespace Go.Proofs.YtdplphhlclhmfaaDoor
open Go Go.RowKit
set_option linter.unusedVariables false
set_option linter.unusedSimpArgs false
set_option maxRecDepth 100000

set_option maxHeartbeats 1000000 in
theorem rnew07 (n : Nat) (hn : n ≤ 1048576) (w : World) : Calls Tryd.prog 50 #[.int .i64 (n : Int)] w (DsPost (aloneG n) w) := by
  obtain ⟨i0, hi, hz0, hz1, hz2⟩ := info_parts infoI
  unfold DsPost
  go_enter Tryd.func50, Tryd.ntmps50
  go_upto_region 3 with fail
  have HS0 : Hid ((w.alloc (.cells #[] 3)).ownsRow w.heap.size 3 1 (.slice (some ⟨w.heap.size, 0, none⟩) 0 0) 0 (nats (List.range 0)) ∧ Keeps (fun _ => False) w (w.alloc (.cells #[] 3))) := Lib.hid ⟨World.ownsRow_made w #[] 0 (Nat.le_refl _) (Nat.zero_le _) rfl, (Keeps.refl _ _).alloc _⟩
  generalize w.alloc _ = w1 at *
  generalize Value.slice (some ⟨w.heap.size, 0, none⟩) 0 0 = l0 at *
  go_loopw [3, 4] (fun t i wr => ∃ (d : Nat), d ≤ n ∧ i = .int .i64 (d : Int) ∧ Hid (wr.ownsRow w.heap.size 3 1 t d (nats (List.range d)) ∧ Keeps (fun _ => False) w wr)) (fun _ i _ => n - (intOf i).toNat)
  case atStart => exact ⟨0, Nat.zero_le _, rfl, HS0⟩
  case round =>
    obtain ⟨d, hd, rfl, HR⟩ := hrel
    clear HS0
    by_cases hlt : d < n
    · have hdI : (d : Int) < (n : Int) := by omega
      have hown := HR.out.1
      have hB5 : w.heap.size ≤ wr.heap.size := HR.out.2.size
      go_wp2_with (first | (at_builtin; refine wpList_app1 rfl _ _ 23 rfl w.heap.size 3 i0 (.int .i64 0) 1 8 Tryd.underlying23 hi hz0 hz1 hz2 rfl (by decide) _ _ _ rfl hown _ 1 1 [.int .i64 (d : Int)] 3 rfl rfl rfl ?c1 ?c2 ?c3 ?c4 ?_))
      case c1 => simp [Value.oneCell']
      case c2 => unfold maxLen; omega
      case c3 => omega
      case c4 => exact hB5
      intro v7 w7 ho hk7 _ _ _
      have HN : Hid (w7.ownsRow w.heap.size 3 1 v7 (d + 1) (nats (List.range (d + 1))) ∧ Keeps (fun _ => False) w w7) := by
        refine Lib.hid ⟨?_, HR.out.2.thin hk7 fun i e => (HR.out.1.lt i e).1⟩
        rw [List.range_succ, nats_append]; exact ho
      clear ho hk7 hown
      go_wp2_with fail
      exact ⟨⟨d + 1, by omega, by simp, HN⟩, by simp [intOf]; omega⟩
    · obtain rfl : d = n := by omega
      go_wp2_with fail
      go_ret
      exact ⟨_, rfl, by rw [show (aloneG d).length = d by simp [aloneG]]; exact HR.out.1, HR.out.2⟩
/-- It lies in no block below. -/
def Fresh (B : Nat) (a : Option Addr) : Prop := ∀ b off, a = some ⟨b, off, none⟩ → B ≤ b
theorem Fresh.of_own {w : World} {B B' : Nat} {t : TypeId} {v : Value} {n k c : Nat} {xs : List Value} {a : Option Addr} (h : w.ownsRow B t 1 v n xs) (hv : v = .slice a k c) (hB : B' ≤ B) : Fresh B' a := by
  intro b off e
  have := (h.lt b (by rw [hv, e]; simp [Value.ownBlock])).1
  omega
def JoinDPost (n : Nat) (a0 : Option Addr) (g : List Nat) (w : World) (e : Ending) (w' : World) : Prop := ∃ a c t, e = .returned (.tuple #[.slice a n c, .bool t]) ∧ Rd w' a (nats g) ∧ Keeps (fun _ => False) w w' ∧ ∀ B, B ≤ w.heap.size → Fresh B a0 → Fresh B a
set_option maxHeartbeats 2000000 in
theorem rjoin07 {n : Nat} {g : List Nat} {w : World} {a : Option Addr} (c : Nat) (hr : Rd w a (nats g)) (hg : GOk n g) (hn : n ≤ 1048576) {u v : Nat} (hu : u < n) (hv : v < n) :
    Calls Tryd.prog 52 #[.slice a n c, .int .i64 (u : Int), .int .i64 (v : Int)] w (JoinDPost n a (joinG g u v) w) := by
  obtain ⟨i0, hi, hz0, hz1, hz2⟩ := info_parts infoI
  have hlen := hg.len
  obtain ⟨b, off, rfl, eu⟩ := hr.nat (i := u) (by omega)
  obtain ⟨b', off', e, ev⟩ := hr.nat (i := v) (by omega)
  cases e
  have hlu := hg.lt hu
  have hlv := hg.lt hv
  have HR := Lib.hid (fun W (hk : Keeps (fun _ => False) w W) i (hi : i < n) => (hr.keep hk).nat (i := i) (by omega))
  have HRD := Lib.hid hr
  have hun : (u : Int) < (n : Int) := by omega
  have hvn : (v : Int) < (n : Int) := by omega
  unfold JoinDPost
  by_cases he : g.getD u 0 = g.getD v 0
  · have hj : joinG g u v = g := by unfold joinG; rw [if_pos he]
    have HJ := Lib.hid hj
    rw [he] at eu
    clear hr hg hj he hlu
    generalize g.getD v 0 = x at *
    have hxx : ((x : Int) == (x : Int)) = true := by simp
    go_enter Tryd.func52, Tryd.ntmps52
    go_wp2_with fail
    go_quiet (fail)
    go_wp2_with fail
    refine bodyPost_ret (v := .tuple #[.slice (some ⟨b, off, none⟩) n c, .bool false]) (by simp [results, Tryd.results52, go_sem]) rfl ?_
    exact ⟨_, _, false, rfl, by rw [HJ.out]; exact HRD.out.keep ((Keeps.refl _ _).drewN _), (Keeps.refl _ _).drewN _, fun B _ q => q⟩
  · have hj : joinG g u v = g.map fun x => if x = max (g.getD u 0) (g.getD v 0) then min (g.getD u 0) (g.getD v 0) else x := by unfold joinG; rw [if_neg he]
    have HJ : Hid (joinG g u v = g.map fun z => if z = max (g.getD u 0) (g.getD v 0) then min (g.getD u 0) (g.getD v 0) else z) := Lib.hid hj
    have hne : (((g.getD u 0 : Nat) : Int) == ((g.getD v 0 : Nat) : Int)) = false := by rw [beq_eq_false_iff_ne]; omega
    clear hr hg hj
    generalize g.getD u 0 = x at *
    generalize g.getD v 0 = y at *
    have HL : Hid (min x y < n ∧ max x y < n) := Lib.hid (by omega)
    go_enter Tryd.func52, Tryd.ntmps52
    go_wp2_with fail
    go_quiet (fail)
    go_upto_region 3 with fail
    go_cut [8, 9] (fun p q wc => p = .int .i64 ((min x y : Nat) : Int) ∧ q = .int .i64 ((max x y : Nat) : Int) ∧ Keeps (fun _ => False) w wc)
    case first =>
      by_cases hxy : x < y
      · have d1 : decide ((x : Int) < (y : Int)) = true := decide_eq_true (by omega)
        have d2 : decide ((y : Int) < (x : Int)) = false := decide_eq_false (by omega)
        have m1 : min x y = x := by omega
        have m2 : max x y = y := by omega
        have HM : Hid (((min x y : Nat) : Int) = (x : Int) ∧ ((max x y : Nat) : Int) = (y : Int)) := Lib.hid (by omega)
        clear m1 m2
        go_quiet (fail)
        go_wp2_with fail
        go_meet
        rw [HM.out.1, HM.out.2]
        exact ⟨rfl, rfl, ((Keeps.refl _ _).drewN _).drewN _⟩
      · have d1 : decide ((x : Int) < (y : Int)) = false := decide_eq_false (by omega)
        have d2 : decide ((y : Int) < (x : Int)) = true := decide_eq_true (by omega)
        have HM : Hid (((min x y : Nat) : Int) = (y : Int) ∧ ((max x y : Nat) : Int) = (x : Int)) := Lib.hid (by omega)
        go_quiet (fail)
        go_wp2_with fail
        go_meet
        rw [HM.out.1, HM.out.2]
        exact ⟨rfl, rfl, ((Keeps.refl _ _).drewN _).drewN _⟩
    case rest =>
      obtain ⟨rfl, rfl, hk⟩ := hcut
      have HK := Lib.hid hk
      clear hk eu ev hne
      generalize min x y = lo at *
      generalize max x y = hi_ at *
      have HS0 : Hid (wc.ownsRow w.heap.size 3 1 (.slice none 0 0) 0 (nats ((g.map fun x => if x = hi_ then lo else x).take 0)) ∧ Keeps (fun _ => False) w wc) := Lib.hid ⟨World.ownsRow_nil _ _ _ _, HK.out⟩
      go_wp2_with fail
      go_loopw [10, 11] (fun t i wr => ∃ (d : Nat), d ≤ n ∧ i = .int .i64 (d : Int) ∧ Hid (wr.ownsRow w.heap.size 3 1 t d (nats ((g.map fun x => if x = hi_ then lo else x).take d)) ∧ Keeps (fun _ => False) w wr)) (fun _ i _ => n - (intOf i).toNat)
      case atStart => exact ⟨0, Nat.zero_le _, rfl, HS0⟩
      case round =>
        obtain ⟨d, hd, rfl, HX⟩ := hrel
        clear HS0
        by_cases hlt : d < n
        · have hdI : (d : Int) < (n : Int) := by omega
          have hown := HX.out.1
          have hB5 : w.heap.size ≤ wr.heap.size := HX.out.2.size
          obtain ⟨b2, off2, e, ed⟩ := HR.out _ HX.out.2 d hlt
          cases e
          have hT : (g.map fun x => if x = hi_ then lo else x).take (d + 1) = (g.map fun x => if x = hi_ then lo else x).take d ++ [if g.getD d 0 = hi_ then lo else g.getD d 0] := by
            rw [List.take_add_one, List.getElem?_map, List.getElem?_eq_getElem (by omega), List.getD_eq_getElem?_getD, List.getElem?_eq_getElem (show d < g.length by omega)]
            rfl
          generalize g.getD d 0 = z at *
          by_cases hz : z = hi_
          · have hb : ((z : Int) == (hi_ : Int)) = true := by rw [beq_iff_eq]; omega
            rw [if_pos hz] at hT
            have HT := Lib.hid hT
            clear hT hz
            as_aux_lemma =>
            go_wp2_with (first | (at_builtin; refine wpList_app1 rfl _ _ 23 rfl w.heap.size 3 i0 (.int .i64 0) 1 8 Tryd.underlying23 hi hz0 hz1 hz2 rfl (by decide) _ _ _ rfl hown _ 1 1 [.int .i64 (lo : Int)] 3 rfl rfl rfl ?c1 ?c2 ?c3 ?c4 ?_))
            case c1 => simp [Value.oneCell']
            case c2 => unfold maxLen; omega
            case c3 => omega
            case c4 => exact hB5
            intro v7 w7 ho hk7 _ _ _
            have HN : Hid (w7.ownsRow w.heap.size 3 1 v7 (d + 1) (nats ((g.map fun x => if x = hi_ then lo else x).take (d + 1))) ∧ Keeps (fun _ => False) w w7) := by
              refine Lib.hid ⟨?_, HX.out.2.thin hk7 fun i e => (HX.out.1.lt i e).1⟩
              rw [HT.out, nats_append]; exact ho
            clear ho hk7 hown
            go_wp2_with fail
            exact ⟨⟨d + 1, by omega, by simp, HN⟩, by simp [intOf]; omega⟩
          · have hb : ((z : Int) == (hi_ : Int)) = false := by rw [beq_eq_false_iff_ne]; omega
            rw [if_neg hz] at hT
            have HT := Lib.hid hT
            clear hT hz
            as_aux_lemma =>
            go_wp2_with (first | (at_builtin; refine wpList_app1 rfl _ _ 23 rfl w.heap.size 3 i0 (.int .i64 0) 1 8 Tryd.underlying23 hi hz0 hz1 hz2 rfl (by decide) _ _ _ rfl hown _ 1 1 [.int .i64 (z : Int)] 3 rfl rfl rfl ?c1 ?c2 ?c3 ?c4 ?_))
            case c1 => simp [Value.oneCell']
            case c2 => unfold maxLen; omega
            case c3 => omega
            case c4 => exact hB5
            intro v7 w7 ho hk7 _ _ _
            have HN : Hid (w7.ownsRow w.heap.size 3 1 v7 (d + 1) (nats ((g.map fun x => if x = hi_ then lo else x).take (d + 1))) ∧ Keeps (fun _ => False) w w7) := by
              refine Lib.hid ⟨?_, HX.out.2.thin hk7 fun i e => (HX.out.1.lt i e).1⟩
              rw [HT.out, nats_append]; exact ho
            clear ho hk7 hown
            go_wp2_with fail
            exact ⟨⟨d + 1, by omega, by simp, HN⟩, by simp [intOf]; omega⟩
        · obtain rfl : d = n := by omega
          obtain ⟨a9, c9, hu9, hr9, _⟩ := Rd.of_own HX.out.1
          have HF : Hid (Rd wr a9 (nats (joinG g u v))) := Lib.hid (by rw [HJ.out]; rwa [List.take_of_length_le (by rw [List.length_map]; omega)] at hr9)
          subst hu9
          clear HR HRD hr9
          go_wp2_with fail
          refine bodyPost_ret (v := .tuple #[.slice a9 d c9, .bool true]) (by simp [results, Tryd.results52, go_sem]) rfl ?_
          exact ⟨_, _, true, rfl, HF.out, HX.out.2, fun B hB _ => Fresh.of_own HX.out.1 rfl hB⟩
end Go.Proofs.YtdplphhlclhmfaaDoor
