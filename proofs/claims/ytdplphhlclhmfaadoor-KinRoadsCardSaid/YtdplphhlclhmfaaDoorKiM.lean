/- kin: Bridge; of nil; the document's Bridge, Bridges. -/
import Derived.Test.YtdplphhlclhmfaaDoorKiK
import Derived.Test.YtdplphhlclhmfaaDoorRgB
namespace Go.Proofs.YtdplphhlclhmfaaDoor
open Go Go.RowKit
set_option linter.unusedVariables false
set_option linter.unusedSimpArgs false
set_option maxRecDepth 100000

section
variable {w : World} {own : Nat → Prop} {p E B : Nat} {v : Value} {L : List (List Nat)}
theorem kbridge_nil (e : Int) : Calls Tryd.prog 26 #[.pointer none, .int .i64 e] w (RetPost (.tuple #[.bool false, errno 1]) w) := by
  have HS := Lib.hid (nsizes (w := w))
  unfold RetPost errno at *
  go_enter Tryd.func26, Tryd.ntmps26
  go_wp2_with fail
  with_reducible refine HS.out.mono ?_
  rintro e w1 ⟨rfl, hk⟩
  have HK := Lib.hid hk
  clear hk HS
  go_wp2_with fail
  go_ret2
  exact ⟨rfl, HK.out⟩
theorem blk_third (w1 : World) (c1 c2 cs : Array Value) (t1 t2 t : TypeId) : Blk (((w1.alloc (.cells c1 t1)).alloc (.cells c2 t2)).alloc (.cells cs t)).drew (w1.heap.size + 1 + 1) cs t := by
  have := (Blk.new ((w1.alloc (.cells c1 t1)).alloc (.cells c2 t2)) cs t).drew
  rwa [size_alloc, size_alloc] at this
theorem kbridges_nil : Calls Tryd.prog 29 #[.pointer none] w (RetPost (.slice none 0 0) w) := by
  have HS := Lib.hid (nsizes (w := w))
  obtain ⟨ib, hib, hb0, hb1, hb2⟩ := info_parts infoI
  have hmkI : ∀ W, (Instr.makeSlice 23 (.int .i64 0) (.int .i64 0)).run Tryd.prog W = .ok (.slice (some ⟨W.heap.size, 0, none⟩) 0 0) (W.alloc (.cells #[] 3)) := fun W => by
    have := run_make (P := Tryd.prog) W 23 3 ib _ Tryd.underlying23 hib hb0 .i64 .i64 0 0 (by omega) (Int.le_refl _) (by rw [hb2]; omega) (by omega)
    rw [this, hb1, show (Value.int .i64 0).cells = #[.int .i64 0] from rfl, show (0 : Int).toNat = 0 from rfl, Nat.zero_mul, madeCells_one]
    rfl
  clear hib hb0 hb1 hb2
  unfold RetPost at *
  go_enter Tryd.func29, Tryd.ntmps29
  go_wp2_with fail
  with_reducible refine HS.out.mono ?_
  rintro e w1 ⟨rfl, hk⟩
  have HK := Lib.hid hk
  clear hk HS
  go_upto_region 2 with fail
  go_cut [5] (fun x wd => ∃ wb, x = .pointer (some ⟨wb, 0, none⟩) ∧ Hid (∃ n1 n2, Blk wd wb #[.pointer none, n1, n2, .int .i64 0, .slice none 0 0] 111 ∧ w.heap.size ≤ wb ∧ Keeps (fun _ => False) w wd))
  case first =>
    go_region
    all_goals
      go_wp2_with fail
      go_meet
      exact ⟨_, rfl, Lib.hid ⟨_, _, blk_third _ _ _ _ _ _ _, by have := HK.out.size; omega, (((HK.out.alloc _).alloc _).alloc _).drew⟩⟩
  case rest =>
    obtain ⟨wb, rfl, HX⟩ := hcut
    obtain ⟨n1, n2, hb, hl, hk⟩ := HX.out
    have HL := Lib.hid hl
    have HKK := Lib.hid hk
    obtain ⟨c0, c1, c2, c3, c4⟩ := hb.cells5
    have HBK := Lib.hid hb
    clear HX hb hl hk hmkI HK
    go_upto_region 4 with fail
    go_loopw [20] (fun i wr => i = .int .i64 0 ∧ wr = wc) (fun _ _ => 0)
    case atStart => exact ⟨rfl, rfl⟩
    case round =>
      obtain ⟨rfl, rfl⟩ := hrel
      have HSO : Hid (Calls Tryd.prog 59 #[.slice none 0 0] wr (fun e w' => e = .returned (.tuple #[]) ∧ Keeps (fun _ => False) wr w')) := Lib.hid ((ssort (l := []) (World.ownsRow_nil wr 0 3 1) (by decide)).mono fun e w' q => ⟨q.1, q.2.2.mono fun i _ e => by simp [Value.ownBlock] at e⟩)
      go_wp2_with fail
      with_reducible refine HSO.out.mono ?_
      rintro e w5 ⟨rfl, hk5⟩
      have d4 := hk5.cellF c4
      have HK5 := Lib.hid (HKK.out.trans' hk5)
      clear hk5 HSO c0 c1 c2 c3 c4
      go_wp2_with fail
      go_ret
      exact ⟨rfl, HK5.out⟩
theorem kbridge (h : Tu w own p E L) (hg : Good E L) (e : Int) : Calls Tryd.prog 26 #[tptr p, .int .i64 e] w (RetPost (.tuple #[.bool (decide (liftErr E L e = 0 ∧ e.toNat ∈ brl L E)), errVal (liftErr E L e)]) w) := by
  have HS := Lib.hid (tsizes h)
  have HH := Lib.hid fun W (hk : Keeps (fun _ => False) w W) => thas (h.keep hk) e
  have HB := Lib.hid fun W (hk : Keeps (fun _ => False) w W) => kbridges (h.keep hk) hg
  have hbl : (brl L E).length ≤ 4000000 := by
    have : (brl L E).length ≤ E := by unfold brl; exact Nat.le_trans (List.length_filter_le _ _) (by simp)
    have := h.e2
    omega
  clear h hg
  unfold RetPost tptr at *
  unfold OwnPost at HB
  by_cases h1 : e < 0 ∨ (E : Int) ≤ e
  · have hle : liftErr E L e = 12 := by unfold liftErr; rw [if_pos h1]
    rw [hle, errVal_pos (by decide), decide_eq_false (by simp)]
    clear hle HH HB hbl
    rcases h1 with h1 | h1
    · go_enter Tryd.func26, Tryd.ntmps26
      go_wp2_with fail
      with_reducible refine HS.out.mono ?_
      rintro e w1 ⟨rfl, hk⟩
      have HK := Lib.hid hk
      clear hk HS
      go_wp2_with fail
      go_ret2
      exact ⟨rfl, HK.out⟩
    · have h2 : ¬ e < 0 := by omega
      go_enter Tryd.func26, Tryd.ntmps26
      go_wp2_with fail
      with_reducible refine HS.out.mono ?_
      rintro e w1 ⟨rfl, hk⟩
      have HK := Lib.hid hk
      clear hk HS
      go_wp2_with fail
      go_ret2
      exact ⟨rfl, HK.out⟩
  · obtain ⟨k, rfl⟩ := Int.eq_ofNat_of_zero_le (show 0 ≤ e by omega)
    have hkE : k < E := by omega
    have h2 : ¬ (k : Int) < 0 := by omega
    have h3 : ¬ (E : Int) ≤ (k : Int) := by omega
    have hkI : (k : Int) < (E : Int) := by omega
    simp only [Int.toNat_natCast] at HH ⊢
    by_cases hs : Stands L (2 * k)
    · have hle : liftErr E L (k : Int) = 0 := by unfold liftErr; rw [if_neg h1, Int.toNat_natCast, if_pos hs]
      have hd : decide (liftErr E L (k : Int) = 0 ∧ k ∈ brl L E) = decide (k ∈ brl L E) := by rw [hle]; simp
      rw [hd, hle, errVal_zero]
      have HH2 : Hid (∀ W, Keeps (fun _ => False) w W → Calls Tryd.prog 22 #[.pointer (some ⟨p, 0, none⟩), .int .i64 (k : Int)] W fun e w' => e = .returned (.bool true) ∧ Keeps (fun _ => False) W w') := Lib.hid fun W hk => by
        have := HH.out W hk
        rwa [decide_eq_true (show 0 ≤ (k : Int) ∧ (k : Int) < (E : Int) ∧ Stands L (2 * k) from ⟨by omega, hkI, hs⟩)] at this
      clear HH h1 hle hd hs
      generalize brl L E = bl at *
      generalize hdb : decide (k ∈ bl) = db at *
      go_enter Tryd.func26, Tryd.ntmps26
      go_wp2_with fail
      with_reducible refine HS.out.mono ?_
      rintro e w1 ⟨rfl, hk⟩
      have HK := Lib.hid hk
      clear hk HS
      go_wp2_with fail
      with_reducible refine (HH2.out _ HK.out).mono ?_
      rintro e w2 ⟨rfl, hk⟩
      have HK2 := Lib.hid (HK.out.trans' hk)
      clear hk HH2 HK
      go_wp2_with fail
      with_reducible refine (HB.out _ HK2.out).mono ?_
      rintro e w3 ⟨bv, rfl, ho, hk⟩
      obtain ⟨a, c, rfl, hrd, _⟩ := Rd.of_own ho
      have HC := Lib.hid (scontains a c hrd hbl k)
      have HK3 := Lib.hid (HK2.out.trans' hk)
      clear ho hk hrd HB HK2
      unfold RetPost at HC
      rw [hdb] at HC
      clear hdb
      go_wp2_with fail
      with_reducible refine HC.out.mono ?_
      rintro e w4 ⟨rfl, hk⟩
      have HK4 := Lib.hid (HK3.out.trans' hk)
      clear hk HC HK3
      go_wp2_with fail
      go_ret2
      exact ⟨rfl, HK4.out⟩
    · have hle : liftErr E L (k : Int) = 13 := by unfold liftErr; rw [if_neg h1, Int.toNat_natCast, if_neg hs]
      rw [hle, errVal_pos (by decide), decide_eq_false (by simp)]
      have HH2 : Hid (∀ W, Keeps (fun _ => False) w W → Calls Tryd.prog 22 #[.pointer (some ⟨p, 0, none⟩), .int .i64 (k : Int)] W fun e w' => e = .returned (.bool false) ∧ Keeps (fun _ => False) W w') := Lib.hid fun W hk => by
        have := HH.out W hk
        rwa [decide_eq_false (show ¬ (0 ≤ (k : Int) ∧ (k : Int) < (E : Int) ∧ Stands L (2 * k)) from fun q => hs q.2.2)] at this
      clear HH h1 hle hs HB
      go_enter Tryd.func26, Tryd.ntmps26
      go_wp2_with fail
      with_reducible refine HS.out.mono ?_
      rintro e w1 ⟨rfl, hk⟩
      have HK := Lib.hid hk
      clear hk HS
      go_wp2_with fail
      with_reducible refine (HH2.out _ HK.out).mono ?_
      rintro e w2 ⟨rfl, hk⟩
      have HK2 := Lib.hid (HK.out.trans' hk)
      clear hk HH2 HK
      go_wp2_with fail
      go_ret2
      exact ⟨rfl, HK2.out⟩
end
end Go.Proofs.YtdplphhlclhmfaaDoor
