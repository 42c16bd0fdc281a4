/- The document's Check of vertices. -/
import Derived.Test.YtdplphhlclhmfaaDoorRgB
import Derived.Test.YtdplphhlclhmfaaDoorSpC
namespace Go.Proofs.YtdplphhlclhmfaaDoor
open Go Go.RowKit
set_option linter.unusedVariables false
set_option linter.unusedSimpArgs false
set_option maxRecDepth 100000

/-- What has been seen once. -/
def onceV (N : Nat) (P : List Int) : List Value := (List.range N).map fun (d : Nat) => Value.int .i64 (if (d : Int) ∈ P then 1 else 0)
theorem onceV_length (N : Nat) (P : List Int) : (onceV N P).length = N := by simp [onceV]
theorem onceV_get {N : Nat} {P : List Int} {d : Nat} (h : d < N) : (onceV N P)[d]? = some (.int .i64 (if (d : Int) ∈ P then 1 else 0)) := by simp [onceV, h]
theorem onceV_set (N : Nat) (P : List Int) (d : Nat) : (onceV N P).toArray.setIfInBounds d (.int .i64 1) = (onceV N (P ++ [(d : Int)])).toArray := by
  rw [List.setIfInBounds_toArray]
  congr 1
  apply List.ext_getElem?
  intro j
  rw [List.getElem?_set, onceV_length]
  by_cases hj : j < N
  · rw [onceV_get hj, onceV_get hj]
    by_cases e : d = j
    · subst e; rw [if_pos rfl, if_pos hj]; simp
    · rw [if_neg e]
      have : (j : Int) ≠ (d : Int) := by omega
      simp [this]
  · rw [List.getElem?_eq_none (by rw [onceV_length]; omega), List.getElem?_eq_none (by rw [onceV_length]; omega)]
    by_cases e : d = j
    · rw [if_pos e, if_neg (by omega)]
    · rw [if_neg e]
theorem zerosO (N : Nat) : madeCells #[.int .i64 0] N = (onceV N []).toArray := by
  rw [madeCells_one]
  congr 1
  apply List.ext_getElem
  · simp [onceV]
  · intro i h1 h2
    simp [onceV]
def OMark (w : World) (sb N : Nat) (P : List Int) (wr : World) : Prop := Blk wr sb (onceV N P).toArray 3 ∧ w.heap.size ≤ sb ∧ Keeps (fun _ => False) w wr
section
variable {w wr w1 : World} {sb N d : Nat} {P : List Int}
theorem OMark.cell (h : OMark w sb N P wr) (hd : d < N) : wr.cell? ⟨sb, d, none⟩ = some (.int .i64 (if (d : Int) ∈ P then 1 else 0)) := by
  rw [h.1.cell, List.getElem?_toArray, onceV_get hd]
theorem OMark.push (h : OMark w sb N P wr) : OMark w sb N (P ++ [(d : Int)]) (wr.setCell ⟨sb, d, none⟩ (.int .i64 1)) := by
  refine ⟨?_, h.2.1, h.2.2.setNew h.2.1 _ _⟩
  have := h.1.set d (.int .i64 1)
  rwa [onceV_set] at this
theorem OMark.keep (h : OMark w sb N P wr) (hk : Keeps (fun _ => False) wr w1) : OMark w sb N P w1 := ⟨h.1.kept hk id, h.2.1, h.2.2.trans' hk⟩
end
section
variable {w : World} {B E : Nat} {v : Value} {L : List (List Nat)}
set_option maxHeartbeats 4000000 in
theorem rcheck12 (h : LsRow w B v L) (h0 : 0 < L.length) (hV : L.length ≤ 1048576) (a : Option Addr) (c : Nat) (l : List Int) (hr : Rd w a (i64s l)) (hl : l.length ≤ 4000000) :
    Calls Tryd.prog 15 #[rval E v, .slice a l.length c] w (RetPost (.int .i64 (chk12 L l : Nat)) w) := by
  obtain ⟨g, vc, rfl, hc, hB, hat⟩ := h.at_ h0
  generalize hN : L.length = N at *
  generalize hW : w.alloc (.cells #[.int .i64 (E : Int), .slice (some ⟨g, 0, none⟩) N vc] 27) = w0
  have hK0 : Keeps (fun _ => False) w w0 := by rw [← hW]; exact (Keeps.refl _ _).alloc _
  have HB : Hid (Blk w0 w.heap.size #[.int .i64 (E : Int), .slice (some ⟨g, 0, none⟩) N vc] 27) := by rw [← hW]; exact Lib.hid (Blk.new _ _ _)
  have HK0 := Lib.hid hK0
  obtain ⟨ib, hib, hb0, hb1, hb2⟩ := info_parts infoI
  have hmkI : ∀ W, (Instr.makeSlice 23 (.int .i64 (N : Int)) (.int .i64 (N : Int))).run Tryd.prog W = .ok (.slice (some ⟨W.heap.size, 0, none⟩) N N) (W.alloc (.cells (onceV N []).toArray 3)) := fun W => by
    have := run_make (P := Tryd.prog) W 23 3 ib _ Tryd.underlying23 hib hb0 .i64 .i64 (N : Int) (N : Int) (by omega) (Int.le_refl _) (by rw [hb2]; omega) (by omega)
    rw [this, hb1, Int.toNat_natCast, Nat.mul_one, show (Value.int .i64 0).cells = #[.int .i64 0] from rfl, zerosO]
  have HR := Lib.hid fun W (hk : Keeps (fun _ => False) w0 W) => (hr.keep hK0).keep hk
  have HAT : Hid (∀ W, Keeps (fun _ => False) w0 W → ∀ i, i < N → ∃ a c, W.cell? ⟨g, i, none⟩ = some (.slice a (L.getD i []).length c)) := Lib.hid fun W hk i hi => by
    obtain ⟨u, hu, hrow⟩ := hat i _ (some_getD (by omega))
    obtain ⟨a, c, rfl, _⟩ := hrow.rd
    exact ⟨a, c, hk.cellF (hK0.cellF hu)⟩
  have HC : Hid (chk12 L l = if l.any (outN N) = true then 12 else if l.Nodup then (if (List.range N).any (fun v => decide (L.getD v [] ≠ [] ∧ (v : Int) ∉ l)) = true then 13 else 0) else 20) := Lib.hid (by unfold chk12; rw [hN])
  clear h hr hat hib hb0 hb1 hb2 hK0 hN
  unfold rval RetPost
  go_enter Tryd.func15, Tryd.ntmps15
  go_upto_region 1 with fail
  clear hW
  generalize w.heap.size = bx at *
  go_wp2_with fail
  go_loopw [5] (fun i wr => ∃ k : Nat, k ≤ l.length ∧ i = .int .i64 (k : Int) ∧ Hid (Keeps (fun _ => False) w0 wr ∧ ∀ j, j < k → outN N (l.getD j 0) = false)) (fun i _ => l.length - (intOf i).toNat)
  case atStart => exact ⟨0, Nat.zero_le _, rfl, Lib.hid ⟨Keeps.refl _ _, fun j hj => by omega⟩⟩
  case round =>
    obtain ⟨k, hk, rfl, HX⟩ := hrel
    by_cases hlt : k < l.length
    · obtain ⟨b, off, rfl, e1⟩ := (HR.out _ HX.out.1).i64 hlt
      obtain ⟨x0, x1, _, _, _⟩ := (HB.out.kept HX.out.1 id).cells
      have hkI : (k : Int) < (l.length : Int) := by omega
      have HIN : Hid (l.getD k 0 ∈ l) := Lib.hid (by rw [List.getD_eq_getElem?_getD, List.getElem?_eq_getElem hlt]; exact List.getElem_mem hlt)
      have hox : outN N (l.getD k 0) = (decide (l.getD k 0 < 0) || decide ((N : Int) ≤ l.getD k 0)) := rfl
      have HO12 : Hid (outN N (l.getD k 0) = true → chk12 L l = 12) := Lib.hid fun q => by
        rw [HC.out, if_pos]
        exact List.any_eq_true.2 ⟨_, HIN.out, q⟩
      have HKX := Lib.hid (HK0.out.trans' HX.out.1)
      have HY : Hid (outN N (l.getD k 0) = false → ∀ w5, Keeps (fun _ => False) wr w5 → Keeps (fun _ => False) w0 w5 ∧ ∀ j, j < k + 1 → outN N (l.getD j 0) = false) := Lib.hid fun q w5 hk5 => ⟨HX.out.1.trans' hk5, fun j hj => by
        by_cases e : j = k
        · rw [e]; exact q
        · exact HX.out.2 j (by omega)⟩
      generalize l.getD k 0 = x at *
      clear HX HC HIN HAT HR hmkI
      by_cases hx0 : x < 0
      · have d1 : decide (x < 0) = true := decide_eq_true hx0
        have HE := Lib.hid (HO12.out (by rw [hox, d1]; rfl))
        clear HO12 hox HY hx0
        go_wp2_with fail
        go_quiet (fail)
        go_wp2_with fail
        go_ret
        exact ⟨by rw [HE.out]; rfl, HKX.out.trans' ((Keeps.refl _ _).drewN _)⟩
      · have d1 : decide (x < 0) = false := decide_eq_false hx0
        by_cases hxN : (N : Int) ≤ x
        · have d2 : decide ((N : Int) ≤ x) = true := decide_eq_true hxN
          have HE := Lib.hid (HO12.out (by rw [hox, d1, d2]; rfl))
          clear HO12 hox HY hx0 hxN
          go_wp2_with fail
          go_quiet (fail)
          go_wp2_with fail
          go_ret
          exact ⟨by rw [HE.out]; rfl, HKX.out.trans' ((Keeps.refl _ _).drewN _)⟩
        · have d2 : decide ((N : Int) ≤ x) = false := decide_eq_false hxN
          have HYY := Lib.hid (HY.out (by rw [hox, d1, d2]; rfl))
          clear HO12 hox HY hx0 hxN HKX
          go_wp2_with fail
          go_quiet (fail)
          go_wp2_with fail
          exact ⟨⟨k + 1, by omega, by first | rfl | trivial, Lib.hid (HYY.out _ ((Keeps.refl _ _).drewN _))⟩, by simp [intOf]; omega⟩
    · obtain rfl : k = l.length := by omega
      have HO : Hid (l.any (outN N) = false) := Lib.hid (by
        rw [List.any_eq_false]
        intro x hx
        obtain ⟨j, hj, rfl⟩ := List.mem_iff_getElem.1 hx
        have := HX.out.2 j hj
        rw [List.getD_eq_getElem?_getD, List.getElem?_eq_getElem hj] at this
        simp only [Option.getD_some] at this
        rw [this]; decide)
      have HC2 : Hid (chk12 L l = if l.Nodup then (if (List.range N).any (fun v => decide (L.getD v [] ≠ [] ∧ (v : Int) ∉ l)) = true then 13 else 0) else 20) := Lib.hid (by rw [HC.out, if_neg (by rw [HO.out]; decide)])
      have HLI : Hid (∀ k, k < l.length → ∃ v : Nat, l.getD k 0 = v ∧ v < N) := Lib.hid fun k hk => out_none HO.out (by rw [List.getD_eq_getElem?_getD, List.getElem?_eq_getElem hk]; exact List.getElem_mem hk)
      have HK1 := Lib.hid HX.out.1
      obtain ⟨x0, x1, _, _, _⟩ := (HB.out.kept HX.out.1 id).cells
      clear HC HO HX
      go_upto_region 7 with fail
      have HM0 : Hid (OMark w0 wr.heap.size N (l.take 0) (wr.alloc (.cells (onceV N []).toArray 3))) := Lib.hid ⟨by rw [List.take_zero]; exact Blk.new _ _ _, HK1.out.size, HK1.out.alloc _⟩
      clear hmkI HK1 x0 x1
      generalize World.alloc wr _ = w4 at *
      generalize wr.heap.size = sb at *
      go_wp2_with fail
      go_loopw [7] (fun i wr => ∃ k : Nat, k ≤ l.length ∧ i = .int .i64 (k : Int) ∧ Hid (OMark w0 sb N (l.take k) wr ∧ (l.take k).Nodup)) (fun i _ => l.length - (intOf i).toNat)
      case atStart => exact ⟨0, Nat.zero_le _, rfl, Lib.hid ⟨HM0.out, by simp⟩⟩
      case round =>
        obtain ⟨k, hk, rfl, HX⟩ := hrel
        clear HM0
        by_cases hlt : k < l.length
        · obtain ⟨b, off, rfl, e1⟩ := (HR.out _ HX.out.1.2.2).i64 hlt
          obtain ⟨v, hv, hvN⟩ := HLI.out k hlt
          have hc := HX.out.1.cell hvN
          have hT : l.take (k + 1) = l.take k ++ [l.getD k 0] := by rw [List.take_add_one, List.getElem?_eq_getElem hlt, List.getD_eq_getElem?_getD, List.getElem?_eq_getElem hlt]; rfl
          obtain ⟨hs1, hs2⟩ := nodup_step hlt HX.out.2
          have HR2 : Hid (∀ x, (wr.setCell ⟨sb, v, none⟩ x).cell? ⟨b, off + k, none⟩ = some (.int .i64 (l.getD k 0))) := Lib.hid fun x => by
            obtain ⟨b', off', e, q⟩ := (HR.out _ (HX.out.1.2.2.setNew HX.out.1.2.1 v x)).i64 hlt
            cases e
            exact q
          rw [hv] at e1 hT hs1 hs2 HR2
          have hkI : (k : Int) < (l.length : Int) := by omega
          have hvI : (v : Int) < (N : Int) := by omega
          have hf := HX.out.1.1.free v
          by_cases hin : (v : Int) ∈ l.take k
          · as_aux_lemma =>
            rw [if_pos hin] at hc
            have HE2 : Hid (chk12 L l = 20) := Lib.hid (by rw [HC2.out, if_neg (hs2 hin)])
            have HK := Lib.hid (HK0.out.trans' (HX.out.1.2.2.setNew HX.out.1.2.1 v (.int .i64 2)))
            have e2 := HR2.out (.int .i64 2)
            clear hs1 hs2 hin hT HX HR HLI HC2 HR2
            go_wp2_with fail
            go_ret
            exact ⟨by rw [HE2.out]; rfl, HK.out⟩
          · as_aux_lemma =>
            rw [if_neg hin] at hc
            have HY : Hid (OMark w0 sb N (l.take (k + 1)) (wr.setCell ⟨sb, v, none⟩ (.int .i64 1)) ∧ (l.take (k + 1)).Nodup) := Lib.hid ⟨by rw [hT]; exact HX.out.1.push, hs1 hin⟩
            have e2 := HR2.out (.int .i64 1)
            clear hs1 hs2 hin hT HX HR HLI HC2 HR2
            go_wp2_with fail
            exact ⟨⟨k + 1, by omega, by first | rfl | trivial, HY⟩, by simp [intOf]; omega⟩
        · obtain rfl : k = l.length := by omega
          have HND : Hid l.Nodup := Lib.hid (by have := HX.out.2; rwa [List.take_length] at this)
          have HXM : Hid (OMark w0 sb N l wr) := Lib.hid (by have := HX.out.1; rwa [List.take_length] at this)
          have HC3 : Hid (chk12 L l = if (List.range N).any (fun v => decide (L.getD v [] ≠ [] ∧ (v : Int) ∉ l)) = true then 13 else 0) := Lib.hid (by rw [HC2.out, if_pos HND.out])
          clear HX HC2 HND HR HLI
          go_wp2_with fail
          go_loopw [8] (fun i wx => ∃ k : Nat, k ≤ N ∧ i = .int .i64 (k : Int) ∧ Hid (OMark w0 sb N l wx ∧ ∀ v, v < k → ¬ (L.getD v [] ≠ [] ∧ (v : Int) ∉ l))) (fun i _ => N - (intOf i).toNat)
          case atStart => exact ⟨0, Nat.zero_le _, rfl, Lib.hid ⟨HXM.out, fun v hv => by omega⟩⟩
          case round =>
            obtain ⟨v, hv, rfl, HX⟩ := hrel
            clear HXM
            obtain ⟨x0, x1, _, _, _⟩ := (HB.out.kept HX.out.1.2.2 id).cells
            by_cases hvN : v < N
            · have hc := HX.out.1.cell hvN
              obtain ⟨ra, rc, hrow⟩ := HAT.out _ HX.out.1.2.2 v hvN
              have hvI : (v : Int) < (N : Int) := by omega
              have HY : Hid (¬ (L.getD v [] ≠ [] ∧ (v : Int) ∉ l) → ∀ w5, Keeps (fun _ => False) wr w5 → OMark w0 sb N l w5 ∧ ∀ u, u < v + 1 → ¬ (L.getD u [] ≠ [] ∧ (u : Int) ∉ l)) := Lib.hid fun q0 w5 hk5 => ⟨HX.out.1.keep hk5, fun u hu q => by
                by_cases e : u = v
                · subst e; exact q0 q
                · exact HX.out.2 u (by omega) q⟩
              by_cases hk0 : L.getD v [] = []
              · as_aux_lemma =>
                rw [hk0] at hrow
                have HYY := Lib.hid (HY.out fun q => q.1 hk0)
                simp only [List.length_nil] at hrow
                clear hk0 HX HC3 HY HAT
                generalize (if (v : Int) ∈ l then (1 : Int) else 0) = bb at *
                go_wp2_with fail
                exact ⟨⟨v + 1, by omega, by first | rfl | trivial, Lib.hid (HYY.out _ (Keeps.refl _ _))⟩, by simp [intOf]; omega⟩
              · have hpos : 0 < (L.getD v []).length := List.length_pos_iff.2 hk0
                have hgt : decide (0 < ((L.getD v []).length : Int)) = true := decide_eq_true (by omega)
                by_cases hin : (v : Int) ∈ l
                · as_aux_lemma =>
                  rw [if_pos hin] at hc
                  have HYY := Lib.hid (HY.out fun q => q.2 hin)
                  clear hk0 HX HC3 HY HAT hin
                  generalize (L.getD v []).length = kk at *
                  go_wp2_with fail
                  exact ⟨⟨v + 1, by omega, by first | rfl | trivial, Lib.hid (HYY.out _ (Keeps.refl _ _))⟩, by simp [intOf]; omega⟩
                · as_aux_lemma =>
                  rw [if_neg hin] at hc
                  have HX3 : Hid (chk12 L l = 13) := Lib.hid (by rw [HC3.out, if_pos (range_any.2 ⟨v, hvN, decide_eq_true ⟨hk0, hin⟩⟩)])
                  have HKK := Lib.hid (HK0.out.trans' HX.out.1.2.2)
                  clear hk0 HX HC3 HY HAT hin
                  generalize (L.getD v []).length = kk at *
                  go_wp2_with fail
                  go_ret
                  exact ⟨by rw [HX3.out]; rfl, HKK.out⟩
            · obtain rfl : v = N := by omega
              have HX0 : Hid (chk12 L l = 0) := Lib.hid (by
                rw [HC3.out, if_neg]
                intro q
                obtain ⟨u, hu, q⟩ := range_any.1 q
                exact HX.out.2 u hu (of_decide_eq_true q))
              have HKK := Lib.hid (HK0.out.trans' HX.out.1.2.2)
              clear HX HC3 HAT
              go_wp2_with fail
              go_ret
              exact ⟨by rw [HX0.out]; rfl, HKK.out⟩
end
end Go.Proofs.YtdplphhlclhmfaaDoor
