/- sphere: check. -/
import Derived.Test.YtdplphhlclhmfaaDoorSpA
namespace Go.Proofs.YtdplphhlclhmfaaDoor
open Go Go.RowKit
set_option linter.unusedVariables false
set_option linter.unusedSimpArgs false
set_option maxRecDepth 100000

def i64s (l : List Int) : List Value := l.map fun z => Value.int .i64 z
theorem i64s_length (l : List Int) : (i64s l).length = l.length := by simp [i64s]
theorem i64s_get {l : List Int} {i : Nat} (h : i < l.length) : (i64s l)[i]? = some (.int .i64 (l.getD i 0)) := by simp [i64s, h]
theorem nats_i64s (l : List Nat) : nats l = i64s (intsN l) := by simp [nats, i64s, intsN]
theorem Rd.i64 {w : World} {a : Option Addr} {l : List Int} (h : Rd w a (i64s l)) {i : Nat} (hi : i < l.length) : ∃ b off, a = some ⟨b, off, none⟩ ∧ w.cell? ⟨b, off + i, none⟩ = some (.int .i64 (l.getD i 0)) := by
  obtain ⟨b, off, rfl, hc⟩ := h.at_ i (by rw [i64s_length]; exact hi)
  exact ⟨b, off, rfl, by rw [hc i (by rw [i64s_length]; exact hi), i64s_get hi]⟩
/-- No vertex. -/
def outN (N : Nat) (x : Int) : Bool := decide (x < 0) || decide ((N : Int) ≤ x)
def BoolPost (b : Bool) (w : World) (e : Ending) (w' : World) : Prop := e = .returned (.bool b) ∧ Keeps (fun _ => False) w w'
theorem oddV (N nb : Nat) (x : Int) (w : World) (hc : w.cell? ⟨nb, 0, none⟩ = some (.int .i64 (N : Int))) : Calls Tryd.prog 97 #[.int .i64 x, .pointer (some ⟨nb, 0, none⟩)] w (BoolPost (outN N x) w) := by
  unfold outN
  by_cases h0 : x < 0
  · have hd : decide (x < 0) = true := decide_eq_true h0
    rw [hd, Bool.true_or]
    go_enter Tryd.func97, Tryd.ntmps97
    go_wp2_with fail
    go_ret
    exact ⟨rfl, Keeps.refl _ _⟩
  · have hd : decide (x < 0) = false := decide_eq_false h0
    rw [hd, Bool.false_or]
    generalize hb : decide ((N : Int) ≤ x) = b
    have hb2 : decide (x ≥ (N : Int)) = b := hb
    go_enter Tryd.func97, Tryd.ntmps97
    go_wp2_with fail
    go_ret
    exact ⟨by first | rfl | (rw [hb]) | (rw [hb2]), Keeps.refl _ _⟩
def IdxVPost (N : Nat) (l : List Int) (w : World) (e : Ending) (w' : World) : Prop := ∃ r : Int, e = .returned (.int .i64 r) ∧ decide (r ≥ 0) = l.any (outN N) ∧ Keeps (fun _ => False) w w'
set_option maxHeartbeats 1000000 in
theorem idxV (N nb : Nat) (a : Option Addr) (c : Nat) (l : List Int) (w : World) (hc : w.cell? ⟨nb, 0, none⟩ = some (.int .i64 (N : Int))) (hr : Rd w a (i64s l)) (hl : l.length ≤ 4000000) :
    Calls Tryd.prog 66 #[.slice a l.length c, .func (.func 97) #[] #[.pointer (some ⟨nb, 0, none⟩)]] w (IdxVPost N l w) := by
  have HR := Lib.hid hr
  have HC := Lib.hid fun W (hk : Keeps (fun _ => False) w W) => hk.cellF hc
  clear hr hc
  go_enter Tryd.func66, Tryd.ntmps66
  go_wp2_with fail
  go_loopw [8] (fun i wr => ∃ f : Nat, f ≤ l.length ∧ i = .int .i64 (f : Int) ∧ Hid (Keeps (fun _ => False) w wr ∧ (l.take f).any (outN N) = false)) (fun i _ => l.length - (intOf i).toNat)
  case atStart => exact ⟨0, Nat.zero_le _, rfl, Keeps.refl _ _, rfl⟩
  case round =>
    obtain ⟨f, hf, rfl, hrel⟩ := hrel
    by_cases hlt : f < l.length
    · obtain ⟨b, off, rfl, e1⟩ := (HR.out.keep hrel.out.1).i64 hlt
      have ho := Lib.hid (oddV N nb (l.getD f 0) wr (HC.out _ hrel.out.1))
      have HT := Lib.hid (show l.take (f + 1) = l.take f ++ [l.getD f 0] by rw [List.take_add_one, List.getElem?_eq_getElem hlt, List.getD_eq_getElem?_getD, List.getElem?_eq_getElem hlt]; rfl)
      have hm := Lib.hid (show l.getD f 0 ∈ l by rw [List.getD_eq_getElem?_getD, List.getElem?_eq_getElem hlt]; exact List.getElem_mem hlt)
      generalize l.getD f 0 = q at *
      cases hq : outN N q with
      | true =>
        rw [hq] at ho
        have HQ := Lib.hid hq
        clear hq
        go_wp2_with fail
        refine ho.out.mono ?_
        rintro e w2 ⟨rfl, hk⟩
        have HK := Lib.hid (hrel.out.1.trans' hk)
        clear hk
        go_wp2_with fail
        go_ret
        exact ⟨_, rfl, by rw [List.any_eq_true.2 ⟨_, hm.out, HQ.out⟩]; simp, HK.out⟩
      | false =>
        rw [hq] at ho
        have HQ := Lib.hid hq
        clear hq
        go_wp2_with fail
        refine ho.out.mono ?_
        rintro e w2 ⟨rfl, hk⟩
        have HK : Hid (Keeps (fun _ => False) w w2 ∧ (l.take (f + 1)).any (outN N) = false) := ⟨hrel.out.1.trans' hk, by rw [HT.out, List.any_append, hrel.out.2]; simp [HQ.out]⟩
        clear hk
        go_wp2_with fail
        refine ⟨⟨f + 1, hlt, by go_num, HK⟩, by simp [intOf]; omega⟩
    · obtain rfl : f = l.length := by omega
      go_wp2_with fail
      go_ret
      exact ⟨_, rfl, by have := hrel.out.2; rw [List.take_length] at this; rw [this]; simp, hrel.out.1⟩
theorem hasV (N nb : Nat) (a : Option Addr) (c : Nat) (l : List Int) (w : World) (hc : w.cell? ⟨nb, 0, none⟩ = some (.int .i64 (N : Int))) (hr : Rd w a (i64s l)) (hl : l.length ≤ 4000000) :
    Calls Tryd.prog 98 #[.slice a l.length c, .func (.func 97) #[] #[.pointer (some ⟨nb, 0, none⟩)]] w (BoolPost (l.any (outN N)) w) := by
  have hi := Lib.hid (idxV N nb a c l w hc hr hl)
  clear hr hc
  go_enter Tryd.func98, Tryd.ntmps98
  go_wp2_with fail
  refine hi.out.mono ?_
  rintro e w2 ⟨r, rfl, hr, hk⟩
  have HK := Lib.hid (And.intro hr hk)
  clear hr hk
  go_wp2_with fail
  go_ret
  exact ⟨by rw [← HK.out.1]; rfl, HK.out.2⟩
/-! Marks. -/
def marksV (N : Nat) (P : List Int) : List Value := (List.range N).map fun (d : Nat) => Value.bool (decide ((d : Int) ∈ P))
theorem marksV_length (N : Nat) (P : List Int) : (marksV N P).length = N := by simp [marksV]
theorem marksV_get {N : Nat} {P : List Int} {d : Nat} (h : d < N) : (marksV N P)[d]? = some (.bool (decide ((d : Int) ∈ P))) := by simp [marksV, h]
theorem marksV_set (N : Nat) (P : List Int) (d : Nat) : (marksV N P).toArray.setIfInBounds d (.bool true) = (marksV N (P ++ [(d : Int)])).toArray := by
  rw [List.setIfInBounds_toArray]
  congr 1
  apply List.ext_getElem?
  intro j
  rw [List.getElem?_set, marksV_length]
  by_cases hj : j < N
  · rw [marksV_get hj, marksV_get hj]
    by_cases e : d = j
    · subst e; rw [if_pos rfl, if_pos hj]; simp
    · rw [if_neg e]
      congr 2
      have : (j : Int) ≠ (d : Int) := by omega
      simp [this]
  · rw [List.getElem?_eq_none (by rw [marksV_length]; omega), List.getElem?_eq_none (by rw [marksV_length]; omega)]
    by_cases e : d = j
    · rw [if_pos e, if_neg (by omega)]
    · rw [if_neg e]
theorem zerosV (N : Nat) : madeCells #[.bool false] N = (marksV N []).toArray := by
  rw [madeCells_one]
  congr 1
  apply List.ext_getElem
  · simp [marksV]
  · intro i h1 h2
    simp [marksV]
/-- Is a list of vertices those that there are? -/
def chk12 (L : List (List Nat)) (l : List Int) : Nat :=
  if l.any (outN L.length) = true then 12 else if l.Nodup then (if (List.range L.length).any (fun v => decide (L.getD v [] ≠ [] ∧ (v : Int) ∉ l)) = true then 13 else 0) else 20
def VMark (w : World) (sb N : Nat) (P : List Int) (wr : World) : Prop := Blk wr sb (marksV N P).toArray 4 ∧ w.heap.size ≤ sb ∧ Keeps (fun _ => False) w wr
section
variable {w wr w1 : World} {sb N d : Nat} {P : List Int}
theorem VMark.cell (h : VMark w sb N P wr) (hd : d < N) : wr.cell? ⟨sb, d, none⟩ = some (.bool (decide ((d : Int) ∈ P))) := by
  rw [h.1.cell, List.getElem?_toArray, marksV_get hd]
theorem VMark.push (h : VMark w sb N P wr) : VMark w sb N (P ++ [(d : Int)]) (wr.setCell ⟨sb, d, none⟩ (.bool true)) := by
  refine ⟨?_, h.2.1, h.2.2.setNew h.2.1 _ _⟩
  have := h.1.set d (.bool true)
  rwa [marksV_set] at this
theorem VMark.keep (h : VMark w sb N P wr) (hk : Keeps (fun _ => False) wr w1) : VMark w sb N P w1 := ⟨h.1.kept hk id, h.2.1, h.2.2.trans' hk⟩
end
theorem out_none {N : Nat} {l : List Int} (h : l.any (outN N) = false) {x : Int} (hx : x ∈ l) : ∃ v : Nat, x = v ∧ v < N := by
  have := List.any_eq_false.1 h x hx
  unfold outN at this
  simp only [Bool.or_eq_true, decide_eq_true_eq] at this
  exact ⟨x.toNat, by omega, by omega⟩
theorem nodup_step {l : List Int} {k : Nat} (hk : k < l.length) (h : (l.take k).Nodup) : (l.getD k 0 ∉ l.take k → (l.take (k + 1)).Nodup) ∧ (l.getD k 0 ∈ l.take k → ¬ l.Nodup) := by
  have e : l.take (k + 1) = l.take k ++ [l.getD k 0] := by rw [List.take_add_one, List.getElem?_eq_getElem hk, List.getD_eq_getElem?_getD, List.getElem?_eq_getElem hk]; rfl
  constructor
  · intro q
    rw [e, List.nodup_append]
    refine ⟨h, by simp, fun a ha b hb => ?_⟩
    rw [List.mem_singleton.1 hb]
    intro e2
    exact q (e2 ▸ ha)
  · intro q hn
    have h1 : (l.take (k + 1)).Nodup := hn.sublist (List.take_sublist _ _)
    rw [e, List.nodup_append] at h1
    exact h1.2.2 _ q _ (List.mem_singleton_self _) rfl
theorem range_any {n : Nat} {q : Nat → Bool} : (List.range n).any q = true ↔ ∃ v, v < n ∧ q v = true := by simp [List.any_eq_true]
section
variable {w : World} {own : Nat → Prop} {p E : Nat} {L : List (List Nat)}
set_option maxHeartbeats 4000000 in
theorem scheck (h : Tu w own p E L) (a : Option Addr) (c : Nat) (l : List Int) (hr : Rd w a (i64s l)) (hl : l.length ≤ 4000000) :
    Calls Tryd.prog 71 #[tptr p, .slice a l.length c] w (RetPost (errVal (chk12 L l)) w) := by
  have hV := h.v2
  have hE := h.e2
  generalize hN : L.length = N at *
  obtain ⟨ib, hib, hb0, hb1, hb2⟩ := info_parts infoBo
  have hmkB : ∀ W, (Instr.makeSlice 161 (.int .i64 (N : Int)) (.int .i64 (N : Int))).run Tryd.prog W = .ok (.slice (some ⟨W.heap.size, 0, none⟩) N N) (W.alloc (.cells (marksV N []).toArray 4)) := fun W => by
    have := run_make (P := Tryd.prog) W 161 4 ib _ Tryd.underlying161 hib hb0 .i64 .i64 (N : Int) (N : Int) (by omega) (Int.le_refl _) (by rw [hb2]; omega) (by omega)
    rw [this, hb1, Int.toNat_natCast, Nat.mul_one, show (Value.bool false).cells = #[.bool false] from rfl, zerosV]
  have hmf : ∀ (fn : Fn) (first cap : Array Value) (w : World), (Instr.makeFunc fn first cap).run Tryd.prog w = .ok (.func fn first cap) w := fun _ _ _ _ => rfl
  have hsz := tsizes h
  rw [hN] at hsz
  have HS := Lib.hid hsz
  have HD : Hid (∀ W, Keeps (fun _ => False) w W → ∀ v, v < N → Calls Tryd.prog 72 #[tptr p, .int .i64 (v : Int)] W (RetPost (.tuple #[.int .i64 ((L.getD v []).length : Int), .nilIface]) W)) := Lib.hid fun W hk v hv => by
    have := tdegree (h.keep hk) (v : Int)
    have h0 : vErr L (v : Int) = 0 := by unfold vErr; rw [if_neg (by omega)]
    rw [h0, if_pos rfl, Int.toNat_natCast, errVal_zero] at this
    exact this
  have HDL : Hid (∀ v, v < N → (L.getD v []).length ≤ 4000000) := Lib.hid fun v hv => by
    have := h.len (some_getD (show v < L.length by omega))
    omega
  have HR := Lib.hid fun W (hk : Keeps (fun _ => False) w W) => hr.keep hk
  have HH := Lib.hid fun nb W (hk : Keeps (fun _ => False) w W) (hc : W.cell? ⟨nb, 0, none⟩ = some (.int .i64 (N : Int))) => hasV N nb a c l W hc (hr.keep hk) hl
  have HC : Hid (chk12 L l = if l.any (outN N) = true then 12 else if l.Nodup then (if (List.range N).any (fun v => decide (L.getD v [] ≠ [] ∧ (v : Int) ∉ l)) = true then 13 else 0) else 20) := Lib.hid (by unfold chk12; rw [hN])
  clear h hr hib hb0 hb1 hb2 hsz hN
  unfold BoolPost RetPost tptr at *
  go_enter Tryd.func71, Tryd.ntmps71
  go_wp2_with fail
  with_reducible refine HS.out.mono ?_
  rintro e w1 ⟨rfl, hk⟩
  have HK1 := Lib.hid hk
  clear hk HS
  go_upto_region 5 with fail
  have HK2 := Lib.hid (HK1.out.alloc (.cells #[.int .i64 (N : Int)] 3))
  have hn0 := Blk.new w1 #[.int .i64 (N : Int)] 3
  have hn2 := hn0.cell (i := 0)
  simp only [List.getElem?_toArray, List.getElem?_cons_zero] at hn2
  clear hn0 HK1
  generalize World.alloc w1 _ = w2 at *
  generalize w1.heap.size = nb at *
  cases ho : l.any (outN N) with
  | true =>
    rw [ho] at HH
    have HX : Hid (chk12 L l = 12) := Lib.hid (by rw [HC.out, if_pos ho])
    clear ho HC HD HDL HR hmkB hmf
    go_wp2_with fail
    with_reducible refine (HH.out nb _ HK2.out hn2).mono ?_
    rintro e w3 ⟨rfl, hk⟩
    have HK3 := Lib.hid (HK2.out.trans' hk)
    clear hk HH HK2 hn2
    go_wp2_with fail
    go_ret
    exact ⟨by rw [HX.out]; rfl, HK3.out⟩
  | false =>
    rw [ho] at HH
    have HO := Lib.hid ho
    have HC2 : Hid (chk12 L l = if l.Nodup then (if (List.range N).any (fun v => decide (L.getD v [] ≠ [] ∧ (v : Int) ∉ l)) = true then 13 else 0) else 20) := Lib.hid (by rw [HC.out, if_neg (by rw [ho]; decide)])
    clear ho HC
    go_wp2_with fail
    with_reducible refine (HH.out nb _ HK2.out hn2).mono ?_
    rintro e w3 ⟨rfl, hk⟩
    have HK3 := Lib.hid (HK2.out.trans' hk)
    have hn3 := hk.cellF hn2
    clear hk HH HK2 hn2 hmf
    go_upto_region 8 with fail
    have HM0 : Hid (VMark w w3.heap.size N (l.take 0) (w3.alloc (.cells (marksV N []).toArray 4))) := Lib.hid ⟨by rw [List.take_zero]; exact Blk.new _ _ _, HK3.out.size, HK3.out.alloc _⟩
    have HLI : Hid (∀ k, k < l.length → ∃ v : Nat, l.getD k 0 = v ∧ v < N) := Lib.hid fun k hk => out_none HO.out (by rw [List.getD_eq_getElem?_getD, List.getElem?_eq_getElem hk]; exact List.getElem_mem hk)
    clear hmkB HK3 hn3 HO
    generalize World.alloc w3 _ = w4 at *
    generalize w3.heap.size = sb at *
    go_wp2_with fail
    go_loopw [34] (fun i wr => ∃ k : Nat, k ≤ l.length ∧ i = .int .i64 (k : Int) ∧ Hid (VMark w sb N (l.take k) wr ∧ (l.take k).Nodup)) (fun i _ => l.length - (intOf i).toNat)
    case atStart => exact ⟨0, Nat.zero_le _, rfl, Lib.hid ⟨HM0.out, by simp⟩⟩
    case round =>
      obtain ⟨k, hk, rfl, HX⟩ := hrel
      clear HM0
      by_cases hlt : k < l.length
      · obtain ⟨b, off, rfl, e1⟩ := (HR.out _ HX.out.1.2.2).i64 hlt
        obtain ⟨v, hv, hvN⟩ := HLI.out k hlt
        have hc := HX.out.1.cell hvN
        have hT : l.take (k + 1) = l.take k ++ [l.getD k 0] := by rw [List.take_add_one, List.getElem?_eq_getElem hlt, List.getD_eq_getElem?_getD, List.getElem?_eq_getElem hlt]; rfl
        obtain ⟨hs1, hs2⟩ := nodup_step hlt HX.out.2
        rw [hv] at e1 hT hs1 hs2
        have hkI : (k : Int) < (l.length : Int) := by omega
        have hvI : (v : Int) < (N : Int) := by omega
        by_cases hin : (v : Int) ∈ l.take k
        · as_aux_lemma =>
          rw [decide_eq_true hin] at hc
          have HE2 : Hid (chk12 L l = 20) := Lib.hid (by rw [HC2.out, if_neg (hs2 hin)])
          have HK := Lib.hid HX.out.1.2.2
          clear hs1 hs2 hin hT HX HD HDL HR HLI HC2
          go_wp2_with fail
          go_ret
          exact ⟨by rw [HE2.out]; rfl, HK.out⟩
        · as_aux_lemma =>
          rw [decide_eq_false hin] at hc
          have hf := HX.out.1.1.free v
          have HY : Hid (VMark w sb N (l.take (k + 1)) (wr.setCell ⟨sb, v, none⟩ (.bool true)) ∧ (l.take (k + 1)).Nodup) := Lib.hid ⟨by rw [hT]; exact HX.out.1.push, hs1 hin⟩
          clear hs1 hs2 hin hT HX HD HDL HR HLI HC2
          go_wp2_with fail
          exact ⟨⟨k + 1, by omega, by first | rfl | trivial, HY⟩, by simp [intOf]; omega⟩
      · obtain rfl : k = l.length := by omega
        have HND : Hid l.Nodup := Lib.hid (by have := HX.out.2; rwa [List.take_length] at this)
        have HXM : Hid (VMark w sb N l wr) := Lib.hid (by have := HX.out.1; rwa [List.take_length] at this)
        have HC3 : Hid (chk12 L l = if (List.range N).any (fun v => decide (L.getD v [] ≠ [] ∧ (v : Int) ∉ l)) = true then 13 else 0) := Lib.hid (by rw [HC2.out, if_pos HND.out])
        clear HX HC2 HND HR HLI
        go_wp2_with fail
        go_loopw [49] (fun i wx => ∃ k : Nat, k ≤ N ∧ i = .int .i64 (k : Int) ∧ Hid (VMark w sb N l wx ∧ ∀ v, v < k → ¬ (L.getD v [] ≠ [] ∧ (v : Int) ∉ l))) (fun i _ => N - (intOf i).toNat)
        case atStart => exact ⟨0, Nat.zero_le _, rfl, Lib.hid ⟨HXM.out, fun v hv => by omega⟩⟩
        case round =>
          obtain ⟨v, hv, rfl, HX⟩ := hrel
          clear HXM
          by_cases hvN : v < N
          · have hc := HX.out.1.cell hvN
            have hd := HD.out _ HX.out.1.2.2 v hvN
            have hdl := HDL.out v hvN
            have hvI : (v : Int) < (N : Int) := by omega
            by_cases hk0 : L.getD v [] = []
            · as_aux_lemma =>
              have HY : Hid (∀ w5, Keeps (fun _ => False) wr w5 → VMark w sb N l w5 ∧ ∀ u, u < v + 1 → ¬ (L.getD u [] ≠ [] ∧ (u : Int) ∉ l)) := Lib.hid fun w5 hk5 => ⟨HX.out.1.keep hk5, fun u hu q => by
                by_cases e : u = v
                · subst e; exact q.1 hk0
                · exact HX.out.2 u (by omega) q⟩
              rw [hk0] at hd
              have HDD := Lib.hid hd
              simp only [List.length_nil] at HDD
              clear hd hk0 HX HC3 HD HDL hdl
              generalize decide ((v : Int) ∈ l) = bb at *
              go_wp2_with fail
              with_reducible refine HDD.out.mono ?_
              rintro e w5 ⟨rfl, hk5⟩
              have HY5 := Lib.hid (HY.out _ hk5)
              clear hk5 HDD HY
              go_wp2_with fail
              exact ⟨⟨v + 1, by omega, by first | rfl | trivial, HY5⟩, by simp [intOf]; omega⟩
            · have hpos : 0 < (L.getD v []).length := List.length_pos_iff.2 hk0
              have hgt : decide (((L.getD v []).length : Int) > 0) = true := decide_eq_true (by omega)
              by_cases hin : (v : Int) ∈ l
              · as_aux_lemma =>
                rw [decide_eq_true hin] at hc
                have HY : Hid (∀ w5, Keeps (fun _ => False) wr w5 → VMark w sb N l w5 ∧ ∀ u, u < v + 1 → ¬ (L.getD u [] ≠ [] ∧ (u : Int) ∉ l)) := Lib.hid fun w5 hk5 => ⟨HX.out.1.keep hk5, fun u hu q => by
                  by_cases e : u = v
                  · subst e; exact q.2 hin
                  · exact HX.out.2 u (by omega) q⟩
                have HDD := Lib.hid hd
                clear hd hk0 HX HC3 HD HDL hin
                generalize (L.getD v []).length = kk at *
                go_wp2_with fail
                with_reducible refine HDD.out.mono ?_
                rintro e w5 ⟨rfl, hk5⟩
                have HY5 := Lib.hid (HY.out _ hk5)
                clear hk5 HDD HY
                go_wp2_with fail
                exact ⟨⟨v + 1, by omega, by first | rfl | trivial, HY5⟩, by simp [intOf]; omega⟩
              · as_aux_lemma =>
                rw [decide_eq_false hin] at hc
                have HX3 : Hid (chk12 L l = 13) := Lib.hid (by rw [HC3.out, if_pos (range_any.2 ⟨v, hvN, decide_eq_true ⟨hk0, hin⟩⟩)])
                have HDD := Lib.hid hd
                have HKK := Lib.hid HX.out.1.2.2
                clear hd hk0 HX HC3 HD HDL hin
                generalize (L.getD v []).length = kk at *
                go_wp2_with fail
                with_reducible refine HDD.out.mono ?_
                rintro e w5 ⟨rfl, hk5⟩
                have HK5 := Lib.hid (HKK.out.trans' hk5)
                clear hk5 HDD HKK
                go_wp2_with fail
                go_ret
                exact ⟨by rw [HX3.out]; rfl, HK5.out⟩
          · obtain rfl : v = N := by omega
            have HX0 : Hid (chk12 L l = 0) := Lib.hid (by
              rw [HC3.out, if_neg]
              intro q
              obtain ⟨u, hu, q⟩ := range_any.1 q
              exact HX.out.2 u hu (of_decide_eq_true q))
            have HKK := Lib.hid HX.out.1.2.2
            clear HX HC3 HD HDL
            go_wp2_with fail
            go_ret
            exact ⟨by rw [HX0.out]; rfl, HKK.out⟩
end
end Go.Proofs.YtdplphhlclhmfaaDoor
