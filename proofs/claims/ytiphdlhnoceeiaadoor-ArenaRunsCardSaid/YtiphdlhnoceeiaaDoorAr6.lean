/- arena: Load. -/
import Derived.Test.YtiphdlhnoceeiaaDoorAr5
namespace Go.Proofs.YtiphdlhnoceeiaaDoor
open Go Go.RowKit
set_option linter.unusedVariables false
set_option linter.unusedSimpArgs false
set_option maxRecDepth 100000

/-- A place that can't be. -/
def oddB (q : Int × Int) : Bool := if q.2 = 0 then q.1 == 4294967295 else if q.2 = 1 then q.1 == 0 else if q.2 = 2 then q.1 != 4294967295 else true
def BoolPost (b : Bool) (w : World) (e : Ending) (w' : World) : Prop := e = .returned (.bool b) ∧ Keeps (fun _ => False) w w'
theorem oddPl (q : Int × Int) (w : World) : Calls Tryd.prog 65 #[.agg #[.int .u32 q.1, .int .i64 q.2]] w (BoolPost (oddB q) w) := by
  obtain ⟨a, s⟩ := q
  unfold oddB
  simp only
  by_cases h0 : s = 0
  · subst h0
    rw [if_pos rfl]
    go_enter Tryd.func65, Tryd.ntmps65
    go_wp2_with fail
    go_ret
    exact ⟨rfl, (Keeps.refl _ _).alloc _⟩
  · have k0 : (s == 0) = false := by rw [beq_eq_false_iff_ne]; exact h0
    rw [if_neg h0]
    by_cases h1 : s = 1
    · subst h1
      rw [if_pos rfl]
      go_enter Tryd.func65, Tryd.ntmps65
      go_wp2_with fail
      go_ret
      exact ⟨rfl, (Keeps.refl _ _).alloc _⟩
    · have k1 : (s == 1) = false := by rw [beq_eq_false_iff_ne]; exact h1
      rw [if_neg h1]
      by_cases h2 : s = 2
      · subst h2
        rw [if_pos rfl]
        go_enter Tryd.func65, Tryd.ntmps65
        go_wp2_with fail
        go_ret
        exact ⟨rfl, (Keeps.refl _ _).alloc _⟩
      · have k2 : (s == 2) = false := by rw [beq_eq_false_iff_ne]; exact h2
        rw [if_neg h2]
        go_enter Tryd.func65, Tryd.ntmps65
        go_wp2_with fail
        go_ret
        exact ⟨rfl, (Keeps.refl _ _).alloc _⟩

def IdxPost (L : List (Int × Int)) (w : World) (e : Ending) (w' : World) : Prop := ∃ r : Int, e = .returned (.int .i64 r) ∧ decide (r ≥ 0) = L.any oddB ∧ Keeps (fun _ => False) w w'
section
variable {L : List (Int × Int)}
theorem plAt {w : World} {a : Option Addr} (hr : Rd w a (plVals L)) (i : Nat) (hi : i < L.length) : ∃ b off, a = some ⟨b, off, none⟩ ∧ w.cell? ⟨b, off + i * 2, none⟩ = some (.int .u32 L[i].1) ∧ w.cell? ⟨b, off + i * 2 + 1, none⟩ = some (.int .i64 L[i].2) := by
  obtain ⟨b, off, rfl, hc⟩ := hr.at_ (i * 2) (by rw [plVals_length]; omega)
  obtain ⟨g1, g2⟩ := plVals_get L i hi
  exact ⟨b, off, rfl, (hc _ (by rw [plVals_length]; omega)).trans g1, by rw [Nat.add_assoc, hc (i * 2 + 1) (by rw [plVals_length]; omega), g2]⟩
set_option maxHeartbeats 1000000 in
theorem idxOdd (a : Option Addr) (c : Nat) (w : World) (hr : Rd w a (plVals L)) (hl : L.length ≤ 2000000) :
    Calls Tryd.prog 73 #[.slice a L.length c, .func (.func 65) #[] #[]] w (IdxPost L w) := by
  have HR := Lib.hid hr
  clear hr
  go_enter Tryd.func73, Tryd.ntmps73
  go_wp2_with fail
  go_loopw [8] (fun i wr => ∃ f : Nat, f ≤ L.length ∧ i = .int .i64 (f : Int) ∧ Hid (Keeps (fun _ => False) w wr ∧ (L.take f).any oddB = false)) (fun i _ => L.length - (intOf i).toNat)
  case atStart => exact ⟨0, Nat.zero_le _, rfl, Keeps.refl _ _, rfl⟩
  case round =>
    obtain ⟨f, hf, rfl, hrel⟩ := hrel
    by_cases hlt : f < L.length
    · obtain ⟨b, off, rfl, e1, e2⟩ := plAt (HR.out.keep hrel.out.1) f hlt
      have ho := Lib.hid (oddPl L[f] wr)
      have HT := Lib.hid (show L.take (f + 1) = L.take f ++ [L[f]] by rw [List.take_add_one, List.getElem?_eq_getElem hlt]; rfl)
      have hm := Lib.hid (show L[f] ∈ L from List.getElem_mem hlt)
      generalize L[f] = q at *
      obtain ⟨qa, qs⟩ := q
      cases hq : oddB (qa, qs) with
      | true =>
        rw [hq] at ho
        have HQ := Lib.hid hq
        clear hq
        go_wp2_with fail
        refine ho.out.mono ?_
        rintro e w2 ⟨rfl, hk⟩
        have HK := Lib.hid (hrel.out.1.trans' hk)
        clear hk
        go_wp2_with fail
        go_ret
        exact ⟨_, rfl, by rw [List.any_eq_true.2 ⟨_, hm.out, HQ.out⟩]; simp, HK.out⟩
      | false =>
        rw [hq] at ho
        have HQ := Lib.hid hq
        clear hq
        go_wp2_with fail
        refine ho.out.mono ?_
        rintro e w2 ⟨rfl, hk⟩
        have HK : Hid (Keeps (fun _ => False) w w2 ∧ (L.take (f + 1)).any oddB = false) := ⟨hrel.out.1.trans' hk, by rw [HT.out, List.any_append, hrel.out.2]; simp [HQ.out]⟩
        clear hk
        go_wp2_with fail
        refine ⟨⟨f + 1, hlt, by go_num, HK⟩, by simp [intOf]; omega⟩
    · obtain rfl : f = L.length := by omega
      go_wp2_with fail
      go_ret
      exact ⟨_, rfl, by have := hrel.out.2; rw [List.take_length] at this; rw [this]; simp, hrel.out.1⟩
theorem hasOdd (a : Option Addr) (c : Nat) (w : World) (hr : Rd w a (plVals L)) (hl : L.length ≤ 2000000) :
    Calls Tryd.prog 64 #[.slice a L.length c, .func (.func 65) #[] #[]] w (BoolPost (L.any oddB) w) := by
  have hi := Lib.hid (idxOdd a c w hr hl)
  clear hr
  go_enter Tryd.func64, Tryd.ntmps64
  go_wp2_with fail
  refine hi.out.mono ?_
  rintro e w2 ⟨r, rfl, hr, hk⟩
  have HK := Lib.hid (And.intro hr hk)
  clear hr hk
  go_wp2_with fail
  go_ret
  exact ⟨by rw [← HK.out.1]; rfl, HK.out.2⟩
end
end Go.Proofs.YtiphdlhnoceeiaaDoor
