/- Plain facts on words' bits. -/
import Derived.Test.YtiphdlhnoceeiaaDoorSlObj
namespace Go.Proofs.YtiphdlhnoceeiaaDoor
open Go Go.RowKit
set_option linter.unusedVariables false
set_option linter.unusedSimpArgs false

theorem ctz_bit (x : Nat) (h0 : x ≠ 0) (h : x < 18446744073709551616) : x.testBit (Lib.ctz 64 x) = true ∧ (∀ j, j < Lib.ctz 64 x → x.testBit j = false) ∧ Lib.ctz 64 x < 64 := by
  obtain ⟨m, hm, hl⟩ := Lib.ctzFrom_spec 64 x (by omega) h
  have e : Lib.ctz 64 x = Lib.ctzFrom 64 x := by simp [Lib.ctz, h0]
  rw [e]
  generalize Lib.ctzFrom 64 x = c at *
  refine ⟨?_, fun j hj => ?_, hl⟩
  · rw [hm, Nat.testBit_two_pow_mul]
    simp [Nat.testBit_zero]
  · rw [hm, Nat.testBit_two_pow_mul]
    simp; omega
theorem ctz_zero : Lib.ctz 64 0 = 64 := by simp [Lib.ctz]
theorem eq_of_bits (x y : Nat) (hx : x < 18446744073709551616) (hy : y < 18446744073709551616) (h : ∀ j, j < 64 → x.testBit j = y.testBit j) : x = y := by
  apply Nat.eq_of_testBit_eq
  intro j
  by_cases hj : j < 64
  · exact h j hj
  · rw [Nat.testBit_lt_two_pow (Nat.lt_of_lt_of_le (show x < 2 ^ 64 from hx) (Nat.pow_le_pow_right (by decide) (by omega))),
      Nat.testBit_lt_two_pow (Nat.lt_of_lt_of_le (show y < 2 ^ 64 from hy) (Nat.pow_le_pow_right (by decide) (by omega)))]
theorem whole_bit (j : Nat) : (18446744073709551615 : Nat).testBit j = decide (j < 64) := by
  rw [show (18446744073709551615 : Nat) = 2 ^ 64 - 1 from rfl, Nat.testBit_two_pow_sub_one]
theorem compl_bit (x j : Nat) (hx : x < 18446744073709551616) (hj : j < 64) : (18446744073709551615 - x).testBit j = !x.testBit j := by
  rw [show (18446744073709551615 - x : Nat) = 2 ^ 64 - (x + 1) from by omega, Nat.testBit_two_pow_sub_succ (show x < 2 ^ 64 from hx)]
  simp [hj]
theorem or_bit (v k j : Nat) : (v ||| 2 ^ k).testBit j = (v.testBit j || decide (k = j)) := by rw [Nat.testBit_or, Nat.testBit_two_pow]
theorem nand_bit (v k j : Nat) (hk : k < 64) (hj : j < 64) : (v &&& (18446744073709551615 - 2 ^ k)).testBit j = (v.testBit j && !decide (k = j)) := by
  rw [Nat.testBit_and, compl_bit _ _ (Nat.pow_lt_pow_right (a := 2) (m := k) (n := 64) (by decide) hk) hj, Nat.testBit_two_pow]
def maskw (v f : Nat) : Nat := v &&& (18446744073709551615 * 2 ^ f % 18446744073709551616)
theorem mask_bit (v f j : Nat) (hj : j < 64) : (maskw v f).testBit j = (v.testBit j && decide (f ≤ j)) := by
  rw [maskw, Nat.testBit_and, show (18446744073709551616 : Nat) = 2 ^ 64 from rfl, Nat.testBit_mod_two_pow, Nat.testBit_mul_two_pow, whole_bit]
  by_cases h : f ≤ j <;> simp [h, hj]
  omega
theorem mask_lt (v f : Nat) (hv : v < 18446744073709551616) : maskw v f < 18446744073709551616 := by
  have := Nat.and_le_left (n := v) (m := 18446744073709551615 * 2 ^ f % 18446744073709551616)
  unfold maskw; omega
theorem zero_bits (x : Nat) (hx : x < 18446744073709551616) (h : ∀ j, j < 64 → x.testBit j = false) : x = 0 :=
  eq_of_bits x 0 hx (by decide) fun j hj => by rw [h j hj, Nat.zero_testBit]
end Go.Proofs.YtiphdlhnoceeiaaDoor
