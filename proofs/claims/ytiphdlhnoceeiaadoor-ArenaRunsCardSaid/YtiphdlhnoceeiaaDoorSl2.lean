/- slots: trailing zeros, the small readers, Claim, Free. -/
import Derived.Test.YtiphdlhnoceeiaaDoorSl1
namespace Go.Proofs.YtiphdlhnoceeiaaDoor
open Go Go.RowKit
set_option linter.unusedVariables false
set_option linter.unusedSimpArgs false

/-- math/bits' table, as its initialiser lays it. -/
def Tab (w : World) : Prop := ∀ j, j < 64 → w.cell? ⟨0, j, none⟩ = some (.int .u8 (Lib.deBruijn64tab.getD j 0 : Nat))
theorem Tab.below {w w' : World} {B : Nat} (h : Tab w) (hb : Below B w w') (hB : 0 < B) : Tab w' := fun j hj => (hb.cell (p := ⟨_, j, none⟩) hB).trans (h j hj)
theorem Tab.kept {w w' : World} {fp : Nat → Prop} (h : Tab w) (hk : Keeps fp w w') (hn : ¬ fp 0) : Tab w' := fun j hj =>
  (World.cell?_of_block (hk.block _ (World.block_lt_of_cell? w _ (h j hj)) hn)).trans (h j hj)

set_option maxHeartbeats 1000000 in
theorem tz_core (x k idx : Nat) (w : World) (hx0 : ((x : Int) == 0) = false)
    (key : IntKind.u64.wrap (bits BinOp.and IntKind.u64 (x : Int) (IntKind.u64.wrap (-(x : Int))) * 285870213051353865) / 288230376151711744 = (idx : Int))
    (hi : idx < 64) (hk : k < 64) (hcell : w.cell? ⟨0, idx, none⟩ = some (.int .u8 k)) :
    Calls Tryd.prog 59 #[.int .u64 x] w fun e w' => e = .returned (.int .i64 k) ∧ w = w' := by
  go_enter Tryd.func59, Tryd.ntmps59
  go_wp2_with (simp only [key])
  go_ret
  exact ⟨rfl, rfl⟩

theorem tz_zero (w : World) :
    Calls Tryd.prog 59 #[.int .u64 0] w fun e w' => e = .returned (.int .i64 64) ∧ w = w' := by
  go_enter Tryd.func59, Tryd.ntmps59
  go_wp2
  go_ret
  exact ⟨rfl, rfl⟩

theorem tz_key (x a : Nat) (hx : x < 18446744073709551616) (hx0 : x ≠ 0) (hlow : x &&& (18446744073709551616 - x) = a) :
    IntKind.u64.wrap (bits BinOp.and IntKind.u64 (x : Int) (IntKind.u64.wrap (-(x : Int))) * 285870213051353865) / 288230376151711744 = ((a * 285870213051353865 % 18446744073709551616 / 288230376151711744 : Nat) : Int) := by
  have e1 : IntKind.u64.wrap (-(x : Int)) = ((18446744073709551616 - x : Nat) : Int) := by rw [IntKind.wrap_u64]; omega
  rw [e1, bits_and_u64_nat x _ hx (by omega), hlow, IntKind.wrap_u64]
  omega

theorem tz_any (x : Nat) (hx : x < 18446744073709551616) (w : World) (hT : Tab w) :
    Calls Tryd.prog 59 #[.int .u64 x] w fun e w' => e = .returned (.int .i64 (Lib.ctz 64 x : Nat)) ∧ w = w' := by
  by_cases hx0 : x = 0
  · subst hx0
    exact tz_zero w
  · obtain ⟨hlow, hk⟩ := Lib.lowest_bit 64 x hx0 hx
    obtain ⟨hi, htab⟩ := Lib.deBruijn64_at _ hk
    have hcell := hT _ hi
    rw [htab] at hcell
    exact tz_core x _ _ w (by simp; omega) (tz_key x _ hx hx0 hlow) hi hk hcell

theorem loadI64_any (a : Addr) (x : Int) (w : World) (hc : w.cell? a = some (.int .i64 x)) :
    Calls Tryd.prog 60 #[.pointer (some a)] w fun e w' => e = .returned (.int .i64 x) ∧ w = w' := by
  have hld := run_call_load (P := Tryd.prog) Tryd.func67 (by kernel_rfl) (by kernel_rfl) (by kernel_rfl) .i64 (by kernel_rfl) hc
  go_enter Tryd.func60, Tryd.ntmps60
  go_wp2
  go_ret
  exact ⟨rfl, rfl⟩

theorem len_any (o : SO) (w : World) (h : o.At w) :
    Calls Tryd.prog 26 #[.pointer (some ⟨o.b, 0, none⟩)] w fun e w' => e = .returned (.int .i64 (o.tk : Int)) ∧ w = w' := by
  have h1 := h.c1
  have hf := h.fit
  have ht := h.tkn
  clear h
  go_enter Tryd.func26, Tryd.ntmps26
  go_wp2_with (go_at_call 60; refine (loadI64_any _ _ _ h1).mono ?_; rintro e w' ⟨rfl, rfl⟩)
  go_ret
  exact ⟨rfl, rfl⟩

theorem len_nil (w : World) :
    Calls Tryd.prog 26 #[.pointer none] w fun e w' => e = .returned (.int .i64 0) ∧ w = w' := by
  go_enter Tryd.func26, Tryd.ntmps26
  go_wp2_with fail
  go_ret
  exact ⟨rfl, rfl⟩

theorem size_any (o : SO) (w : World) (h : o.At w) :
    Calls Tryd.prog 40 #[.pointer (some ⟨o.b, 0, none⟩)] w fun e w' => e = .returned (.int .i64 (o.n : Int)) ∧ w = w' := by
  have h0 := h.c0
  clear h
  go_enter Tryd.func40, Tryd.ntmps40
  go_wp2_with fail
  go_ret
  exact ⟨rfl, rfl⟩
theorem size_nil (w : World) :
    Calls Tryd.prog 40 #[.pointer none] w fun e w' => e = .returned (.int .i64 0) ∧ w = w' := by
  go_enter Tryd.func40, Tryd.ntmps40
  go_wp2_with fail
  go_ret
  exact ⟨rfl, rfl⟩

theorem check_ok (o : SO) (x : Nat) (w : World) (h : o.At w) (hx : x < o.n) :
    Calls Tryd.prog 57 #[.pointer (some ⟨o.b, 0, none⟩), .int .i64 (x : Int)] w fun e w' => e = .returned .nilIface ∧ w = w' := by
  have h0 := h.c0
  clear h
  go_enter Tryd.func57, Tryd.ntmps57
  go_wp2
  go_ret
  exact ⟨rfl, rfl⟩
theorem check_range (o : SO) (x : Int) (w : World) (h : o.At w) (hx : x < 0 ∨ o.n ≤ x) :
    Calls Tryd.prog 57 #[.pointer (some ⟨o.b, 0, none⟩), .int .i64 x] w fun e w' => e = .returned (errno 12) ∧ w = w' := by
  have h0 := h.c0
  clear h
  rcases hx with hx | hx
  all_goals
    go_enter Tryd.func57, Tryd.ntmps57
    go_wp2
    go_ret
    exact ⟨rfl, rfl⟩
theorem check_nil (x : Int) (w : World) :
    Calls Tryd.prog 57 #[.pointer none, .int .i64 x] w fun e w' => e = .returned (errno 1) ∧ w = w' := by
  go_enter Tryd.func57, Tryd.ntmps57
  go_wp2
  go_ret
  exact ⟨rfl, rfl⟩

theorem bit_word (v k : Nat) (hv : v < 18446744073709551616) : (bits BinOp.and IntKind.u64 ((v : Int) / 2 ^ k) 1 == 1) = v.testBit k := by
  have e : (v : Int) / 2 ^ k = ((v / 2 ^ k : Nat) : Int) := by simp
  have hd : v / 2 ^ k ≤ v := Nat.div_le_self _ _
  rw [e, show (1 : Int) = ((1 : Nat) : Int) from rfl, u64_and_nat _ 1 (by omega) (by decide), Nat.and_one_is_mod, Nat.testBit_eq_decide_div_mod_eq]
  generalize v / 2 ^ k = z
  rw [Bool.eq_iff_iff, beq_iff_eq, decide_eq_true_iff]
  omega

theorem has_in (o : SO) (x : Nat) (w : World) (h : o.At w) (hx : x < o.n) :
    Calls Tryd.prog 25 #[.pointer (some ⟨o.b, 0, none⟩), .int .i64 (x : Int)] w fun e w' => e = .returned (.bool (o.bit x)) ∧ w = w' := by
  have h2 := h.c2
  have hl := h.some_
  have hi := h.reach x 0 hx hl
  rw [Nat.zero_add, Nat.pow_one] at hi
  have g1 := h.cl 0 hl
  have g2 := h.cw 0 _ hl hi
  have hwd := h.word 0 _ hl hi
  have hfit := h.fit
  have HB : Hid (o.bit x = ((o.lv 0).getD (x / 64) 0).testBit (x % 64)) := rfl
  generalize (o.lv 0).getD (x / 64) 0 = v at *
  generalize (o.lv 0).length = len at *
  have hck := Lib.hid (check_ok o x w h hx)
  clear h
  go_enter Tryd.func25, Tryd.ntmps25
  go_wp2_with (go_at_call 57; refine (hck.out).mono ?_; rintro e w' ⟨rfl, rfl⟩)
  go_ret
  exact ⟨by rw [HB.out, ← bit_word v _ hwd]; rfl, rfl⟩

theorem has_out (o : SO) (x : Int) (w : World) (h : o.At w) (hx : x < 0 ∨ o.n ≤ x) :
    Calls Tryd.prog 25 #[.pointer (some ⟨o.b, 0, none⟩), .int .i64 x] w fun e w' => e = .returned (.bool false) ∧ w = w' := by
  have hck := Lib.hid (check_range o x w h hx)
  clear h hx
  go_enter Tryd.func25, Tryd.ntmps25
  go_wp2_with (go_at_call 57; refine (hck.out).mono ?_; unfold errno; rintro e w' ⟨rfl, rfl⟩)
  go_ret
  exact ⟨rfl, rfl⟩
theorem has_nil (x : Int) (w : World) :
    Calls Tryd.prog 25 #[.pointer none, .int .i64 x] w fun e w' => e = .returned (.bool false) ∧ w = w' := by
  have hck := Lib.hid (check_nil x w)
  go_enter Tryd.func25, Tryd.ntmps25
  go_wp2_with (go_at_call 57; refine (hck.out).mono ?_; unfold errno; rintro e w' ⟨rfl, rfl⟩)
  go_ret
  exact ⟨rfl, rfl⟩

theorem claim_out (o : SO) (x : Int) (w : World) (h : o.At w) (hx : x < 0 ∨ o.n ≤ x) :
    Calls Tryd.prog 19 #[.pointer (some ⟨o.b, 0, none⟩), .int .i64 x] w fun e w' => e = .returned (errno 12) ∧ w = w' := by
  have hck := Lib.hid (check_range o x w h hx)
  clear h hx
  go_enter Tryd.func19, Tryd.ntmps19
  go_wp2_with (go_at_call 57; refine (hck.out).mono ?_; unfold errno; rintro e w' ⟨rfl, rfl⟩)
  go_ret
  exact ⟨rfl, rfl⟩
theorem claim_same (o : SO) (x : Nat) (w : World) (h : o.At w) (hx : x < o.n) (hb : o.bit x = true) :
    Calls Tryd.prog 19 #[.pointer (some ⟨o.b, 0, none⟩), .int .i64 (x : Int)] w fun e w' => e = .returned (errno 20) ∧ w = w' := by
  have hck := Lib.hid (check_ok o x w h hx)
  have hha := has_in o x w h hx
  rw [hb] at hha
  have hha := Lib.hid hha
  clear h hx hb
  go_enter Tryd.func19, Tryd.ntmps19
  go_wp2_with (first | (go_at_call 57; refine (hck.out).mono ?_; rintro e w' ⟨rfl, rfl⟩) | (go_at_call 25; refine (hha.out).mono ?_; rintro e w' ⟨rfl, rfl⟩))
  go_ret
  exact ⟨rfl, rfl⟩
theorem claim_set (o : SO) (x : Nat) (w : World) (h : o.At w) (hx : x < o.n) (hb : o.bit x = false) (ht : o.tk < o.n) :
    Calls Tryd.prog 19 #[.pointer (some ⟨o.b, 0, none⟩), .int .i64 (x : Int)] w fun e w' => e = .returned .nilIface ∧ (o.set x).At w' ∧ Keeps o.own w w' := by
  have hck := Lib.hid (check_ok o x w h hx)
  have hha := has_in o x w h hx
  rw [hb] at hha
  have hha := Lib.hid hha
  have hst := Lib.hid (set_any o x w h hx ht)
  clear h hx hb ht
  go_enter Tryd.func19, Tryd.ntmps19
  go_wp2_with (first | (go_at_call 57; refine (hck.out).mono ?_; rintro e w' ⟨rfl, rfl⟩) | (go_at_call 25; refine (hha.out).mono ?_; rintro e w' ⟨rfl, rfl⟩) | (go_at_call 58; refine (hst.out).mono ?_; rintro e w' ⟨rfl, hpost⟩))
  go_ret
  exact ⟨rfl, by assumption⟩
theorem claim_nil (x : Int) (w : World) :
    Calls Tryd.prog 19 #[.pointer none, .int .i64 x] w fun e w' => e = .returned (errno 1) ∧ w = w' := by
  have hck := Lib.hid (check_nil x w)
  go_enter Tryd.func19, Tryd.ntmps19
  go_wp2_with (go_at_call 57; refine (hck.out).mono ?_; unfold errno; rintro e w' ⟨rfl, rfl⟩)
  go_ret
  exact ⟨rfl, rfl⟩
end Go.Proofs.YtiphdlhnoceeiaaDoor
