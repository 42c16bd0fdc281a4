/- slots: Free, Next, All, Take. -/
import Derived.Test.YtiphdlhnoceeiaaDoorSl2
import Derived.Test.YtiphdlhnoceeiaaDoorSlMath
namespace Go.Proofs.YtiphdlhnoceeiaaDoor
open Go Go.RowKit
set_option linter.unusedVariables false
set_option linter.unusedSimpArgs false

def FreeRel (o : SO) (x : Nat) (w : World) (k x' : Nat) (oc : SO) (wr : World) : Prop :=
  oc.At wr ∧ oc.L.length = o.L.length ∧ oc.n = o.n ∧ oc.b = o.b ∧ oc.lb = o.lb ∧ oc.bk = o.bk ∧ x' = x / 64 ^ k ∧ o.free x = SO.freeFrom (o.L.length - k) oc k x' ∧ Keeps o.own w wr

theorem FreeRel.start {o : SO} {x : Nat} {w : World} (h : o.At w) :
    FreeRel o x w 0 x { o with tk := o.tk - 1 } (w.setCell ⟨o.b, 1, none⟩ (.int .i64 ((o.tk - 1 : Nat) : Int))) :=
  ⟨h.count (o.tk - 1) (by have := h.tkn; omega), rfl, rfl, rfl, rfl, rfl, by simp, rfl, (Keeps.refl _ _).setCell _ _ fun _ => .inl rfl⟩

theorem FreeRel.idx {o : SO} {x : Nat} {w : World} {k x' : Nat} {oc : SO} {wr : World} (h : FreeRel o x w k x' oc wr) (hx : x < o.n) (hk : k < o.L.length) :
    k < oc.L.length ∧ x' / 64 < (oc.lv k).length := by
  obtain ⟨ha, hl, hn, _, _, _, hx', _⟩ := h
  have hlt : k < oc.L.length := by omega
  refine ⟨hlt, ?_⟩
  have := ha.reach x k (by omega) hlt
  rw [hx', Nat.div_div_eq_div_mul, ← Nat.pow_succ]; exact this

theorem FreeRel.step {o : SO} {x : Nat} {w : World} {k x' v nv : Nat} {oc : SO} {wr : World} (h : FreeRel o x w k x' oc wr) (hx : x < o.n) (hk : k < o.L.length)
    (hv : (oc.lv k).getD (x' / 64) 0 = v) (hnv : v &&& (18446744073709551615 - 2 ^ (x' % 64)) = nv) (hlt : nv < 18446744073709551616) (hw : v = 18446744073709551615) :
    FreeRel o x w (k + 1) (x' / 64) (oc.put k (x' / 64) nv) (wr.setCell ⟨oc.bk k, x' / 64, none⟩ (.int .u64 (nv : Int))).drew := by
  obtain ⟨hkl, hi⟩ := h.idx hx hk
  obtain ⟨ha, hl, hn, hb, hlb, hbk, hx', hs, hkeep⟩ := h
  refine ⟨(ha.store k _ nv hkl hlt).drew, by rw [SO.put_len]; exact hl, hn, hb, hlb, hbk, by rw [hx', Nat.div_div_eq_div_mul, ← Nat.pow_succ], ?_,
    (hkeep.setCell _ _ fun _ => .inr (.inr ⟨k, hk, by rw [hbk]⟩)).drew⟩
  rw [hs, show o.L.length - k = (o.L.length - (k + 1)) + 1 from by omega, SO.freeFrom, hv, hnv, if_pos hw]

theorem FreeRel.done {o : SO} {x : Nat} {w : World} {k x' v nv : Nat} {oc : SO} {wr : World} (h : FreeRel o x w k x' oc wr) (hx : x < o.n) (hk : k < o.L.length)
    (hv : (oc.lv k).getD (x' / 64) 0 = v) (hnv : v &&& (18446744073709551615 - 2 ^ (x' % 64)) = nv) (hlt : nv < 18446744073709551616) (hw : ¬ v = 18446744073709551615) :
    (o.free x).At (wr.setCell ⟨oc.bk k, x' / 64, none⟩ (.int .u64 (nv : Int))).drew ∧ Keeps o.own w (wr.setCell ⟨oc.bk k, x' / 64, none⟩ (.int .u64 (nv : Int))).drew := by
  obtain ⟨hkl, hi⟩ := h.idx hx hk
  obtain ⟨ha, hl, hn, hb, hlb, hbk, hx', hs, hkeep⟩ := h
  refine ⟨?_, (hkeep.setCell _ _ fun _ => .inr (.inr ⟨k, hk, by rw [hbk]⟩)).drew⟩
  rw [hs, show o.L.length - k = (o.L.length - (k + 1)) + 1 from by omega, SO.freeFrom, hv, hnv, if_neg hw]
  exact (ha.store k _ nv hkl hlt).drew

theorem FreeRel.out {o : SO} {x : Nat} {w : World} {k x' : Nat} {oc : SO} {wr : World} (h : FreeRel o x w k x' oc wr) (hk : k = o.L.length) : (o.free x).At wr ∧ Keeps o.own w wr := by
  obtain ⟨ha, hl, hn, hb, hlb, hbk, hx', hs, hkeep⟩ := h
  rw [hs, hk, Nat.sub_self, SO.freeFrom]
  exact ⟨ha, hkeep⟩

theorem nand_word (v k : Nat) (hv : v < 18446744073709551616) (hk : k < 64) : bits BinOp.andNot IntKind.u64 (v : Int) (IntKind.u64.wrap (2 ^ k)) = ((v &&& (18446744073709551615 - 2 ^ k) : Nat) : Int) := by
  rw [pow_word k hk]
  exact u64_andNot_nat v (2 ^ k) hv (Nat.pow_lt_pow_right (a := 2) (m := k) (n := 64) (by decide) hk)
theorem nand_word_lt (v k : Nat) (hv : v < 18446744073709551616) : v &&& (18446744073709551615 - 2 ^ k) < 18446744073709551616 := by
  have := Nat.and_le_left (n := v) (m := 18446744073709551615 - 2 ^ k)
  omega

theorem free_out (o : SO) (x : Int) (w : World) (h : o.At w) (hx : x < 0 ∨ o.n ≤ x) :
    Calls Tryd.prog 35 #[.pointer (some ⟨o.b, 0, none⟩), .int .i64 x] w fun e w' => e = .returned (errno 12) ∧ w = w' := by
  have hck := Lib.hid (check_range o x w h hx)
  clear h hx
  go_enter Tryd.func35, Tryd.ntmps35
  go_wp2_with (go_at_call 57; refine (hck.out).mono ?_; unfold errno; rintro e w' ⟨rfl, rfl⟩)
  go_ret
  exact ⟨rfl, rfl⟩
theorem free_nil (x : Int) (w : World) :
    Calls Tryd.prog 35 #[.pointer none, .int .i64 x] w fun e w' => e = .returned (errno 1) ∧ w = w' := by
  have hck := Lib.hid (check_nil x w)
  go_enter Tryd.func35, Tryd.ntmps35
  go_wp2_with (go_at_call 57; refine (hck.out).mono ?_; unfold errno; rintro e w' ⟨rfl, rfl⟩)
  go_ret
  exact ⟨rfl, rfl⟩
theorem free_apart (o : SO) (x : Nat) (w : World) (h : o.At w) (hx : x < o.n) (hb : o.bit x = false) :
    Calls Tryd.prog 35 #[.pointer (some ⟨o.b, 0, none⟩), .int .i64 (x : Int)] w fun e w' => e = .returned (errno 21) ∧ w = w' := by
  have hck := Lib.hid (check_ok o x w h hx)
  have hha := has_in o x w h hx
  rw [hb] at hha
  have hha := Lib.hid hha
  clear h hx hb
  go_enter Tryd.func35, Tryd.ntmps35
  go_wp2_with (first | (go_at_call 57; refine (hck.out).mono ?_; rintro e w' ⟨rfl, rfl⟩) | (go_at_call 25; refine (hha.out).mono ?_; rintro e w' ⟨rfl, rfl⟩))
  go_ret
  exact ⟨rfl, rfl⟩

set_option maxHeartbeats 1000000 in
set_option maxRecDepth 100000 in
theorem free_set (o : SO) (x : Nat) (w : World) (h : o.At w) (hx : x < o.n) (hb : o.bit x = true) (ht : 0 < o.tk) :
    Calls Tryd.prog 35 #[.pointer (some ⟨o.b, 0, none⟩), .int .i64 (x : Int)] w fun e w' => e = .returned .nilIface ∧ (o.free x).At w' ∧ Keeps o.own w w' := by
  have hck := Lib.hid (check_ok o x w h hx)
  have hha := has_in o x w h hx
  rw [hb] at hha
  have hha' := Lib.hid hha
  clear hha
  have h1 := h.c1
  have f1 := h.f1
  have ecast : (o.tk : Int) + -1 = ((o.tk - 1 : Nat) : Int) := by omega
  have h2 : (w.setCell ⟨o.b, 1, none⟩ (.int .i64 ((o.tk : Int) + -1))).cell? ⟨o.b, 2, none⟩ = some (.slice (some ⟨o.lb, 0, none⟩) o.L.length o.cap) := by
    rw [ecast]; exact (h.count (o.tk - 1) (by have := h.tkn; omega)).c2
  have hfit := h.fit
  have hfew := h.few
  have htn := h.tkn
  have hstart' := FreeRel.start (x := x) h
  rw [← ecast] at hstart'
  have hstart := Lib.hid hstart'
  clear hstart'
  clear h hb ecast
  go_enter Tryd.func35, Tryd.ntmps35
  go_wp2_with (first | (go_at_call 57; refine (hck.out).mono ?_; rintro e w' ⟨rfl, rfl⟩) | (go_at_call 25; refine (hha'.out).mono ?_; rintro e w' ⟨rfl, rfl⟩) | (go_at_call 62; refine (addI64_any _ _ _ _ h1 f1 (by omega) (by omega)).mono ?_; rintro e w' ⟨rfl, rfl⟩))
  clear h1 f1 h2 hck hha'
  go_loopw [1, 29] (fun a i wr => ∃ (k x' : Nat) (oc : SO), k ≤ o.L.length ∧ i = .int .i64 k ∧ a = .int .i64 x' ∧ FreeRel o x w k x' oc wr) (fun _ i _ => o.L.length - (intOf i).toNat)
  case atStart => exact ⟨0, x, _, Nat.zero_le _, rfl, rfl, hstart.out⟩
  case round =>
    obtain ⟨k, x', oc, hk, rfl, rfl, hr⟩ := hrel
    clear hstart
    by_cases hlt : k < o.L.length
    · obtain ⟨hlt', hi⟩ := hr.idx hx hlt
      have g1 := hr.1.cl k hlt'
      have g2 := hr.1.cw k _ hlt' hi
      have g3 := hr.1.fw k (x' / 64) hlt'
      have hsm := hr.1.small k hlt'
      have hwd := hr.1.word k _ hlt' hi
      rw [hr.2.2.2.2.1] at g1
      have HR := Lib.hid hr
      clear hr
      generalize hv : (oc.lv k).getD (x' / 64) 0 = v at g2 hwd
      have HV := Lib.hid hv
      generalize hle : (oc.lv k).length = len at g1 hi hsm
      generalize hbk : oc.bk k = bk at g1 g2 g3
      have HBK := Lib.hid hbk
      clear hv hle hbk
      have hnv := nand_word_lt v (x' % 64) hwd
      by_cases hw : v = 18446744073709551615
      · have hw' : ((v : Int) == 18446744073709551615) = true := by rw [beq_iff_eq]; omega
        have HW := Lib.hid hw
        clear hw
        go_wp2
        go_region
        rw [nand_word v (x' % 64) hwd (Nat.mod_lt _ (by decide))]
        generalize hvv : v &&& (18446744073709551615 - 2 ^ (x' % 64)) = nv at *
        have HVV := Lib.hid hvv
        clear hvv
        go_wp2
        refine ⟨⟨k + 1, x' / 64, oc.put k (x' / 64) nv, hlt, by go_num, by go_num, ?_⟩, by simp [intOf]; omega⟩
        rw [← HBK.out]
        exact HR.out.step hx hlt HV.out HVV.out hnv HW.out
      · have hw' : ((v : Int) == 18446744073709551615) = false := by rw [beq_eq_false_iff_ne]; omega
        have HW := Lib.hid hw
        clear hw
        go_wp2
        go_region
        rw [nand_word v (x' % 64) hwd (Nat.mod_lt _ (by decide))]
        generalize hvv : v &&& (18446744073709551615 - 2 ^ (x' % 64)) = nv at *
        have HVV := Lib.hid hvv
        clear hvv
        go_wp2
        go_ret
        rw [← HBK.out]
        exact ⟨rfl, HR.out.done hx hlt HV.out HVV.out hnv HW.out⟩
    · have hk' : k = o.L.length := by omega
      have HR := Lib.hid hr
      clear hr
      go_wp2
      go_ret
      exact ⟨rfl, HR.out.out hk'⟩

/-- What Next answers: the first taken place from x on. -/
def NextIs (o : SO) (x : Nat) (r : Option Nat) : Prop :=
  match r with
  | some y => x ≤ y ∧ y < o.n ∧ o.bit y = true ∧ ∀ z, x ≤ z → z < y → o.bit z = false
  | none => ∀ z, x ≤ z → z < o.n → o.bit z = false
def nextVal : Option Nat → Value
  | some y => .tuple #[.int .i64 (y : Int), .bool true]
  | none => .tuple #[.int .i64 0, .bool false]

theorem next_beyond (o : SO) (x : Int) (w : World) (h : o.At w) (hx : o.n ≤ x) :
    Calls Tryd.prog 21 #[.pointer (some ⟨o.b, 0, none⟩), .int .i64 x] w fun e w' => e = .returned (nextVal none) ∧ w = w' := by
  have h0 := h.c0
  clear h
  go_enter Tryd.func21, Tryd.ntmps21
  go_wp2_with fail
  go_ret2
  exact ⟨rfl, rfl⟩
theorem next_nil (x : Int) (w : World) :
    Calls Tryd.prog 21 #[.pointer none, .int .i64 x] w fun e w' => e = .returned (nextVal none) ∧ w = w' := by
  go_enter Tryd.func21, Tryd.ntmps21
  go_wp2_with fail
  go_ret2
  exact ⟨rfl, rfl⟩

def NextInv (o : SO) (f i : Nat) : Prop := f / 64 ≤ i ∧ ∀ z, f ≤ z → z < 64 * i → z < o.n → o.bit z = false
def nword (o : SO) (f i : Nat) : Nat := if i = f / 64 then maskw ((o.lv 0).getD i 0) (f % 64) else (o.lv 0).getD i 0
theorem bit_at (o : SO) (i j : Nat) (hj : j < 64) : o.bit (64 * i + j) = ((o.lv 0).getD i 0).testBit j := by
  unfold SO.bit
  rw [show (64 * i + j) / 64 = i from by omega, show (64 * i + j) % 64 = j from by omega]
theorem nword_bit (o : SO) (f i j : Nat) (hj : j < 64) (hf : f / 64 ≤ i) : (nword o f i).testBit j = (o.bit (64 * i + j) && decide (f ≤ 64 * i + j)) := by
  rw [bit_at o i j hj]
  unfold nword
  split
  · rw [mask_bit _ _ _ hj]
    congr 1
    rw [decide_eq_decide]
    omega
  · have : f ≤ 64 * i + j := by omega
    simp [this]
theorem nword_lt (o : SO) (f i : Nat) (hw : (o.lv 0).getD i 0 < 18446744073709551616) : nword o f i < 18446744073709551616 := by
  unfold nword
  split
  · exact mask_lt _ _ hw
  · exact hw
theorem NextInv.start (o : SO) (f : Nat) : NextInv o f (f / 64) := ⟨Nat.le_refl _, fun z h1 h2 _ => by omega⟩
theorem NextInv.hit {o : SO} {f i v : Nat} (h : NextInv o f i) (hv : nword o f i = v) (hlt : v < 18446744073709551616) (h0 : v ≠ 0) (hn : 64 * i + Lib.ctz 64 v < o.n) :
    NextIs o f (some (64 * i + Lib.ctz 64 v)) := by
  obtain ⟨c1, c2, c3⟩ := ctz_bit v h0 hlt
  have hb := nword_bit o f i _ c3 h.1
  rw [hv, c1] at hb
  have hb' := (Bool.and_eq_true_iff.1 hb.symm)
  refine ⟨of_decide_eq_true hb'.2, hn, hb'.1, fun z hz1 hz2 => ?_⟩
  by_cases hz : z < 64 * i
  · exact h.2 z hz1 hz (by omega)
  · have hj := nword_bit o f i (z - 64 * i) (by omega) h.1
    rw [hv, c2 _ (by omega), show 64 * i + (z - 64 * i) = z from by omega] at hj
    simpa [hz1] using hj.symm
theorem NextInv.miss {o : SO} {f i v : Nat} (h : NextInv o f i) (hv : nword o f i = v) (hlt : v < 18446744073709551616) (hn : v = 0 ∨ o.n ≤ 64 * i + Lib.ctz 64 v) :
    NextInv o f (i + 1) := by
  refine ⟨by have := h.1; omega, fun z hz1 hz2 hz3 => ?_⟩
  by_cases hz : z < 64 * i
  · exact h.2 z hz1 hz (by omega)
  · have hj := nword_bit o f i (z - 64 * i) (by omega) h.1
    rw [hv, show 64 * i + (z - 64 * i) = z from by omega] at hj
    have hf : v.testBit (z - 64 * i) = false := by
      by_cases h0 : v = 0
      · rw [h0, Nat.zero_testBit]
      · obtain ⟨c1, c2, c3⟩ := ctz_bit v h0 hlt
        exact c2 _ (by omega)
    rw [hf] at hj
    simpa [hz1] using hj.symm
theorem NextInv.out {o : SO} {f i : Nat} (h : NextInv o f i) (hl : o.n ≤ 64 * i) : NextIs o f none := fun z h1 h2 => h.2 z h1 (by omega) h2
theorem SO.At.wide {o : SO} {w : World} (h : o.At w) : o.n ≤ 64 * (o.lv 0).length := by
  by_cases hn : o.n = 0
  · omega
  · have := h.reach (o.n - 1) 0 (by omega) h.some_
    rw [Nat.zero_add, Nat.pow_one] at this
    omega
theorem mask_word (v f : Nat) (hv : v < 18446744073709551616) (hf : f < 64) :
    bits BinOp.and IntKind.u64 (v : Int) (IntKind.u64.wrap (18446744073709551615 * 2 ^ f)) = (maskw v f : Int) := by
  have e : (18446744073709551615 : Int) * 2 ^ f = ((18446744073709551615 * 2 ^ f : Nat) : Int) := by simp
  rw [IntKind.wrap_u64, e, show (18446744073709551616 : Int) = ((18446744073709551616 : Nat) : Int) from rfl, ← Int.natCast_emod]
  exact u64_and_nat v _ hv (Nat.mod_lt _ (by decide))

theorem mask_word0 (v : Nat) (hv : v < 18446744073709551616) : bits BinOp.and IntKind.u64 (v : Int) 18446744073709551615 = (maskw v (0 % 64) : Int) := by
  rw [← mask_word v (0 % 64) hv (by decide)]
  rfl

def NextPost (o : SO) (f : Nat) (w : World) (e : Ending) (w' : World) : Prop := ∃ r, NextIs o f r ∧ e = .returned (nextVal r) ∧ w = w'

set_option maxHeartbeats 1000000 in
set_option maxRecDepth 100000 in
theorem next_in (o : SO) (x : Int) (f : Nat) (w : World) (h : o.At w) (hT : Tab w) (hx : x < o.n) (hf : (x = f) ∨ (x < 0 ∧ f = 0)) :
    Calls Tryd.prog 21 #[.pointer (some ⟨o.b, 0, none⟩), .int .i64 x] w (NextPost o f w) := by
  have h0 := h.c0
  have h2 := h.c2
  have hl := h.some_
  have g1 := h.cl 0 hl
  have hfit := h.fit
  have hsm := h.small 0 hl
  have hfn : f < o.n ∨ (x < 0 ∧ f = 0) := by omega
  have H := Lib.hid h
  have HT := Lib.hid hT
  clear h hT
  generalize hlen : (o.lv 0).length = len at g1 hsm
  have HLEN := Lib.hid hlen
  clear hlen
  rcases hf with hfx | ⟨hx0, hf0⟩
  · subst hfx
    have hst : Hid ((Value.int .i64 ((f : Int) / 64)) = .int .i64 ((f / 64 : Nat) : Int)) := rfl
    have hdec : decide (o.n ≤ f) = false := by simp; omega
    go_enter Tryd.func21, Tryd.ntmps21
    go_wp2_with fail
    go_loopw [6] (fun i wr => w = wr ∧ ∃ k : Nat, k ≤ len ∧ i = .int .i64 (k : Int) ∧ NextInv o f k) (fun i _ => len - (intOf i).toNat)
    case atStart => exact ⟨rfl, f / 64, by have := H.out.wide; rw [HLEN.out] at this; omega, hst.out, NextInv.start o f⟩
    case round =>
      obtain ⟨rfl, k, hk, rfl, hinv⟩ := hrel
      have HI := Lib.hid hinv
      clear hinv hst
      by_cases hlt : k < len
      · have g2 := H.out.cw 0 k hl (by rw [HLEN.out]; exact hlt)
        have hwd := H.out.word 0 k hl (by rw [HLEN.out]; exact hlt)
        generalize hv : (o.lv 0).getD k 0 = v at g2 hwd
        have HV := Lib.hid hv
        clear hv
        by_cases hkf : k = f / 64
        · have hkf' : ((k : Int) == (f : Int) / 64) = true := by rw [beq_iff_eq]; omega
          have hmk := Lib.hid (mask_word v (f % 64) hwd (Nat.mod_lt _ (by decide)))
          have hnw : Hid (nword o f k = maskw v (f % 64)) := by show nword o f k = _; rw [nword, if_pos hkf, HV.out]
          have hlt2 := mask_lt v (f % 64) hwd
          generalize maskw v (f % 64) = v2 at *
          have htz := Lib.hid (tz_any v2 hlt2 w HT.out)
          have hcb : Lib.ctz 64 v2 ≤ 64 := by
            by_cases h0 : v2 = 0
            · rw [h0, ctz_zero]; decide
            · exact Nat.le_of_lt (ctz_bit v2 h0 hlt2).2.2
          generalize hc : Lib.ctz 64 v2 = c at *
          have HC := Lib.hid hc
          clear hc hkf
          by_cases h0 : v2 = 0
          · have h0' : ((v2 : Int) != 0) = false := by rw [bne_eq_false_iff_eq]; omega
            have H0 := Lib.hid h0
            clear h0
            go_wp2_with (first | (rw [hmk.out]) | (go_at_call 59; refine (htz.out).mono ?_; rintro e w' ⟨rfl, rfl⟩))
            refine ⟨⟨trivial, k + 1, hlt, by go_num, HI.out.miss hnw.out hlt2 (.inl H0.out)⟩, by simp [intOf]; omega⟩
          · have h0' : ((v2 : Int) != 0) = true := by rw [bne_iff_ne]; omega
            have H0 := Lib.hid h0
            clear h0
            by_cases hn : 64 * k + c < o.n
            · go_wp2_with (first | (rw [hmk.out]) | (go_at_call 59; refine (htz.out).mono ?_; rintro e w' ⟨rfl, rfl⟩))
              go_ret2
              exact ⟨some _, HI.out.hit hnw.out hlt2 H0.out (by rw [HC.out]; exact hn), by rw [HC.out]; simp [nextVal]; omega, rfl⟩
            · go_wp2_with (first | (rw [hmk.out]) | (go_at_call 59; refine (htz.out).mono ?_; rintro e w' ⟨rfl, rfl⟩))
              refine ⟨⟨trivial, k + 1, hlt, by go_num, HI.out.miss hnw.out hlt2 (.inr (by rw [HC.out]; omega))⟩, by simp [intOf]; omega⟩
        · have hkf' : ((k : Int) == (f : Int) / 64) = false := by rw [beq_eq_false_iff_ne]; omega
          have hnw : Hid (nword o f k = v) := by show nword o f k = _; rw [nword, if_neg hkf, HV.out]
          have hlt2 := hwd
          have htz := Lib.hid (tz_any v hlt2 w HT.out)
          have hcb : Lib.ctz 64 v ≤ 64 := by
            by_cases h0 : v = 0
            · rw [h0, ctz_zero]; decide
            · exact Nat.le_of_lt (ctz_bit v h0 hlt2).2.2
          generalize hc : Lib.ctz 64 v = c at *
          have HC := Lib.hid hc
          clear hc hkf
          by_cases h0 : v = 0
          · have h0' : ((v : Int) != 0) = false := by rw [bne_eq_false_iff_eq]; omega
            have H0 := Lib.hid h0
            clear h0
            go_wp2_with (go_at_call 59; refine (htz.out).mono ?_; rintro e w' ⟨rfl, rfl⟩)
            refine ⟨⟨trivial, k + 1, hlt, by go_num, HI.out.miss hnw.out hlt2 (.inl H0.out)⟩, by simp [intOf]; omega⟩
          · have h0' : ((v : Int) != 0) = true := by rw [bne_iff_ne]; omega
            have H0 := Lib.hid h0
            clear h0
            by_cases hn : 64 * k + c < o.n
            · go_wp2_with (go_at_call 59; refine (htz.out).mono ?_; rintro e w' ⟨rfl, rfl⟩)
              go_ret2
              exact ⟨some _, HI.out.hit hnw.out hlt2 H0.out (by rw [HC.out]; exact hn), by rw [HC.out]; simp [nextVal]; omega, rfl⟩
            · go_wp2_with (go_at_call 59; refine (htz.out).mono ?_; rintro e w' ⟨rfl, rfl⟩)
              refine ⟨⟨trivial, k + 1, hlt, by go_num, HI.out.miss hnw.out hlt2 (.inr (by rw [HC.out]; omega))⟩, by simp [intOf]; omega⟩
      · go_wp2_with fail
        go_ret2
        exact ⟨none, HI.out.out (by have := H.out.wide; rw [HLEN.out] at this; omega), rfl, rfl⟩
  · subst hf0
    have hst : Hid ((Value.int .i64 0) = .int .i64 ((0 / 64 : Nat) : Int)) := rfl
    have hdec : decide ((o.n : Int) ≤ x) = false := by simp; omega
    go_enter Tryd.func21, Tryd.ntmps21
    go_wp2_with fail
    go_loopw [6] (fun i wr => w = wr ∧ ∃ k : Nat, k ≤ len ∧ i = .int .i64 (k : Int) ∧ NextInv o 0 k) (fun i _ => len - (intOf i).toNat)
    case atStart => exact ⟨rfl, 0 / 64, by have := H.out.wide; rw [HLEN.out] at this; omega, hst.out, NextInv.start o 0⟩
    case round =>
      obtain ⟨rfl, k, hk, rfl, hinv⟩ := hrel
      have HI := Lib.hid hinv
      clear hinv hst
      by_cases hlt : k < len
      · have g2 := H.out.cw 0 k hl (by rw [HLEN.out]; exact hlt)
        have hwd := H.out.word 0 k hl (by rw [HLEN.out]; exact hlt)
        generalize hv : (o.lv 0).getD k 0 = v at g2 hwd
        have HV := Lib.hid hv
        clear hv
        by_cases hkf : k = 0 / 64
        · have hkf' : ((k : Int) == 0) = true := by rw [beq_iff_eq]; omega
          have hmk := Lib.hid (mask_word0 v hwd)
          have hnw : Hid (nword o 0 k = maskw v (0 % 64)) := by show nword o 0 k = _; rw [nword, if_pos hkf, HV.out]
          have hlt2 := mask_lt v (0 % 64) hwd
          generalize maskw v (0 % 64) = v2 at *
          have htz := Lib.hid (tz_any v2 hlt2 w HT.out)
          have hcb : Lib.ctz 64 v2 ≤ 64 := by
            by_cases h0 : v2 = 0
            · rw [h0, ctz_zero]; decide
            · exact Nat.le_of_lt (ctz_bit v2 h0 hlt2).2.2
          generalize hc : Lib.ctz 64 v2 = c at *
          have HC := Lib.hid hc
          clear hc hkf
          by_cases h0 : v2 = 0
          · have h0' : ((v2 : Int) != 0) = false := by rw [bne_eq_false_iff_eq]; omega
            have H0 := Lib.hid h0
            clear h0
            go_wp2_with (first | (rw [hmk.out]) | (go_at_call 59; refine (htz.out).mono ?_; rintro e w' ⟨rfl, rfl⟩))
            refine ⟨⟨trivial, k + 1, hlt, by go_num, HI.out.miss hnw.out hlt2 (.inl H0.out)⟩, by simp [intOf]; omega⟩
          · have h0' : ((v2 : Int) != 0) = true := by rw [bne_iff_ne]; omega
            have H0 := Lib.hid h0
            clear h0
            by_cases hn : 64 * k + c < o.n
            · go_wp2_with (first | (rw [hmk.out]) | (go_at_call 59; refine (htz.out).mono ?_; rintro e w' ⟨rfl, rfl⟩))
              go_ret2
              exact ⟨some _, HI.out.hit hnw.out hlt2 H0.out (by rw [HC.out]; exact hn), by rw [HC.out]; simp [nextVal]; omega, rfl⟩
            · go_wp2_with (first | (rw [hmk.out]) | (go_at_call 59; refine (htz.out).mono ?_; rintro e w' ⟨rfl, rfl⟩))
              refine ⟨⟨trivial, k + 1, hlt, by go_num, HI.out.miss hnw.out hlt2 (.inr (by rw [HC.out]; omega))⟩, by simp [intOf]; omega⟩
        · have hkf' : ((k : Int) == 0) = false := by rw [beq_eq_false_iff_ne]; omega
          have hnw : Hid (nword o 0 k = v) := by show nword o 0 k = _; rw [nword, if_neg hkf, HV.out]
          have hlt2 := hwd
          have htz := Lib.hid (tz_any v hlt2 w HT.out)
          have hcb : Lib.ctz 64 v ≤ 64 := by
            by_cases h0 : v = 0
            · rw [h0, ctz_zero]; decide
            · exact Nat.le_of_lt (ctz_bit v h0 hlt2).2.2
          generalize hc : Lib.ctz 64 v = c at *
          have HC := Lib.hid hc
          clear hc hkf
          by_cases h0 : v = 0
          · have h0' : ((v : Int) != 0) = false := by rw [bne_eq_false_iff_eq]; omega
            have H0 := Lib.hid h0
            clear h0
            go_wp2_with (go_at_call 59; refine (htz.out).mono ?_; rintro e w' ⟨rfl, rfl⟩)
            refine ⟨⟨trivial, k + 1, hlt, by go_num, HI.out.miss hnw.out hlt2 (.inl H0.out)⟩, by simp [intOf]; omega⟩
          · have h0' : ((v : Int) != 0) = true := by rw [bne_iff_ne]; omega
            have H0 := Lib.hid h0
            clear h0
            by_cases hn : 64 * k + c < o.n
            · go_wp2_with (go_at_call 59; refine (htz.out).mono ?_; rintro e w' ⟨rfl, rfl⟩)
              go_ret2
              exact ⟨some _, HI.out.hit hnw.out hlt2 H0.out (by rw [HC.out]; exact hn), by rw [HC.out]; simp [nextVal]; omega, rfl⟩
            · go_wp2_with (go_at_call 59; refine (htz.out).mono ?_; rintro e w' ⟨rfl, rfl⟩)
              refine ⟨⟨trivial, k + 1, hlt, by go_num, HI.out.miss hnw.out hlt2 (.inr (by rw [HC.out]; omega))⟩, by simp [intOf]; omega⟩
      · go_wp2_with fail
        go_ret2
        exact ⟨none, HI.out.out (by have := H.out.wide; rw [HLEN.out] at this; omega), rfl, rfl⟩
end Go.Proofs.YtiphdlhnoceeiaaDoor
