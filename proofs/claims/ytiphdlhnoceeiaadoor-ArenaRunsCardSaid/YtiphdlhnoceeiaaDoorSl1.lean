/- slots: set. -/
import Derived.Test.YtiphdlhnoceeiaaDoorProg
import Derived.Test.YtiphdlhnoceeiaaDoorSlObj
namespace Go.Proofs.YtiphdlhnoceeiaaDoor
open Go Go.RowKit
set_option linter.unusedVariables false
set_option linter.unusedSimpArgs false

theorem addI64_any (a : Addr) (x y : Int) (w : World) (hc : w.cell? a = some (.int .i64 x)) (hz : w.frozen? a = false) (h1 : -9223372036854775808 ≤ x + y) (h2 : x + y ≤ 9223372036854775807) :
    Calls Tryd.prog 62 #[.pointer (some a), .int .i64 y] w fun e w' => e = .returned (.int .i64 (x + y)) ∧ w' = w.setCell a (.int .i64 (x + y)) := by
  have hadd := run_call_add (P := Tryd.prog) Tryd.func72 (by kernel_rfl) (by kernel_rfl) (by kernel_rfl) .i64 (by kernel_rfl) (y := y) (s := x + y) hc hz (by simp [go_sem, IntKind.wrap_i64]; omega)
  clear h1 h2
  go_enter Tryd.func62, Tryd.ntmps62
  go_wp2
  go_ret
  exact ⟨rfl, rfl⟩

theorem pow_word (k : Nat) (hk : k < 64) : IntKind.u64.wrap (2 ^ k) = ((2 ^ k : Nat) : Int) := by
  have h : 2 ^ k < 2 ^ 64 := Nat.pow_lt_pow_right (by decide) hk
  have e : ((2 : Int) ^ k) = ((2 ^ k : Nat) : Int) := by simp
  rw [IntKind.wrap_u64, e]
  generalize 2 ^ k = z at *
  omega
theorem or_word (v k : Nat) (hv : v < 18446744073709551616) (hk : k < 64) : bits BinOp.or IntKind.u64 (v : Int) (IntKind.u64.wrap (2 ^ k)) = ((v ||| 2 ^ k : Nat) : Int) := by
  rw [pow_word k hk]
  exact u64_or_nat v (2 ^ k) hv (Nat.pow_lt_pow_right (a := 2) (m := k) (n := 64) (by decide) hk)
theorem or_word_lt (v k : Nat) (hv : v < 18446744073709551616) (hk : k < 64) : v ||| 2 ^ k < 18446744073709551616 :=
  Nat.or_lt_two_pow (n := 64) hv (Nat.pow_lt_pow_right (by decide) hk)

def SetRel (o : SO) (x : Nat) (w : World) (k x' : Nat) (oc : SO) (wr : World) : Prop :=
  oc.At wr ∧ oc.L.length = o.L.length ∧ oc.n = o.n ∧ oc.b = o.b ∧ oc.lb = o.lb ∧ oc.bk = o.bk ∧ x' = x / 64 ^ k ∧ o.set x = SO.setFrom (o.L.length - k) oc k x' ∧ Keeps o.own w wr

theorem SetRel.start {o : SO} {x : Nat} {w : World} (h : o.At w) (ht : o.tk < o.n) :
    SetRel o x w 0 x { o with tk := o.tk + 1 } (w.setCell ⟨o.b, 1, none⟩ (.int .i64 ((o.tk : Int) + 1))) :=
  ⟨h.count (o.tk + 1) ht, rfl, rfl, rfl, rfl, rfl, by simp, rfl, (Keeps.refl _ _).setCell _ _ fun _ => .inl rfl⟩

theorem SetRel.idx {o : SO} {x : Nat} {w : World} {k x' : Nat} {oc : SO} {wr : World} (h : SetRel o x w k x' oc wr) (hx : x < o.n) (hk : k < o.L.length) :
    k < oc.L.length ∧ x' / 64 < (oc.lv k).length := by
  obtain ⟨ha, hl, hn, _, _, _, hx', _⟩ := h
  have hlt : k < oc.L.length := by omega
  refine ⟨hlt, ?_⟩
  have := ha.reach x k (by omega) hlt
  rw [hx', Nat.div_div_eq_div_mul, ← Nat.pow_succ]; exact this

theorem SetRel.step {o : SO} {x : Nat} {w : World} {k x' v : Nat} {oc : SO} {wr : World} (h : SetRel o x w k x' oc wr) (hx : x < o.n) (hk : k < o.L.length)
    (hv : (oc.lv k).getD (x' / 64) 0 ||| 2 ^ (x' % 64) = v) (hlt : v < 18446744073709551616) (hw : v = 18446744073709551615) :
    SetRel o x w (k + 1) (x' / 64) (oc.put k (x' / 64) v) (wr.setCell ⟨oc.bk k, x' / 64, none⟩ (.int .u64 (v : Int))).drew := by
  obtain ⟨hkl, hi⟩ := h.idx hx hk
  obtain ⟨ha, hl, hn, hb, hlb, hbk, hx', hs, hkeep⟩ := h
  refine ⟨(ha.store k _ v hkl hlt).drew, by rw [SO.put_len]; exact hl, hn, hb, hlb, hbk, by rw [hx', Nat.div_div_eq_div_mul, ← Nat.pow_succ], ?_,
    (hkeep.setCell _ _ fun _ => .inr (.inr ⟨k, hk, by rw [hbk]⟩)).drew⟩
  rw [hs, show o.L.length - k = (o.L.length - (k + 1)) + 1 from by omega, SO.setFrom, hv, if_pos hw]

theorem SetRel.done {o : SO} {x : Nat} {w : World} {k x' v : Nat} {oc : SO} {wr : World} (h : SetRel o x w k x' oc wr) (hx : x < o.n) (hk : k < o.L.length)
    (hv : (oc.lv k).getD (x' / 64) 0 ||| 2 ^ (x' % 64) = v) (hlt : v < 18446744073709551616) (hw : ¬ v = 18446744073709551615) :
    (o.set x).At (wr.setCell ⟨oc.bk k, x' / 64, none⟩ (.int .u64 (v : Int))).drew ∧ Keeps o.own w (wr.setCell ⟨oc.bk k, x' / 64, none⟩ (.int .u64 (v : Int))).drew := by
  obtain ⟨hkl, hi⟩ := h.idx hx hk
  obtain ⟨ha, hl, hn, hb, hlb, hbk, hx', hs, hkeep⟩ := h
  refine ⟨?_, (hkeep.setCell _ _ fun _ => .inr (.inr ⟨k, hk, by rw [hbk]⟩)).drew⟩
  rw [hs, show o.L.length - k = (o.L.length - (k + 1)) + 1 from by omega, SO.setFrom, hv, if_neg hw]
  exact (ha.store k _ v hkl hlt).drew

theorem SetRel.out {o : SO} {x : Nat} {w : World} {k x' : Nat} {oc : SO} {wr : World} (h : SetRel o x w k x' oc wr) (hk : k = o.L.length) : (o.set x).At wr ∧ Keeps o.own w wr := by
  obtain ⟨ha, hl, hn, hb, hlb, hbk, hx', hs, hkeep⟩ := h
  rw [hs, hk, Nat.sub_self, SO.setFrom]
  exact ⟨ha, hkeep⟩

set_option maxHeartbeats 1000000 in
set_option maxRecDepth 100000 in
theorem set_any (o : SO) (x : Nat) (w : World) (h : o.At w) (hx : x < o.n) (ht : o.tk < o.n) :
    Calls Tryd.prog 58 #[.pointer (some ⟨o.b, 0, none⟩), .int .i64 (x : Int)] w fun e w' => e = .returned (.tuple #[]) ∧ (o.set x).At w' ∧ Keeps o.own w w' := by
  have h1 := h.c1
  have f1 := h.f1
  have h2 : (w.setCell ⟨o.b, 1, none⟩ (.int .i64 ((o.tk : Int) + 1))).cell? ⟨o.b, 2, none⟩ = some (.slice (some ⟨o.lb, 0, none⟩) o.L.length o.cap) := (h.count (o.tk + 1) ht).c2
  have hfit := h.fit
  have hfew := h.few
  have hstart := Lib.hid (SetRel.start (x := x) h ht)
  clear h
  go_enter Tryd.func58, Tryd.ntmps58
  go_wp2_with (go_at_call 62; refine (addI64_any _ _ _ _ h1 f1 (by omega) (by omega)).mono ?_; rintro e w' ⟨rfl, rfl⟩)
  clear h1 f1 h2
  go_loopw [1, 15] (fun a i wr => ∃ (k x' : Nat) (oc : SO), k ≤ o.L.length ∧ i = .int .i64 k ∧ a = .int .i64 x' ∧ SetRel o x w k x' oc wr) (fun _ i _ => o.L.length - (intOf i).toNat)
  case atStart => exact ⟨0, x, _, Nat.zero_le _, rfl, rfl, hstart.out⟩
  case round =>
    obtain ⟨k, x', oc, hk, rfl, rfl, hr⟩ := hrel
    clear hstart
    by_cases hlt : k < o.L.length
    · obtain ⟨hlt', hi⟩ := hr.idx hx hlt
      have g1 := hr.1.cl k hlt'
      have g2 := hr.1.cw k _ hlt' hi
      have g3 := hr.1.fw k (x' / 64) hlt'
      have hsm := hr.1.small k hlt'
      have hwd := hr.1.word k _ hlt' hi
      rw [hr.2.2.2.2.1] at g1
      have HR := Lib.hid hr
      clear hr
      generalize hv : (oc.lv k).getD (x' / 64) 0 = v at g2 hwd
      have HV := Lib.hid hv
      generalize hle : (oc.lv k).length = len at g1 hi hsm
      generalize hbk : oc.bk k = bk at g1 g2 g3
      have HBK := Lib.hid hbk
      clear hv hle hbk
      go_wp2
      go_region
      rw [or_word v (x' % 64) hwd (Nat.mod_lt _ (by decide))]
      have hnv := or_word_lt v (x' % 64) hwd (Nat.mod_lt _ (by decide))
      generalize hvv : v ||| 2 ^ (x' % 64) = nv at *
      have HVV := Lib.hid hvv
      clear hvv
      by_cases hw : nv = 18446744073709551615
      · have hw' : ((nv : Int) != 18446744073709551615) = false := by rw [bne_eq_false_iff_eq]; omega
        have HW := Lib.hid hw
        clear hw
        go_wp2
        refine ⟨⟨k + 1, x' / 64, oc.put k (x' / 64) nv, hlt, by go_num, by go_num, ?_⟩, by simp [intOf]; omega⟩
        rw [← HBK.out]
        exact HR.out.step hx hlt (by rw [HV.out]; exact HVV.out) hnv HW.out
      · have hw' : ((nv : Int) != 18446744073709551615) = true := by rw [bne_iff_ne]; omega
        have HW := Lib.hid hw
        clear hw
        go_wp2
        refine bodyPost_ret (results_none rfl _ _ _) rfl ?_
        rw [← HBK.out]
        exact ⟨rfl, HR.out.done hx hlt (by rw [HV.out]; exact HVV.out) hnv HW.out⟩
    · have hk' : k = o.L.length := by omega
      have HR := Lib.hid hr
      clear hr
      go_wp2
      go_end0
      exact ⟨rfl, HR.out.out hk'⟩
end Go.Proofs.YtiphdlhnoceeiaaDoor
