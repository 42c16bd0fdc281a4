/- slots: All, Take. -/
import Derived.Test.YtiphdlhnoceeiaaDoorSl3
namespace Go.Proofs.YtiphdlhnoceeiaaDoor
open Go Go.RowKit
set_option linter.unusedVariables false
set_option linter.unusedSimpArgs false

/-- A number's row. -/
def ints (l : List Nat) : List Value := l.map fun (x : Nat) => Value.int .i64 (x : Int)
theorem ints_length (l : List Nat) : (ints l).length = l.length := by simp [ints]

/-- What Next answers: a place and true, or 0 and false. -/
def NextRes (o : SO) (f : Nat) (b : Bool) (y : Nat) : Prop := (b = true ∧ NextIs o f (some y)) ∨ (b = false ∧ y = 0 ∧ NextIs o f none)
def NextPost' (o : SO) (f : Nat) (w : World) (e : Ending) (w' : World) : Prop := ∃ (b : Bool) (y : Nat), NextRes o f b y ∧ e = .returned (.tuple #[.int .i64 (y : Int), .bool b]) ∧ w = w'
theorem next_res {o : SO} {f : Nat} {w w' : World} {e : Ending} (h : NextPost o f w e w') : NextPost' o f w e w' := by
  obtain ⟨r, hr, rfl, rfl⟩ := h
  cases r with
  | none => exact ⟨false, 0, .inr ⟨rfl, rfl, hr⟩, rfl, rfl⟩
  | some y => exact ⟨true, y, .inl ⟨rfl, hr⟩, rfl, rfl⟩
theorem next_any (o : SO) (x : Int) (f : Nat) (hxf : x = f) (w : World) (h : o.At w) (hT : Tab w) :
    Calls Tryd.prog 21 #[.pointer (some ⟨o.b, 0, none⟩), .int .i64 x] w (NextPost' o f w) := by
  subst hxf
  by_cases hf : f < o.n
  · exact (next_in o f f w h hT (by omega) (.inl rfl)).mono fun _ _ h => next_res h
  · refine (next_beyond o f w h (by omega)).mono ?_
    rintro e w' ⟨rfl, rfl⟩
    exact next_res ⟨none, fun z h1 h2 => by omega, rfl, rfl⟩

/-- The taken places, ascending. -/
def SO.all (o : SO) : List Nat := (List.range o.n).filter o.bit
theorem range_to (p : Nat → Bool) (f y : Nat) (hf : f ≤ y) (hz : ∀ z, f ≤ z → z < y → p z = false) : (List.range y).filter p = (List.range f).filter p := by
  obtain ⟨d, rfl⟩ : ∃ d, y = f + d := ⟨y - f, by omega⟩
  induction d with
  | zero => rfl
  | succ d ih =>
    rw [show f + (d + 1) = (f + d) + 1 from by omega, List.range_succ, List.filter_append, ih (by omega) (fun z h1 h2 => hz z h1 (by omega))]
    simp [hz (f + d) (by omega) (by omega)]
theorem all_step {o : SO} {f y : Nat} (h : NextIs o f (some y)) : (List.range (y + 1)).filter o.bit = (List.range f).filter o.bit ++ [y] := by
  rw [List.range_succ, List.filter_append, range_to o.bit f y h.1 h.2.2.2]
  simp [h.2.2.1]
theorem all_end {o : SO} {f : Nat} (h : NextIs o f none) (hf : f ≤ o.n) : o.all = (List.range f).filter o.bit := range_to o.bit f o.n hf h

theorem info3 : (Tryd.prog.info? 3).map (fun i => (i.zero, i.size, i.bytes)) = some (some (.int .i64 0), 1, 8) := by kernel_rfl
def AllRel (o : SO) (w : World) (f : Nat) (b : Bool) (y : Nat) (v : Value) (wr : World) : Prop :=
  f ≤ o.n ∧ NextRes o f b y ∧ wr.ownsRow w.heap.size 3 1 v ((List.range f).filter o.bit).length (ints ((List.range f).filter o.bit)) ∧ Keeps (fun _ => False) w wr
theorem filter_len (p : Nat → Bool) (n : Nat) : ((List.range n).filter p).length ≤ n := by
  have := List.length_filter_le p (List.range n); simpa using this
theorem AllRel.grow {o : SO} {w : World} {f y : Nat} {v v' : Value} {wr w1 : World} (h : AllRel o w f true y v wr)
    (hown : w1.ownsRow w.heap.size 3 1 v' (((List.range f).filter o.bit).length + 1) (ints ((List.range f).filter o.bit) ++ [.int .i64 (y : Int)]))
    (hg : Keeps (fun k => v.ownBlock = some k) wr w1) :
    w1.ownsRow w.heap.size 3 1 v' ((List.range (y + 1)).filter o.bit).length (ints ((List.range (y + 1)).filter o.bit)) ∧ Keeps (fun _ => False) w w1 := by
  obtain ⟨_, hr, ho, hk⟩ := h
  replace hr : NextIs o f (some y) := by rcases hr with hr | hr <;> simp_all [NextRes]
  refine ⟨?_, hk.trans hg fun i hi e => ?_⟩
  · rw [all_step hr]; simpa [ints] using hown
  · have := ho.lt i e; omega

def measB (n : Nat) (a i : Value) : Nat := match i with | .bool true => n + 1 - (intOf a).toNat | _ => 0

def AllPost (o : SO) (w : World) (e : Ending) (w' : World) : Prop :=
  ∃ v, e = .returned v ∧ w'.ownsRow w.heap.size 3 1 v o.all.length (ints o.all) ∧ Keeps (fun _ => False) w w'

set_option maxHeartbeats 1000000 in
set_option maxRecDepth 100000 in
theorem all_any (o : SO) (w : World) (h : o.At w) (hT : Tab w) :
    Calls Tryd.prog 24 #[.pointer (some ⟨o.b, 0, none⟩)] w (AllPost o w) := by
  obtain ⟨i0, hi, hz0, hz1, hz2⟩ := info_parts info3
  have hfit := h.fit
  have H := Lib.hid h
  have HT := Lib.hid hT
  clear h hT
  have hn0 : Hid (Calls Tryd.prog 21 #[.pointer (some ⟨o.b, 0, none⟩), .int .i64 0] w (NextPost' o 0 w)) := next_any o 0 0 rfl w H.out HT.out
  go_enter Tryd.func24, Tryd.ntmps24
  go_wp2_with (go_at_call 21; refine (hn0.out).mono ?_; rintro e w' ⟨b1, y1, hr, rfl, rfl⟩)
  clear hn0
  have hst := Lib.hid (show AllRel o w 0 b1 y1 (.slice none 0 0) w from ⟨Nat.zero_le _, hr, World.ownsRow_nil _ _ _ _, Keeps.refl _ _⟩)
  clear hr
  go_loopw [3, 4, 5] (fun l a i wr => ∃ (f : Nat) (b : Bool) (y : Nat), a = .int .i64 (y : Int) ∧ i = .bool b ∧ AllRel o w f b y l wr) (fun _ a i _ => measB o.n a i)
  case atStart => exact ⟨0, b1, y1, rfl, rfl, hst.out⟩
  case round =>
    obtain ⟨f, b, y, rfl, rfl, hrel⟩ := hrel
    clear hst
    cases b with
    | false =>
      have hfin := Lib.hid hrel
      clear hrel
      go_wp2_with fail
      go_ret
      obtain ⟨h1, h2, h3, h4⟩ := hfin.out
      refine ⟨_, rfl, ?_, h4⟩
      have h2' : NextIs o f none := by rcases h2 with h2 | h2 <;> simp_all
      rw [all_end h2' h1]
      exact h3
    | true =>
      have hown := hrel.2.2.1
      have hnx : NextIs o f (some y) := by rcases hrel.2.1 with h2 | h2 <;> simp_all
      have hy := hnx.2.1
      have hlen := filter_len o.bit f
      have hfn := hrel.1
      have hwsz := hrel.2.2.2.size
      have HR := Lib.hid hrel
      clear hrel hnx
      go_wp2_with (first | (at_builtin; refine wpList_app1 rfl _ _ 22 rfl w.heap.size 3 i0 (.int .i64 0) 1 8 Tryd.underlying22 hi hz0 hz1 hz2 rfl (by decide) _ _ _ rfl hown _ 1 1 [.int .i64 (y : Int)] 3 rfl rfl rfl ?c1 ?c2 ?c3 ?c4 ?_))
      case c1 => simp [Value.oneCell']
      case c2 => unfold maxLen; omega
      case c3 => omega
      case c4 => exact hwsz
      intro v1 w1 ho hk _ _ _
      have hgr := Lib.hid (HR.out.grow ho hk)
      have hnx2 := Lib.hid (next_any o ((y : Int) + 1) (y + 1) (by omega) w1 (H.out.kept hgr.out.2 (fun _ _ => id)) (HT.out.kept hgr.out.2 id))
      clear ho hk hown
      go_wp2_with (go_at_call 21; refine (hnx2.out).mono ?_; rintro e w' ⟨b2, y2, hr2, rfl, rfl⟩)
      refine ⟨⟨y + 1, b2, y2, rfl, rfl, by omega, by assumption, hgr.out⟩, ?_⟩
      have hr2' : NextRes o (y + 1) b2 y2 := by assumption
      rcases hr2' with ⟨rfl, h⟩ | ⟨rfl, _, _⟩
      · have := h.1; have := h.2.1; simp [measB, intOf]; omega
      · simp [measB, intOf]; omega

theorem not_word (v : Nat) (hv : v < 18446744073709551616) : bits BinOp.xor IntKind.u64 IntKind.u64.max (v : Int) = ((18446744073709551615 - v : Nat) : Int) := by
  rw [show IntKind.u64.max = ((18446744073709551615 : Nat) : Int) from rfl, u64_xor_nat _ _ (by decide) hv]
  congr 1
  refine eq_of_bits _ _ (Nat.xor_lt_two_pow (n := 64) (by decide) hv) (by omega) fun j hj => ?_
  rw [Nat.testBit_xor, whole_bit, compl_bit v j hv hj]
  simp [hj]

theorem take_nil (w : World) :
    Calls Tryd.prog 33 #[.pointer none] w fun e w' => e = .returned (.tuple #[.int .i64 0, errno 1]) ∧ w = w' := by
  go_enter Tryd.func33, Tryd.ntmps33
  go_wp2_with fail
  go_ret2
  exact ⟨rfl, rfl⟩

theorem len_quiet (o : SO) (w : World) (h : o.At w) (n : Nat) :
    Calls Tryd.prog 26 #[.pointer (some ⟨o.b, 0, none⟩)] (w.drewN n) fun e w' => e = .returned (.int .i64 (o.tk : Int)) ∧ w' = w.drewN n :=
  (len_any o _ (h.drewN n)).mono fun _ _ ⟨a, b⟩ => ⟨a, b.symm⟩

theorem take_full (o : SO) (w : World) (h : o.At w) (hf : o.tk = o.n) :
    Calls Tryd.prog 33 #[.pointer (some ⟨o.b, 0, none⟩)] w fun e w' => e = .returned (.tuple #[.int .i64 0, errno 16]) ∧ ∃ n, w' = w.drewN n := by
  have h0 := h.c0
  have hlq := Lib.hid (len_quiet o w h)
  have hfit := h.fit
  have hd : (o.tk : Int) == (o.n : Int) := by rw [beq_iff_eq]; omega
  clear h hf
  go_enter Tryd.func33, Tryd.ntmps33
  go_wp2_with fail
  go_quiet ((go_at_call 26; exact Calls.quiet_of_same (hlq.out _)))
  go_wp2_with fail
  go_ret2
  exact ⟨rfl, _, rfl⟩

set_option maxHeartbeats 1000000 in
set_option maxRecDepth 100000 in
theorem take_set (o : SO) (w : World) (h : o.At w) (hT : Tab w) (hf : o.tk < o.n) (hway : ∀ j, j < o.L.length → o.top (j + 1) < (o.lv j).length) (hat : o.top 0 < o.n) :
    Calls Tryd.prog 33 #[.pointer (some ⟨o.b, 0, none⟩)] w fun e w' => e = .returned (.tuple #[.int .i64 (o.top 0 : Nat), .nilIface]) ∧ (o.set (o.top 0)).At w' ∧ Keeps o.own w w' := by
  have h0 := h.c0
  have h2 := h.c2
  have hlq := Lib.hid (len_quiet o w h)
  have hfit := h.fit
  have hfew := h.few
  have hd : ((o.tk : Int) == (o.n : Int)) = false := by rw [beq_eq_false_iff_ne]; omega
  have H := Lib.hid h
  have HT := Lib.hid hT
  have HW := Lib.hid hway
  clear h hT hway
  go_enter Tryd.func33, Tryd.ntmps33
  go_wp2_with fail
  go_quiet ((go_at_call 26; exact Calls.quiet_of_same (hlq.out _)))
  go_wp2_with fail
  clear hd hlq h0 h2
  obtain ⟨wq, hwq⟩ : ∃ wq, wq = w.drewN nq := ⟨_, rfl⟩
  have HWQ := Lib.hid hwq
  rw [← hwq]
  clear hwq
  have H' : Hid (o.At wq) := by rw [HWQ.out]; exact H.out.drewN _
  have HT' : Hid (Tab wq) := by rw [HWQ.out]; exact HT.out
  have hst : Hid (o.top o.L.length = 0) := o.top_end _ (Nat.le_refl _)
  go_loopw [4, 5] (fun a i wr => wq = wr ∧ ∃ (j t : Nat) (q : Int), j ≤ o.L.length ∧ a = .int .i64 (t : Int) ∧ i = .int .i64 q ∧ Hid (q = (j : Int) - 1) ∧ Hid (t = o.top j)) (fun _ i _ => (intOf i + 1).toNat)
  case atStart => exact ⟨rfl, o.L.length, 0, _, Nat.le_refl _, rfl, rfl, rfl, by rw [hst.out]; rfl⟩
  case round =>
    obtain ⟨rfl, j, tt, q, hj, rfl, rfl, hq, ht⟩ := hrel
    have h2 := H'.out.c2
    cases j with
    | zero =>
      obtain rfl : q = -1 := by rw [hq.out]; rfl
      have hs := Lib.hid (set_any o tt wq H'.out (by rw [ht.out]; exact hat) hf)
      go_wp2_with (go_at_call 58; refine (hs.out).mono ?_; rintro e w1 ⟨rfl, hA, hK⟩)
      go_ret2
      rw [← ht.out]
      refine ⟨rfl, by assumption, ?_⟩
      have hK : Keeps o.own wq w1 := by assumption
      rw [HWQ.out] at hK
      exact ((Keeps.refl _ _).drewN nq).trans' hK
    | succ k =>
      obtain rfl : q = (k : Int) := by rw [hq.out]; omega
      have g1 := H'.out.cl k (by omega)
      have hi : tt < (o.lv k).length := by rw [ht.out]; exact HW.out k (by omega)
      have g2 := H'.out.cw k tt (by omega) hi
      have hsm := H'.out.small k (by omega)
      have hwd := H'.out.word k tt (by omega) hi
      have hstep : Hid (o.top k = tt * 64 + Lib.ctz 64 (18446744073709551615 - (o.lv k).getD tt 0)) := by show o.top k = _; rw [o.top_step k (by omega), ht.out]
      generalize (o.lv k).length = len at g1 hi hsm
      generalize (o.lv k).getD tt 0 = v at g2 hwd hstep
      have hnw := Lib.hid (not_word v hwd)
      have hz : 18446744073709551615 - v < 18446744073709551616 := by omega
      generalize 18446744073709551615 - v = z at *
      have htz := Lib.hid (tz_any z hz wq HT'.out)
      have hcb : Lib.ctz 64 z ≤ 64 := by
        by_cases hz0 : z = 0
        · rw [hz0, ctz_zero]; decide
        · exact Nat.le_of_lt (ctz_bit z hz0 hz).2.2
      generalize Lib.ctz 64 z = c at *
      go_wp2_with fail
      rw [hnw.out]
      refine (htz.out).mono ?_
      rintro e w1 ⟨rfl, rfl⟩
      clear htz hnw
      go_wp2_with fail
      refine ⟨⟨trivial, k, tt * 64 + c, _, by omega, by go_num, rfl, rfl, hstep.out.symm⟩, by simp [intOf]⟩
end Go.Proofs.YtiphdlhnoceeiaaDoor
