/- sphere: Count, Flat. -/
import Derived.Test.YtdplphhlclhmfaaDoorSpD
namespace Go.Proofs.YtdplphhlclhmfaaDoor
open Go Go.RowKit Go.Maps
set_option linter.unusedVariables false
set_option linter.unusedSimpArgs false
set_option maxRecDepth 100000

/-- A range under way: whose keys p are still to come. -/
structure RngAt (wr : World) (b r N : Nat) (M : Nat → Option Cnt3) (p : Nat → Bool) (cnt : Nat) : Prop where
  ex : ∃ n D left, wr.ranges Tryd.prog 3 cntElem b r n D left cnt ∧ (∀ k : Nat, k < N → tells D (.int .i64 (k : Int)) (M k)) ∧ (∀ k : Nat, k < N → left (.int .i64 (k : Int)) = (p k && (M k).isSome)) ∧ ∀ l, left l = true → ∃ k : Nat, k < N ∧ l = .int .i64 (k : Int)
  hN : N ≤ 1048576
section
variable {w wr w1 : World} {b r N n cnt : Nat} {M : Nat → Option Cnt3} {p : Nat → Bool}
theorem RngAt.kept {fp : Nat → Prop} (h : RngAt wr b r N M p cnt) (hk : Keeps fp wr w1) (hb : ¬ fp b) (hr : ¬ fp r) : RngAt w1 b r N M p cnt := by
  obtain ⟨⟨n, D, left, h1, h2⟩, h3⟩ := h
  refine ⟨⟨n, D, left, ?_, h2⟩, h3⟩
  have hbl := h1.owns.lt
  have hrl := h1.lt
  obtain ⟨es, clock, since, seen, c0, q1, q2, q3, q4, q5, q6⟩ := h1
  exact ⟨es, clock, since, seen, c0, by rw [hk.block b hbl hb]; exact q1, q2, q3, q4, by rw [hk.block r hrl hr]; exact q5, q6⟩
theorem RngAt.left (h : RngAt wr b r N M p cnt) : wr.rangeLeft b r = cnt := by
  obtain ⟨⟨n, D, left, h1, h2⟩, h3⟩ := h
  exact h1.left_eq
theorem RngAt.start (h : MapAt w b n N M) : ∃ w' cnt, (Instr.range 84 (.map (some b))).run Tryd.prog w = .ok (.pointer (some ⟨w.heap.size, 0, none⟩)) w' ∧ RngAt w' b w.heap.size N M (fun _ => true) cnt ∧ Keeps (fun _ => False) w w' := by
  obtain ⟨D, h1, h2, h3, h4⟩ := h
  obtain ⟨w', hr, hg, hn, _⟩ := h1.range mapKeys Tryd.underlying84
  refine ⟨w', _, hr, ⟨⟨n, D, _, hg, h2, fun k hk => ?_, h3⟩, h4⟩, (keeps_grown hn).mono fun i _ e => by cases e⟩
  have := h2 k hk
  cases hm : M k with
  | none => rw [hm] at this; exact this
  | some x => rw [hm] at this; exact this.1
theorem RngAt.next (h : RngAt wr b r N M p cnt) (ty : TypeId) :
    ((∀ k, k < N → p k = true → M k = none) ∧ (Instr.next (.pointer (some ⟨r, 0, none⟩)) false ty).run Tryd.prog wr = .ok (.tuple #[.bool false]) wr) ∨
    ∃ (k : Nat) (x : Cnt3) (w' : World) (cnt' : Nat), k < N ∧ p k = true ∧ M k = some x ∧ (Instr.next (.pointer (some ⟨r, 0, none⟩)) false ty).run Tryd.prog wr = .ok (.tuple #[.bool true, .int .i64 (k : Int), cagg x 0]) w' ∧
      RngAt w' b r N M (fun z => p z && !decide (z = k)) cnt' ∧ cnt' < cnt ∧ Keeps (fun q => q = r) wr w' ∧ (Instr.entry (.pointer (some ⟨r, 0, none⟩))).run Tryd.prog w' = .ok (.tuple #[.int .i64 (k : Int), cagg x 0]) w' := by
  obtain ⟨⟨n, D, left, h1, h2, h3, h4⟩, hN⟩ := h
  rcases h1.next mapKeys ty with ⟨h0, hl, hrun⟩ | ⟨key, v, kl, y, w', cnt', hkey, hlk, hv, hat, hrun, hrg, hlt, hgr, hsz, hen⟩
  · refine Or.inl ⟨fun k hk hp => ?_, hrun⟩
    have := h3 k hk
    rw [hl, hp, Bool.true_and] at this
    cases hm : M k with
    | none => rfl
    | some x => rw [hm] at this; cases this
  · obtain ⟨k, hk, rfl⟩ := h4 kl hlk
    obtain ⟨a, rfl, e, _⟩ := Maps.keyOf_int_inv Tryd.underlying3 hkey
    obtain rfl : (k : Int) = a := by injection e
    obtain ⟨x, rfl, rfl⟩ := cntElem_inv hv
    have hp := h3 k hk
    rw [hlk] at hp
    have hp2 : p k = true ∧ (M k).isSome = true := by simpa using hp.symm
    obtain ⟨z, hz⟩ := Option.isSome_iff_exists.1 hp2.2
    have ht := h2 k hk
    rw [hz] at ht
    obtain rfl : x = z := by
      have e1 := hat (.lit (.bool true))
      rw [ht.2] at e1
      exact (cdat_inj e1).symm
    refine Or.inr ⟨k, x, w', cnt', hk, hp2.1, hz, hrun, ⟨⟨n, D, _, hrg, h2, fun z hz => ?_, fun l hl => h4 l (by simpa using (Bool.and_eq_true _ _ ▸ hl).1)⟩, hN⟩, hlt, (keeps_grown hgr).mono fun i _ e => (Option.some.inj e).symm, hen⟩
    rw [h3 z hz]
    have hs : (Lit.int .i64 (z : Int)).sameKey (.int .i64 (k : Int)) = decide (z = k) := by
      rw [Bool.eq_iff_iff, WideAt.sameKey_iff (keyLit (by omega)), decide_eq_true_eq]
      constructor
      · intro q; injection q with _ q2; omega
      · intro q; rw [q]
    rw [hs]
    cases p z <;> cases (M z).isSome <;> cases decide (z = k) <;> rfl
end
/-! Bounds of sums. -/
theorem sumM_bound {M : Nat → Option Cnt3} (h : ∀ k, CntOk ((M k).getD (0, 0, 0))) (p : Nat → Bool) : ∀ n, 0 ≤ (sumM M p n).1 ∧ (sumM M p n).1 ≤ 4398046511104 * (n : Int) ∧ 0 ≤ (sumM M p n).2.1 ∧ (sumM M p n).2.1 ≤ 4398046511104 * (n : Int) ∧ 0 ≤ (sumM M p n).2.2.1 ∧ (sumM M p n).2.2.1 ≤ 4398046511104 * (n : Int) ∧ 0 ≤ (sumM M p n).2.2.2 ∧ (sumM M p n).2.2.2 ≤ 4398046511104 * (n : Int)
  | 0 => by simp [sumM]
  | n + 1 => by
    obtain ⟨h1, h2, h3, h4, h5, h6, h7, h8⟩ := sumM_bound h p n
    have hx := h n
    unfold sumM
    cases hm : (if p n = true then M n else none) with
    | none => simp only; omega
    | some x =>
      have : M n = some x := by
        split at hm
        · exact hm
        · cases hm
      rw [this] at hx
      simp only [Option.getD_some] at hx
      obtain ⟨q1, q2, q3, q4, q5, q6⟩ := hx
      simp only
      omega
/-- The sum so far, and what is to come, are all. -/
def Acc (M : Nat → Option Cnt3) (N : Nat) (p : Nat → Bool) (a : Int × Int × Int × Int) : Prop :=
  0 ≤ a.1 ∧ 0 ≤ a.2.1 ∧ 0 ≤ a.2.2.1 ∧ 0 ≤ a.2.2.2 ∧ a.1 + (sumM M p N).1 = (cntM M N).1 ∧ a.2.1 + (sumM M p N).2.1 = (cntM M N).2.1 ∧ a.2.2.1 + (sumM M p N).2.2.1 = (cntM M N).2.2.1 ∧ a.2.2.2 + (sumM M p N).2.2.2 = (cntM M N).2.2.2
theorem Acc.start (M : Nat → Option Cnt3) (N : Nat) : Acc M N (fun _ => true) (0, 0, 0, 0) := by
  unfold Acc cntM
  simp only
  omega
theorem Acc.step {M : Nat → Option Cnt3} {N : Nat} {p : Nat → Bool} {a : Int × Int × Int × Int} (h : Acc M N p a) (hM : ∀ k, CntOk ((M k).getD (0, 0, 0))) {k : Nat} {x : Cnt3} (hk : k < N) (hp : p k = true) (hx : M k = some x) :
    Acc M N (fun z => p z && !decide (z = k)) (a.1 + x.1, a.2.1 + x.2.1 / 2, a.2.2.1 + x.2.2, a.2.2.2 + 1) := by
  obtain ⟨h1, h2, h3, h4, h5, h6, h7, h8⟩ := h
  have hs := sumM_strike (M := M) (p := p) (q := fun z => p z && !decide (z = k)) hp (by simp) hx hk (fun z hz hne => by simp [hne])
  rw [hs] at h5 h6 h7 h8
  have hc := hM k
  rw [hx] at hc
  simp only [Option.getD_some] at hc
  obtain ⟨q1, q2, q3, q4, q5, q6⟩ := hc
  unfold Acc
  simp only at *
  omega
theorem Acc.all {M : Nat → Option Cnt3} {N : Nat} {p : Nat → Bool} {a : Int × Int × Int × Int} (h : Acc M N p a) (hp : ∀ k, k < N → p k = true → M k = none) : a = cntM M N := by
  have h0 : ∀ n, n ≤ N → sumM M p n = (0, 0, 0, 0) := by
    intro n hn
    induction n with
    | zero => rfl
    | succ n ih =>
      unfold sumM
      rw [ih (by omega)]
      by_cases e : p n = true
      · rw [if_pos e, hp n (by omega) e]
      · rw [if_neg e]
  obtain ⟨h1, h2, h3, h4, h5, h6, h7, h8⟩ := h
  rw [h0 N (Nat.le_refl _)] at h5 h6 h7 h8
  obtain ⟨a1, a2, a3, a4⟩ := a
  simp only [Int.add_zero] at h5 h6 h7 h8
  rw [h5, h6, h7, h8]
def qagg (a : Int × Int × Int × Int) : Value := .agg #[.int .i64 a.1, .int .i64 a.2.1, .int .i64 a.2.2.1, .int .i64 a.2.2.2]
theorem Blk.put4 {w : World} {b : Nat} {x y z u : Value} {t : TypeId} (h : Blk w b #[x, y, z, u] t) (x' y' z' u' : Value) : Blk ((((w.setCell ⟨b, 0, none⟩ x').setCell ⟨b, 1, none⟩ y').setCell ⟨b, 2, none⟩ z').setCell ⟨b, 3, none⟩ u') b #[x', y', z', u'] t := by
  have := (((h.set 0 x').set 1 y').set 2 z').set 3 u'
  simpa using this
theorem Keeps.put4 {fp : Nat → Prop} {w wr : World} {b : Nat} (h : Keeps fp w wr) (hb : fp b) (x' y' z' u' : Value) : Keeps fp w ((((wr.setCell ⟨b, 0, none⟩ x').setCell ⟨b, 1, none⟩ y').setCell ⟨b, 2, none⟩ z').setCell ⟨b, 3, none⟩ u') :=
  (((h.setIn b 0 x' hb).setIn b 1 y' hb).setIn b 2 z' hb).setIn b 3 u' hb
theorem Keeps.new {fp : Nat → Prop} {w wr w1 : World} (h : Keeps (fun _ => False) w wr) (hk : Keeps fp wr w1) (hl : ∀ q, fp q → w.heap.size ≤ q) : Keeps (fun _ => False) w w1 :=
  h.trans hk fun i hi e => by have := hl i e; omega
section
variable {w : World} {own : Nat → Prop} {p E : Nat} {L : List (List Nat)}
theorem scount_err (h : Tu w own p E L) (a : Option Addr) (c : Nat) (l : List Int) (hr : Rd w a (i64s l)) (hl : l.length ≤ 4000000) (hc : chk12 L l ≠ 0) :
    Calls Tryd.prog 12 #[tptr p, .slice a l.length c] w (RetPost (.tuple #[qagg (0, 0, 0, 0), errVal (chk12 L l)]) w) := by
  have hk0 : Keeps (fun _ => False) w (w.alloc (.cells #[.int .i64 0, .int .i64 0, .int .i64 0, .int .i64 0] 32)) := (Keeps.refl _ _).alloc _
  have HC := Lib.hid (seach_err (h.keep hk0) a c l (hr.keep hk0) hl hc)
  have HB0 : Hid (Blk (w.alloc (.cells #[.int .i64 0, .int .i64 0, .int .i64 0, .int .i64 0] 32)) w.heap.size #[.int .i64 0, .int .i64 0, .int .i64 0, .int .i64 0] 32) := Lib.hid (Blk.new _ _ _)
  have HK0 := Lib.hid hk0
  rw [errVal_pos hc] at HC ⊢
  clear h hr hc hk0
  unfold RetPost tptr qagg at *
  go_enter Tryd.func12, Tryd.ntmps12
  go_upto_region 1 with fail
  generalize World.alloc w _ = w0 at *
  go_wp2_with fail
  with_reducible refine HC.out.mono ?_
  rintro e w1 ⟨rfl, hk⟩
  have HK := Lib.hid (HK0.out.trans' hk)
  have hb := HB0.out.kept hk id
  have HB := Lib.hid hb
  obtain ⟨c0, c1, c2, c3⟩ := hb.cells4
  have f0 := hb.free 0
  have f1 := hb.free 1
  have f2 := hb.free 2
  have f3 := hb.free 3
  clear hk HC hb HB0 HK0
  go_wp2_with fail
  have HB6 := Lib.hid (HB.out.put4 (.int .i64 0) (.int .i64 0) (.int .i64 0) (.int .i64 0))
  have HK6 := Lib.hid (HK.out.new ((Keeps.refl (fun q => q = w.heap.size) w1).put4 rfl (.int .i64 0) (.int .i64 0) (.int .i64 0) (.int .i64 0)) fun q e => by omega)
  generalize World.setCell _ _ _ = w6 at *
  obtain ⟨k0, k1, k2, k3⟩ := HB6.out.cells4
  refine bodyPost_ret (v := .tuple #[.agg #[.int .i64 0, .int .i64 0, .int .i64 0, .int .i64 0], .iface 87 (.int .i64 (chk12 L l : Nat))]) (by simp [results, Tryd.results12, go_sem, k0, k1, k2, k3]) rfl ?_
  exact ⟨rfl, HK6.out⟩
/-- Counting under way. -/
structure CntAt (w : World) (b r ob rb N : Nat) (M : Nat → Option Cnt3) (wr : World) (p : Nat → Bool) (cnt : Nat) (a : Int × Int × Int × Int) : Prop where
  rng : RngAt wr b r N M p cnt
  out : Blk wr ob #[.int .i64 a.1, .int .i64 a.2.1, .int .i64 a.2.2.1, .int .i64 a.2.2.2] 32
  res : Blk wr rb #[.int .i64 0, .int .i64 0, .int .i64 0, .int .i64 0] 32
  keeps : Keeps (fun _ => False) w wr
  acc : Acc M N p a
  low : w.heap.size ≤ rb ∧ rb < b ∧ b < ob ∧ ob < r
theorem CntAt.left {w : World} {b r ob rb N : Nat} {M : Nat → Option Cnt3} {wr : World} {p : Nat → Bool} {cnt : Nat} {a : Int × Int × Int × Int} (h : CntAt w b r ob rb N M wr p cnt a) : wr.rangeLeft b r = cnt := h.rng.left
theorem CntAt.kept {w : World} {b r ob rb N : Nat} {M : Nat → Option Cnt3} {wr w1 : World} {p : Nat → Bool} {cnt : Nat} {a : Int × Int × Int × Int} (h : CntAt w b r ob rb N M wr p cnt a) (hk : Keeps (fun _ => False) wr w1) : CntAt w b r ob rb N M w1 p cnt a :=
  ⟨h.rng.kept hk id id, h.out.kept hk id, h.res.kept hk id, h.keeps.trans' hk, h.acc, h.low⟩
set_option maxHeartbeats 4000000 in
theorem scount (h : Tu w own p E L) (hg : Good E L) (a : Option Addr) (c : Nat) (m : List Nat) (hr : Rd w a (i64s (intsN m))) (hl : m.length ≤ 1048576) (hc : chk12 L (intsN m) = 0) (hm : ∀ v ∈ m, v < L.length) :
    Calls Tryd.prog 12 #[tptr p, .slice a m.length c] w (RetPost (.tuple #[qagg (cntM (eachM L (grp L E) m (faces L E)) L.length), .nilIface]) w) := by
  have hV := h.v2
  have hk0 : Keeps (fun _ => False) w (w.alloc (.cells #[.int .i64 0, .int .i64 0, .int .i64 0, .int .i64 0] 32)) := (Keeps.refl _ _).alloc _
  have HC := Lib.hid (seach (h.keep hk0) hg a c m (hr.keep hk0) hl hc hm)
  have HB0 : Hid (Blk (w.alloc (.cells #[.int .i64 0, .int .i64 0, .int .i64 0, .int .i64 0] 32)) w.heap.size #[.int .i64 0, .int .i64 0, .int .i64 0, .int .i64 0] 32) := Lib.hid (Blk.new _ _ _)
  have HK0 := Lib.hid hk0
  generalize eachM L (grp L E) m (faces L E) = M at *
  generalize L.length = N at *
  clear h hg hr hc hm hk0
  unfold RetPost EachPost tptr at *
  go_enter Tryd.func12, Tryd.ntmps12
  go_upto_region 1 with fail
  generalize World.alloc w _ = w0 at *
  go_wp2_with fail
  with_reducible refine HC.out.mono ?_
  rintro e w1 ⟨b, n, rfl, hma, hlow, hcn, hk⟩
  have hrb : Hid (w.heap.size < b) := Lib.hid (Nat.lt_of_lt_of_le HB0.out.lt hlow)
  have HK1 := Lib.hid (HK0.out.trans' hk)
  have HB1 := Lib.hid (HB0.out.kept hk id)
  have HM1 := Lib.hid hma
  have HCN := Lib.hid hcn
  clear hk HC HB0 HK0 hma hcn hlow
  go_upto_region 5 with fail
  have hk2 : Keeps (fun _ => False) w1 (w1.alloc (.cells #[.int .i64 0, .int .i64 0, .int .i64 0, .int .i64 0] 32)) := (Keeps.refl _ _).alloc _
  have HO2 : Hid (Blk (w1.alloc (.cells #[.int .i64 0, .int .i64 0, .int .i64 0, .int .i64 0] 32)) w1.heap.size #[.int .i64 0, .int .i64 0, .int .i64 0, .int .i64 0] 32) := Lib.hid (Blk.new _ _ _)
  have HB2 := Lib.hid (HB1.out.kept hk2 id)
  have HM2 := Lib.hid (HM1.out.keep hk2)
  have HK2 := Lib.hid (HK1.out.trans' hk2)
  have HLB := Lib.hid HM1.out.lt
  clear hk2 HB1 HM1 HK1
  generalize World.alloc w1 _ = w2 at *
  generalize w1.heap.size = ob at *
  generalize hrbe : w.heap.size = rb at *
  obtain ⟨w3, cnt0, hrun, hr3, hk3⟩ := RngAt.start HM2.out
  have HOL := Lib.hid HO2.out.lt
  have HS0 : Hid (CntAt w b w2.heap.size ob rb N M w3 (fun _ => true) cnt0 (0, 0, 0, 0)) := Lib.hid ⟨hr3, HO2.out.kept hk3 id, HB2.out.kept hk3 id, HK2.out.trans' hk3, Acc.start M N, by omega, hrb.out, HLB.out, HOL.out⟩
  clear hr3 hk3 HO2 HB2 HK2 HM2 hrbe
  go_upto_block 0 with fail
  clear hrun hrb HLB HOL
  generalize w2.heap.size = r at *
  go_wp2_with fail
  go_loopw [] (fun wr => ∃ (q : Nat → Bool) (cnt : Nat) (ac : Int × Int × Int × Int), Hid (CntAt w b r ob rb N M wr q cnt ac)) (fun wr => wr.rangeLeft b r)
  case atStart => exact ⟨_, _, _, HS0⟩
  case round =>
    obtain ⟨q, cnt, ac, HS⟩ := hrel
    clear HS0
    rcases HS.out.rng.next 0 with ⟨hdone, hrun⟩ | ⟨k, x, w4, cnt', hk, hp, hx, hrun, hrg, hlt, hkr, hen⟩
    · as_aux_lemma =>
      have hall := HS.out.acc.all hdone
      rw [hall] at HS
      have HB := Lib.hid HS.out.res
      have HK := Lib.hid HS.out.keeps
      obtain ⟨d0, d1, d2, d3⟩ := HS.out.out.cells4
      have f0 := HS.out.res.free 0
      have f1 := HS.out.res.free 1
      have f2 := HS.out.res.free 2
      have f3 := HS.out.res.free 3
      obtain ⟨c0, c1, c2, c3⟩ := HS.out.res.cells4
      have hlow := HS.out.low
      clear hdone HS HCN hall
      unfold qagg at *
      generalize hT : cntM M N = T at *
      obtain ⟨t1, t2, t3, t4⟩ := T
      have HT := Lib.hid hT
      clear hT
      go_wp2_with fail
      have HB6 := Lib.hid (HB.out.put4 (.int .i64 t1) (.int .i64 t2) (.int .i64 t3) (.int .i64 t4))
      have HK6 := Lib.hid (HK.out.new ((Keeps.refl (fun q => q = rb) wr).put4 rfl (.int .i64 t1) (.int .i64 t2) (.int .i64 t3) (.int .i64 t4)) fun q e => by omega)
      generalize World.setCell _ _ _ = w6 at *
      obtain ⟨k0, k1, k2, k3⟩ := HB6.out.cells4
      refine bodyPost_ret (v := .tuple #[.agg #[.int .i64 t1, .int .i64 t2, .int .i64 t3, .int .i64 t4], .nilIface]) (by simp [results, Tryd.results12, go_sem, k0, k1, k2, k3]) rfl ?_
      exact ⟨by rw [HT.out]; rfl, HK6.out⟩
    · as_aux_lemma =>
      have hlow := HS.out.low
      have hleft := HS.out.left
      have ha2 := HS.out.acc.step HCN.out hk hp hx
      have hxc := HCN.out k
      rw [hx] at hxc
      obtain ⟨x1, x2, x3⟩ := x
      obtain ⟨a1, a2, a3, a4⟩ := ac
      obtain ⟨y1, y2, y3, y4, y5, y6⟩ := hxc
      simp only [Option.getD_some] at y1 y2 y3 y4 y5 y6
      have hb1 := sumM_bound HCN.out (fun _ => true) N
      have hb2 := sumM_bound HCN.out (fun z => q z && !decide (z = k)) N
      have ha3 := ha2
      obtain ⟨z1, z2, z3, z4, z5, z6, z7, z8⟩ := ha3
      have hAC := HS.out.acc
      obtain ⟨v1, v2, v3, v4, _⟩ := hAC
      have hNN := HS.out.rng.hN
      unfold cntM at z5 z6 z7 z8
      simp only at z1 z2 z3 z4 z5 z6 z7 z8 v1 v2 v3 v4
      have hbd : a1 + x1 ≤ 4611686018427387904 ∧ a2 + x2 / 2 ≤ 4611686018427387904 ∧ a3 + x3 ≤ 4611686018427387904 ∧ a4 + 1 ≤ 4611686018427387904 := by omega
      obtain ⟨g1, g2, g3, g4⟩ := hbd
      have hq : wrap64 (x2.tdiv 2) = x2 / 2 := by
        rw [Int.tdiv_eq_ediv_of_nonneg y3]
        unfold wrap64; omega
      have y7 : 0 ≤ x2 / 2 := by omega
      have HA2 := Lib.hid ha2
      clear hb1 hb2 z1 z2 z3 z4 z5 z6 z7 z8 ha2 HCN hNN
      unfold cagg at hrun hen
      have H4 : Hid (CntAt w b r ob rb N M wr q cnt (a1, a2, a3, a4) ∧ RngAt w4 b r N M (fun z => q z && !decide (z = k)) cnt' ∧ Keeps (fun q => q = r) wr w4 ∧ cnt' < cnt) := Lib.hid ⟨HS.out, hrg, hkr, hlt⟩
      clear HS hrg hkr hlt
      go_upto_region 8 with fail
      have HX5 := Blk.new w4 #[.int .i64 x1, .int .i64 x2, .int .i64 x3, .int .i64 0] 32
      have HO5 := Lib.hid ((H4.out.1.out.kept H4.out.2.2.1 (by omega)).alloc (.cells #[.int .i64 x1, .int .i64 x2, .int .i64 x3, .int .i64 0] 32))
      have HB5 := Lib.hid ((H4.out.1.res.kept H4.out.2.2.1 (by omega)).alloc (.cells #[.int .i64 x1, .int .i64 x2, .int .i64 x3, .int .i64 0] 32))
      have HR5 := Lib.hid (H4.out.2.1.kept ((Keeps.refl (fun _ => False) w4).alloc (.cells #[.int .i64 x1, .int .i64 x2, .int .i64 x3, .int .i64 0] 32)) id id)
      have HK5 := Lib.hid ((H4.out.1.keeps.new H4.out.2.2.1 fun q e => by omega).alloc (.cells #[.int .i64 x1, .int .i64 x2, .int .i64 x3, .int .i64 0] 32))
      have HLT := Lib.hid H4.out.2.2.2
      clear H4 hrun hen
      generalize World.alloc w4 _ = w5 at *
      generalize w4.heap.size = eb at *
      obtain ⟨e0, e1, e2, _⟩ := HX5.cells4
      obtain ⟨o0, o1, o2, o3⟩ := HO5.out.cells4
      have f0 := HO5.out.free 0
      have f1 := HO5.out.free 1
      have f2 := HO5.out.free 2
      have f3 := HO5.out.free 3
      clear HX5
      go_wp2_with fail
      have HO6 := Lib.hid (HO5.out.put4 (.int .i64 (a1 + x1)) (.int .i64 (a2 + x2 / 2)) (.int .i64 (a3 + x3)) (.int .i64 (a4 + 1)))
      have hk6 := (Keeps.refl (fun q => q = ob) w5).put4 rfl (.int .i64 (a1 + x1)) (.int .i64 (a2 + x2 / 2)) (.int .i64 (a3 + x3)) (.int .i64 (a4 + 1))
      have H6 : Hid (CntAt w b r ob rb N M ((((w5.setCell ⟨ob, 0, none⟩ (.int .i64 (a1 + x1))).setCell ⟨ob, 1, none⟩ (.int .i64 (a2 + x2 / 2))).setCell ⟨ob, 2, none⟩ (.int .i64 (a3 + x3))).setCell ⟨ob, 3, none⟩ (.int .i64 (a4 + 1))) (fun z => q z && !decide (z = k)) cnt' (a1 + x1, a2 + x2 / 2, a3 + x3, a4 + 1)) :=
        Lib.hid ⟨HR5.out.kept hk6 (by omega) (by omega), HO6.out, HB5.out.kept hk6 (by omega), HK5.out.new hk6 fun q e => by omega, HA2.out, hlow⟩
      clear hk6 HO6
      generalize World.setCell _ _ _ = w6 at *
      refine ⟨⟨_, _, _, H6⟩, ?_⟩
      rw [hleft, H6.out.left]
      exact HLT.out
theorem sflat_err (h : Tu w own p E L) (a : Option Addr) (c : Nat) (l : List Int) (hr : Rd w a (i64s l)) (hl : l.length ≤ 4000000) (hc : chk12 L l ≠ 0) :
    Calls Tryd.prog 14 #[tptr p, .slice a l.length c] w (RetPost (.tuple #[.bool false, errVal (chk12 L l)]) w) := by
  have HC := Lib.hid (seach_err h a c l hr hl hc)
  rw [errVal_pos hc] at HC ⊢
  clear h hr hc
  unfold RetPost tptr at *
  go_enter Tryd.func14, Tryd.ntmps14
  go_wp2_with fail
  with_reducible refine HC.out.mono ?_
  rintro e w1 ⟨rfl, hk⟩
  have HK := Lib.hid hk
  clear hk HC
  go_wp2_with fail
  refine bodyPost_ret (v := .tuple #[.bool false, .iface 87 (.int .i64 (chk12 L l : Nat))]) (by simp [results, Tryd.results14, go_sem]) rfl ?_
  exact ⟨rfl, HK.out⟩
/-- All that were met lie on spheres. -/
structure FltAt (w : World) (b r N : Nat) (M : Nat → Option Cnt3) (wr : World) (p : Nat → Bool) (cnt : Nat) : Prop where
  rng : RngAt wr b r N M p cnt
  keeps : Keeps (fun _ => False) w wr
  done : ∀ k x, k < N → p k = false → M k = some x → x.1 - x.2.1 / 2 + x.2.2 = 2
  low : w.heap.size ≤ r
def flatN (M : Nat → Option Cnt3) (N : Nat) : Prop := ∀ k x, k < N → M k = some x → x.1 - x.2.1 / 2 + x.2.2 = 2
def FlatPost (M : Nat → Option Cnt3) (N : Nat) (w : World) (e : Ending) (w' : World) : Prop := ∃ t, e = .returned (.tuple #[.bool t, .nilIface]) ∧ (t = true ↔ flatN M N) ∧ Keeps (fun _ => False) w w'
set_option maxHeartbeats 4000000 in
theorem sflat (h : Tu w own p E L) (hg : Good E L) (a : Option Addr) (c : Nat) (m : List Nat) (hr : Rd w a (i64s (intsN m))) (hl : m.length ≤ 1048576) (hc : chk12 L (intsN m) = 0) (hm : ∀ v ∈ m, v < L.length) :
    Calls Tryd.prog 14 #[tptr p, .slice a m.length c] w (FlatPost (eachM L (grp L E) m (faces L E)) L.length w) := by
  have hV := h.v2
  have HC := Lib.hid (seach h hg a c m hr hl hc hm)
  generalize eachM L (grp L E) m (faces L E) = M at *
  generalize L.length = N at *
  clear h hg hr hc hm
  unfold EachPost tptr at *
  go_enter Tryd.func14, Tryd.ntmps14
  go_wp2_with fail
  with_reducible refine HC.out.mono ?_
  rintro e w1 ⟨b, n, rfl, hma, hlow, hcn, hk⟩
  have HM1 := Lib.hid hma
  have HCN := Lib.hid hcn
  have HK1 := Lib.hid hk
  have HLB := Lib.hid hma.lt
  clear hk HC hma hcn hlow
  obtain ⟨w3, cnt0, hrun, hr3, hk3⟩ := RngAt.start HM1.out
  have HS0 : Hid (FltAt w b w1.heap.size N M w3 (fun _ => true) cnt0) := Lib.hid ⟨hr3, HK1.out.trans' hk3, fun k x _ q => (by cases q), HK1.out.size⟩
  have HBR : Hid (b < w1.heap.size) := Lib.hid HLB.out
  clear hr3 hk3 HM1 HK1 HLB
  go_upto_block 0 with fail
  clear hrun
  generalize w1.heap.size = r at *
  go_wp2_with fail
  go_loopw [] (fun wr => ∃ (q : Nat → Bool) (cnt : Nat), Hid (FltAt w b r N M wr q cnt)) (fun wr => wr.rangeLeft b r)
  case atStart => exact ⟨_, _, HS0⟩
  case round =>
    obtain ⟨q, cnt, HS⟩ := hrel
    clear HS0
    rcases HS.out.rng.next 0 with ⟨hdone, hrun⟩ | ⟨k, x, w4, cnt', hk, hp, hx, hrun, hrg, hlt, hkr, hen⟩
    · as_aux_lemma =>
      have HF : Hid (flatN M N) := Lib.hid fun k x hk hx => by
        cases hq : q k with
        | true => rw [hdone k hk hq] at hx; cases hx
        | false => exact HS.out.done k x hk hq hx
      have HK := Lib.hid HS.out.keeps
      clear hdone HS HCN
      go_wp2_with fail
      refine bodyPost_ret (v := .tuple #[.bool true, .nilIface]) (by simp [results, Tryd.results14, go_sem]) rfl ?_
      exact ⟨true, rfl, ⟨fun _ => HF.out, fun _ => rfl⟩, HK.out⟩
    · as_aux_lemma =>
      have hleft := HS.out.rng.left
      have hxc := HCN.out k
      rw [hx] at hxc
      obtain ⟨x1, x2, x3⟩ := x
      obtain ⟨y1, y2, y3, y4, y5, y6⟩ := hxc
      simp only [Option.getD_some] at y1 y2 y3 y4 y5 y6
      have hq : wrap64 (x2.tdiv 2) = x2 / 2 := by
        rw [Int.tdiv_eq_ediv_of_nonneg y3]
        unfold wrap64; omega
      have y7 : 0 ≤ x2 / 2 ∧ x2 / 2 ≤ 4398046511104 := by omega
      obtain ⟨y7, y8⟩ := y7
      have HD : Hid (x1 - x2 / 2 + x3 = 2 → FltAt w b r N M w4 (fun z => q z && !decide (z = k)) cnt') := Lib.hid fun e => ⟨hrg, HS.out.keeps.new hkr fun q e => by have := HS.out.low; omega, fun z y hz hq hy => by
        by_cases e2 : z = k
        · subst e2
          rw [hx] at hy
          cases hy
          exact e
        · exact HS.out.done z y hz (by simpa [e2] using hq) hy, HS.out.low⟩
      have HF : Hid (x1 - x2 / 2 + x3 ≠ 2 → ¬ flatN M N) := Lib.hid fun e hf => e (hf k _ hk hx)
      have HK := Lib.hid (HS.out.keeps.new hkr fun q e => by have := HS.out.low; omega)
      have HLT := Lib.hid hlt
      unfold cagg at hrun hen
      clear HCN HS hrg hkr hlt hk hp hx
      go_upto_region 7 with fail
      have HX5 := Blk.new w4 #[.int .i64 x1, .int .i64 x2, .int .i64 x3, .int .i64 0] 32
      have hk5 := ((Keeps.refl (fun _ => False) w4).alloc (.cells #[.int .i64 x1, .int .i64 x2, .int .i64 x3, .int .i64 0] 32))
      have HK5 := Lib.hid (HK.out.trans' hk5)
      have HD5 : Hid (x1 - x2 / 2 + x3 = 2 → FltAt w b r N M (w4.alloc (.cells #[.int .i64 x1, .int .i64 x2, .int .i64 x3, .int .i64 0] 32)) (fun z => q z && !decide (z = k)) cnt') := Lib.hid fun e => ⟨(HD.out e).rng.kept hk5 id id, HK5.out, (HD.out e).done, (HD.out e).low⟩
      clear hrun hen hk5 HD HK
      generalize World.alloc w4 _ = w5 at *
      generalize w4.heap.size = eb at *
      obtain ⟨e0, e1, e2, _⟩ := HX5.cells4
      clear HX5
      by_cases he : x1 - x2 / 2 + x3 = 2
      · have hbb : (x1 - x2 / 2 + x3 != 2) = false := by rw [bne_eq_false_iff_eq]; exact he
        have H6 := Lib.hid (HD5.out he)
        clear HF HD5 he
        go_wp2_with fail
        refine ⟨⟨_, _, H6⟩, ?_⟩
        rw [hleft, H6.out.rng.left]
        exact HLT.out
      · have hbb : (x1 - x2 / 2 + x3 != 2) = true := by rw [bne_iff_ne]; exact he
        have HNF := Lib.hid (HF.out he)
        clear HF HD5 he
        go_wp2_with fail
        refine bodyPost_ret (v := .tuple #[.bool false, .nilIface]) (by simp [results, Tryd.results14, go_sem]) rfl ?_
        exact ⟨false, rfl, ⟨fun e => (by cases e), fun e => (HNF.out e).elim⟩, HK5.out⟩
end
end Go.Proofs.YtdplphhlclhmfaaDoor
