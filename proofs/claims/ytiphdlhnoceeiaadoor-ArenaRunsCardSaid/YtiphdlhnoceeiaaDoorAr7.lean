/- arena: Load, the walk. -/
import Derived.Test.YtiphdlhnoceeiaaDoorAr6
namespace Go.Proofs.YtiphdlhnoceeiaaDoor
open Go Go.RowKit
set_option linter.unusedVariables false
set_option linter.unusedSimpArgs false
set_option maxRecDepth 100000

theorem tak_snoc (M : List (Int × Int)) (q : Int × Int) (h : q.2 ≠ 0) : tak (M ++ [q]) = upd (tak M) M.length true := by
  funext i
  by_cases h1 : i < M.length
  · rw [tak_in _ _ (by simp; omega)]
    simp only [List.getElem_append_left h1, upd, if_neg (show ¬ i = M.length by omega)]
    rw [tak_in _ _ h1]
  · by_cases h2 : i = M.length
    · subst h2; rw [tak_in _ _ (by simp)]; simp [upd, h]
    · rw [tak_out _ _ (by simp; omega)]; simp only [upd, if_neg h2]; rw [tak_out _ _ (by omega)]
theorem liv_snoc (M : List (Int × Int)) (q : Int × Int) : liv (M ++ [q]) = liv M + if q.2 = 1 then 1 else 0 := by
  simp [liv, List.countP_append, List.countP_singleton]
theorem okP_of_odd {q : Int × Int} (h0 : 0 ≤ q.1) (h1 : q.1 ≤ 4294967295) (h : oddB q = false) : OkP q := by
  obtain ⟨a, s⟩ := q
  refine ⟨h0, h1, ?_⟩
  unfold oddB at h
  simp only at h ⊢
  by_cases e0 : s = 0
  · rw [if_pos e0] at h; simp at h; exact .inl ⟨e0, h⟩
  · rw [if_neg e0] at h
    by_cases e1 : s = 1
    · rw [if_pos e1] at h; simp at h; exact .inr (.inl ⟨e1, h⟩)
    · rw [if_neg e1] at h
      by_cases e2 : s = 2
      · rw [if_pos e2] at h; simp at h; exact .inr (.inr ⟨e2, h⟩)
      · rw [if_neg e2] at h; simp at h

/-- What may be told. -/
structure LoadOk (x : Int) (L : List (Int × Int)) : Prop where
  lo : 1 ≤ x
  hi : x ≤ 1048576
  le : (L.length : Int) ≤ x
  odd : L.any oddB = false
  last : ∀ q, L.getLast? = some q → q.1 ≠ 0
/-- An error, and nothing else. -/
def BadPost (w : World) (e : Ending) (w' : World) : Prop := e = .returned (.tuple #[.pointer none, .iface 92 (.int .i64 1)]) ∧ Keeps (fun _ => False) w w'
section
variable {L : List (Int × Int)}
set_option maxHeartbeats 2000000 in
theorem aload_bad (x : Int) (a : Option Addr) (c : Nat) (w : World) (hr : Rd w a (plVals L)) (h : ¬ LoadOk x L) :
    Calls Tryd.prog 46 #[.int .i64 x, .slice a L.length c] w (BadPost w) := by
  have HR := Lib.hid hr
  clear hr
  by_cases hx : x < 1 ∨ 1048576 < x
  · have hb := Lib.hid (anew_bad x w hx)
    clear hx h
    unfold errno at hb
    go_enter Tryd.func46, Tryd.ntmps46
    go_wp2_with fail
    refine hb.out.mono ?_
    rintro e w' ⟨rfl, rfl⟩
    go_wp2_with fail
    go_ret2
    exact ⟨rfl, Keeps.refl _ _⟩
  · obtain ⟨n, rfl⟩ := Int.eq_ofNat_of_zero_le (show 0 ≤ x by omega)
    have hn1 : 1 ≤ n := by omega
    have hn2 : n ≤ 1048576 := by omega
    clear hx
    have hb := Lib.hid (anew (n : Int) n rfl w hn1 hn2)
    by_cases hle : n < L.length
    · clear h
      go_enter Tryd.func46, Tryd.ntmps46
      go_wp2_with fail
      refine hb.out.mono ?_
      rintro e w1 ⟨p, b, ownS, rfl, hx, hg, hk⟩
      have HK := Lib.hid hk
      clear hx hg hk
      go_wp2_with fail
      go_ret2
      exact ⟨rfl, HK.out⟩
    · cases ho : L.any oddB with
      | true =>
        clear h
        have HO := Lib.hid ho
        clear ho
        go_enter Tryd.func46, Tryd.ntmps46
        go_wp2_with fail
        refine hb.out.mono ?_
        rintro e w1 ⟨p, b, ownS, rfl, hx, hg, hk⟩
        have HK := Lib.hid hk
        have hh := hasOdd a c w1 (HR.out.keep hk) (by omega)
        rw [HO.out] at hh
        have hh := Lib.hid hh
        clear hx hg hk
        go_wp2_with fail
        refine hh.out.mono ?_
        rintro e w2 ⟨rfl, hk⟩
        have HK := Lib.hid (HK.out.trans' hk)
        clear hk
        go_wp2_with fail
        go_ret2
        exact ⟨rfl, HK.out⟩
      | false =>
        have hl : ∃ q, L.getLast? = some q ∧ q.1 = 0 := by
          refine Classical.byContradiction fun hno => h ⟨by omega, by omega, by omega, ho, fun q hq h0 => hno ⟨q, hq, h0⟩⟩
        obtain ⟨q, hq, hq0⟩ := hl
        have hlen : 0 < L.length := by
          cases L with
          | nil => simp at hq
          | cons _ _ => simp
        have hql : L[L.length - 1]'(by omega) = q := by
          rw [List.getLast?_eq_getElem?, List.getElem?_eq_getElem (by omega)] at hq
          exact Option.some.inj hq
        have HO := Lib.hid ho
        have HQ := Lib.hid (And.intro hql hq0)
        clear ho h hq hq0 hql
        go_enter Tryd.func46, Tryd.ntmps46
        go_wp2_with fail
        refine hb.out.mono ?_
        rintro e w1 ⟨p, b, ownS, rfl, hx, hg, hk⟩
        have HK := Lib.hid hk
        have hh := hasOdd a c w1 (HR.out.keep hk) (by omega)
        rw [HO.out] at hh
        have hh := Lib.hid hh
        clear hx hg hk
        go_wp2_with fail
        refine hh.out.mono ?_
        rintro e w2 ⟨rfl, hk⟩
        have HK := Lib.hid (HK.out.trans' hk)
        clear hk
        obtain ⟨bb, off, rfl, e1, e2⟩ := plAt (HR.out.keep HK.out) (L.length - 1) (by omega)
        rw [HQ.out.1, HQ.out.2] at e1
        have hw : wrap64 ((L.length : Int) - 1) = ((L.length - 1 : Nat) : Int) := by simp [wrap64]; omega
        clear e2
        go_wp2_with fail
        go_ret2
        exact ⟨rfl, HK.out⟩

def LdRel (w : World) (p b n : Nat) (ownS : Nat → Prop) (v : Value) (L : List (Int × Int)) (f : Nat) (wr : World) : Prop :=
  AX wr p b n ownS v L (tak (L.take f)) (liv (L.take f) : Nat) ∧ (∀ k, AX.own p ownS v k → w.heap.size ≤ k) ∧ Keeps (fun _ => False) w wr
theorem take_snoc {L : List (Int × Int)} {f : Nat} (h : f < L.length) : L.take (f + 1) = L.take f ++ [L[f]] := by rw [List.take_add_one, List.getElem?_eq_getElem h]; rfl
theorem LdRel.free {w wr w2 : World} {p b n f : Nat} {ownS : Nat → Prop} {v : Value} (h : LdRel w p b n ownS v L f wr) (hf : f < L.length) (h0 : L[f].2 = 0) (hk : Keeps (fun _ => False) wr w2) : LdRel w p b n ownS v L (f + 1) w2 := by
  obtain ⟨h1, h2, h3⟩ := h
  have e : L[f] = (L[f].1, 0) := Prod.ext rfl h0
  refine ⟨?_, h2, h3.trans' hk⟩
  rw [take_snoc hf, e, tak_free, liv_append]
  exact h1.keep hk
theorem LdRel.taken {w wr w2 : World} {p b n f : Nat} {ownS : Nat → Prop} {v : Value} (h : LdRel w p b n ownS v L f wr) (hf : f < L.length) (h0 : L[f].2 ≠ 0) (h1 : L[f].2 ≠ 1) (hk : Keeps ownS wr w2)
    (hs : Sl w2 b ownS n (upd (tak (L.take f)) f true)) : LdRel w p b n ownS v L (f + 1) w2 := by
  obtain ⟨hx, h2, h3⟩ := h
  refine ⟨?_, h2, h3.thin hk fun k e => h2 k (.inr (.inl e))⟩
  rw [take_snoc hf, tak_snoc _ _ h0, liv_snoc, if_neg h1, List.length_take, Nat.min_eq_left (by omega)]
  exact hx.bits hk hs
theorem LdRel.lived {w wr w2 : World} {p b n f : Nat} {ownS : Nat → Prop} {v : Value} (h : LdRel w p b n ownS v L f wr) (hf : f < L.length) (h1 : L[f].2 = 1) (hk : Keeps ownS wr w2)
    (hs : Sl w2 b ownS n (upd (tak (L.take f)) f true)) : LdRel w p b n ownS v L (f + 1) (w2.setCell ⟨p, 3, none⟩ (.int .i64 ((liv (L.take f) : Nat) + 1 : Int))) := by
  obtain ⟨hx, h2, h3⟩ := h
  refine ⟨?_, h2, h3.thin (hk.mono (fp' := AX.own p ownS v) (fun _ _ e => .inr (.inl e)) |>.setCell _ _ fun _ => .inl rfl) h2⟩
  rw [take_snoc hf, tak_snoc _ _ (by omega), liv_snoc, if_pos h1, List.length_take, Nat.min_eq_left (by omega)]
  exact (hx.bits hk hs).live _

def LoadPost (n : Nat) (L : List (Int × Int)) (w : World) (e : Ending) (w' : World) : Prop :=
  ∃ p own, e = .returned (.tuple #[.pointer (some ⟨p, 0, none⟩), .nilIface]) ∧ Ar w' own p n L ∧ (∀ k, own k → w.heap.size ≤ k) ∧ Keeps (fun _ => False) w w'
set_option maxHeartbeats 4000000 in
theorem aload (x : Int) (n : Nat) (hxn : x = n) (a : Option Addr) (c : Nat) (w : World) (hr : Rd w a (plVals L)) (ha : a = none → c = 0) (hb0 : ∀ q ∈ L, 0 ≤ q.1 ∧ q.1 ≤ 4294967295) (h : LoadOk x L) :
    Calls Tryd.prog 46 #[.int .i64 x, .slice a L.length c] w (LoadPost n L w) := by
  subst hxn
  obtain ⟨h1, h2, h3, ho, hla⟩ := h
  have hn1 : 1 ≤ n := by omega
  have hn2 : n ≤ 1048576 := by omega
  have hle : L.length ≤ n := by omega
  have hok := Lib.hid (show ∀ q ∈ L, OkP q from fun q hq => okP_of_odd (hb0 q hq).1 (hb0 q hq).2 (by rw [List.any_eq_false] at ho; simpa using ho q hq))
  have HR := Lib.hid hr
  have HO := Lib.hid ho
  have HL := Lib.hid hla
  have hdl : decide (n < L.length) = false := by simp; omega
  have hb := Lib.hid (anew (n : Int) n rfl w hn1 hn2)
  clear hr ho hla h1 h2 h3 hb0
  go_enter Tryd.func46, Tryd.ntmps46
  go_wp2_with fail
  refine hb.out.mono ?_
  rintro e w1 ⟨p, b, ownS, rfl, hx, hg, hk⟩
  have HX := Lib.hid (And.intro hx (And.intro hg hk))
  have hh := hasOdd a c w1 (HR.out.keep hk) (by omega)
  rw [HO.out] at hh
  have hh := Lib.hid hh
  clear hx hg hk hb
  go_wp2_with fail
  refine hh.out.mono ?_
  rintro e w2 ⟨rfl, hk⟩
  have HX2 := Lib.hid (And.intro (HX.out.1.keep hk) (And.intro HX.out.2.1 (HX.out.2.2.trans' hk)))
  have hc := Lib.hid (clonePl a c w2 (HR.out.keep HX2.out.2.2) (by omega) ha)
  clear hk hh HX
  have hcase : (∃ y bb off, (y == 0) = false ∧ 0 < L.length ∧ wrap64 ((L.length : Int) - 1) = ((L.length - 1 : Nat) : Int) ∧ L.length - 1 < L.length ∧ a = some ⟨bb, off, none⟩ ∧ w2.cell? ⟨bb, off + (L.length - 1) * 2, none⟩ = some (.int .u32 y)) ∨ L.length = 0 := by
    by_cases hl0 : L.length = 0
    · exact .inr hl0
    · obtain ⟨bb, off, rfl, e1, e2⟩ := plAt (HR.out.keep HX2.out.2.2) (L.length - 1) (by omega)
      refine .inl ⟨_, bb, off, ?_, by omega, by simp [wrap64]; omega, by omega, rfl, e1⟩
      rw [beq_eq_false_iff_ne]
      exact HL.out _ (by rw [List.getLast?_eq_getElem?, List.getElem?_eq_getElem (by omega)])
  have HCs := hc
  have hcase2 : (∃ y bb off, (y == 0) = false ∧ 0 < L.length ∧ wrap64 ((L.length : Int) - 1) = ((L.length - 1 : Nat) : Int) ∧ L.length - 1 < L.length ∧ a = some ⟨bb, off, none⟩ ∧ w2.cell? ⟨bb, off + (L.length - 1) * 2, none⟩ = some (.int .u32 y)) ∨ (decide (0 < L.length) = false) :=
    hcase.imp id fun h => by simp [h]
  clear hcase hc hh
  rcases hcase2 with ⟨y, bb, off, hy, hlp, hw, hl1, rfl, e1⟩ | hl0
  all_goals
    go_wp2_with fail
    refine HCs.out.mono ?_
    rintro e w3 ⟨v, rfl, ho, hk⟩
    obtain ⟨va, vc, rfl⟩ := ownsRow_slice ho
    have HX3 := Lib.hid (HX2.out.1.keep hk)
    have HX4 := Lib.hid (HX3.out.places (v' := .slice va L.length vc) (M := L) (ownsRow_base ho (Nat.zero_le _)) (fun g hg => by
      have h5 := (ho.lt g hg).1
      refine ⟨fun e => ?_, fun e => ?_⟩
      · have := HX2.out.1.head.lt; omega
      · have := HX2.out.1.sl.lt g e; omega))
    have HG : Hid (∀ k, AX.own p ownS (.slice va L.length vc) k → w.heap.size ≤ k) := fun k e => by
      rcases e with e | e | e
      · exact HX2.out.2.1 k (.inl e)
      · exact HX2.out.2.1 k (.inr (.inl e))
      · exact Nat.le_trans HX2.out.2.2.size (ho.lt k e).1
    have HK : Hid (Keeps (fun _ => False) w (w3.setCell ⟨p, 1, none⟩ (.slice va L.length vc))) := (HX2.out.2.2.trans' hk).setCell _ _ fun e => by
      have := HX2.out.2.1 p (.inl rfl)
      simp at e
      omega
    have g1 := HX3.out.c1
    have f1 := HX3.out.f 1
    clear ho hk
    go_wp2_with fail
    have HS0 : Hid (LdRel w p b n ownS (.slice va L.length vc) L 0 (w3.setCell ⟨p, 1, none⟩ (.slice va L.length vc))) := ⟨HX4.out, HG.out, HK.out⟩
    clear HX4 HG HK HX3 g1 f1 HX2 HCs
    generalize w3.setCell ⟨p, 1, none⟩ (.slice va L.length vc) = w4 at *
    go_loopw [50] (fun i wr => ∃ f : Nat, f ≤ L.length ∧ i = .int .i64 (f : Int) ∧ LdRel w p b n ownS (.slice va L.length vc) L f wr) (fun i _ => L.length - (intOf i).toNat)
    case atStart => exact ⟨0, Nat.zero_le _, rfl, HS0.out⟩
    case round =>
      obtain ⟨f, hf, rfl, hrel⟩ := hrel
      clear HS0
      by_cases hlt : f < L.length
      · obtain ⟨ab, aoff, hae, q1, q2⟩ := plAt (HR.out.keep hrel.2.2) f hlt
        cases hae
        have HREL := Lib.hid hrel
        have hbk := hrel.1.sl.lt
        have HBK := Lib.hid hbk
        have HQ := Lib.hid (rfl : L[f] = L[f])
        have hgq : ∃ q, L[f] = q := ⟨_, rfl⟩
        obtain ⟨q, hgq⟩ := hgq
        have HQE := Lib.hid hgq
        have g2 := hrel.1.c2
        have gp := hrel.1.head.lt
        rw [hgq] at q1 q2
        obtain ⟨qa, qs⟩ := q
        simp only at q1 q2
        clear hrel hbk HQ hgq
        by_cases h0 : qs = 0
        · subst h0
          go_wp2_with fail
          refine ⟨⟨f + 1, hlt, by go_num, HREL.out.free hlt (by rw [HQE.out]) ((Keeps.refl _ _).alloc _)⟩, by simp [intOf]; omega⟩
        · have k0 : (qs == 0) = false := by rw [beq_eq_false_iff_ne]; exact h0
          have hk1 : Keeps (fun _ => False) wr (wr.alloc (.cells #[.int .u32 qa, .int .i64 qs] 72)) := (Keeps.refl _ _).alloc _
          have HREL2 : Hid (LdRel w p b n ownS (.slice va L.length vc) L f (wr.alloc (.cells #[.int .u32 qa, .int .i64 qs] 72))) := ⟨HREL.out.1.keep hk1, HREL.out.2.1, HREL.out.2.2.trans' hk1⟩
          have hB : Hid (Blk (wr.alloc (.cells #[.int .u32 qa, .int .i64 qs] 72)) wr.heap.size #[.int .u32 qa, .int .i64 qs] 72) := Blk.new wr _ _
          have hcl := Lib.hid (claim_yes HREL2.out.1.sl (f : Int) f rfl (by omega) (tak_out _ _ (by simp; omega)))
          clear hk1
          go_wp2_with fail
          refine hcl.out.mono ?_
          rintro e w5 ⟨rfl, hk5, hs5⟩
          have hB5 := hB.out.kept hk5 (fun e => by have := HBK.out _ e; omega)
          have b1 := hB5.cell (i := 1)
          simp only [List.getElem?_toArray, List.getElem?_cons_zero, List.getElem?_cons_succ] at b1
          have HA5 := Lib.hid (HREL2.out.1.bits hk5 hs5)
          by_cases h1 : qs = 1
          · subst h1
            have hf5 := Lib.hid (HREL2.out.lived hlt (by rw [HQE.out]) hk5 hs5)
            have g3 := HA5.out.c3
            have f3 := HA5.out.f 3
            have hwl : wrap64 ((liv (L.take f) : Nat) + 1 : Int) = (liv (L.take f) : Nat) + 1 := by
              have := liv_le (L.take f)
              rw [List.length_take] at this
              simp [wrap64]; omega
            clear hk5 hs5 hB5
            go_wp2_with fail
            refine ⟨⟨f + 1, hlt, by go_num, hf5.out⟩, by simp [intOf]; omega⟩
          · have k1 : (qs == 1) = false := by rw [beq_eq_false_iff_ne]; exact h1
            have hf5 := Lib.hid (HREL2.out.taken hlt (by rw [HQE.out]; exact h0) (by rw [HQE.out]; exact h1) hk5 hs5)
            clear hk5 hs5 hB5
            go_wp2_with fail
            refine ⟨⟨f + 1, hlt, by go_num, hf5.out⟩, by simp [intOf]; omega⟩
      · obtain rfl : f = L.length := by omega
        have HREL := Lib.hid hrel
        clear hrel
        go_wp2_with fail
        go_ret2
        have hx := HREL.out.1
        rw [List.take_length] at hx
        exact ⟨p, _, rfl, ⟨⟨b, ownS, _, hx, rfl⟩, hle, hok.out, HL.out⟩, HREL.out.2.1, HREL.out.2.2⟩
end
end Go.Proofs.YtiphdlhnoceeiaaDoor
