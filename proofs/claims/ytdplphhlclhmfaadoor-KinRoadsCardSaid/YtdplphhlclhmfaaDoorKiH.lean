/- kin: the walker: walk. -/
import Derived.Test.YtdplphhlclhmfaaDoorKiG
import Derived.Deep.LoopGhost
import Derived.Deep.DeepCutAuto
namespace Go.Proofs.YtdplphhlclhmfaaDoor
open Go Go.RowKit
set_option linter.unusedVariables false
set_option linter.unusedSimpArgs false
set_option maxRecDepth 100000

section
variable {own : Nat → Prop} {p E B wb nb bb : Nat} {L : List (List Nat)} {num low : List Nat} {met : Nat} {bv : Value} {br : List Nat} {wr w1 : World}
/-- In the midst of the walk. -/
structure WInv (own : Nat → Prop) (p E B wb nb bb : Nat) (L : List (List Nat)) (num0 : List Nat) (bv0 : Value) (W0 : World) (v k : Nat) (x : Value) (wr : World) (num low : List Nat) (met : Nat) (bv : Value) (br : List Nat) (z : List (Pl × Value)) : Prop where
  wk : WkAt own p E B wb nb bb L num low met bv br wr
  rd : RoadAt B bv wr x z
  gs : Gst L num low met br (z.map Prod.fst)
  mt : Met num0 num
  mv : num.getD v 0 ≠ 0
  ms : msr L num (z.map Prod.fst) ≤ k
  kp : Keeps (wkB wb nb bb bv0) W0 wr
  bo : ∀ k, bv.ownBlock = some k → bv0.ownBlock = some k ∨ W0.heap.size ≤ k
  xo : ∀ k, x.ownBlock = some k → W0.heap.size ≤ k
  hB : B ≤ W0.heap.size
/-- A dart is taken from the top's list; it is not told yet. -/
structure WMid (own : Nat → Prop) (p E B wb nb bb : Nat) (L : List (List Nat)) (num0 : List Nat) (bv0 : Value) (W0 : World) (v k : Nat) (X : Value) (wr : World) (num low : List Nat) (met : Nat) (bv : Value) (br : List Nat) (x : Nat) (bd : Int) (d : Nat) (l : List Nat) (s : Value) (r : List (Pl × Value)) : Prop where
  wk : WkAt own p E B wb nb bb L num low met bv br wr
  rd : RoadAt B bv wr X ((⟨x, bd, l⟩, s) :: r)
  gs : Gst L num low met br (⟨x, bd, d :: l⟩ :: r.map Prod.fst)
  mt : Met num0 num
  mv : num.getD v 0 ≠ 0
  ms : msr L num (⟨x, bd, d :: l⟩ :: r.map Prod.fst) ≤ k
  kp : Keeps (wkB wb nb bb bv0) W0 wr
  bo : ∀ k, bv.ownBlock = some k → bv0.ownBlock = some k ∨ W0.heap.size ≤ k
  xo : ∀ k, X.ownBlock = some k → W0.heap.size ≤ k
  hB : B ≤ W0.heap.size
variable {num0 : List Nat} {bv0 X : Value} {W0 : World} {v k x d : Nat} {bd : Int} {l : List Nat} {s : Value} {r : List (Pl × Value)}
theorem WInv.taken {g c0 : Nat} (h : WInv own p E B wb nb bb L num0 bv0 W0 v k (.slice (some ⟨g, 0, none⟩) (r.length + 1) c0) wr num low met bv br ((⟨x, bd, d :: l⟩, s) :: r)) :
    ∃ b off c', s = .slice (some ⟨b, off, none⟩) (l.length + 1) c' ∧ l.length + 1 ≤ c' ∧ wr.cell? ⟨b, off, none⟩ = some (.int .i64 (d : Int)) ∧ ∀ a2 c2, (l = [] ∨ a2 = some ⟨b, off + 1, none⟩) → l.length ≤ c2 →
      WMid own p E B wb nb bb L num0 bv0 W0 v k (.slice (some ⟨g, 0, none⟩) (r.length + 1) c0) (wr.setCell ⟨g, r.length * 3 + 2, none⟩ (.slice a2 l.length c2)) num low met bv br x bd d l (.slice a2 l.length c2) r := by
  obtain ⟨b, off, c', e, hl, hc, hn⟩ := h.rd.next
  refine ⟨b, off, c', e, hl, hc, fun a2 c2 ha hc2 => ?_⟩
  have hg : B ≤ g := (h.rd.own.lt g rfl).1
  have hk : Keeps (fun q => q = g) wr (wr.setCell ⟨g, r.length * 3 + 2, none⟩ (.slice a2 l.length c2)) := (Keeps.refl (fun q => q = g) wr).setIn g _ _ rfl
  have hne := h.wk.ne
  have hx := h.xo g rfl
  refine ⟨h.wk.kept hk (by omega) (fun q o e => by have := (h.wk.lo q o).2.2.2; omega) fun q e1 e2 => ?_, hn a2 c2 ha hc2, h.gs, h.mt, h.mv, h.ms, h.kp.setCell _ _ fun q => absurd q (by show ¬ (g < W0.heap.size); omega), h.bo, h.xo, h.hB⟩
  subst e2
  exact h.rd.ne q rfl e1
theorem WMid.keep (h : WMid own p E B wb nb bb L num0 bv0 W0 v k X wr num low met bv br x bd d l s r) (hk : Keeps (fun _ => False) wr w1) : WMid own p E B wb nb bb L num0 bv0 W0 v k X w1 num low met bv br x bd d l s r :=
  ⟨h.wk.keep hk, h.rd.kept hk (fun _ q => q.elim) fun k e => Or.inl e, h.gs, h.mt, h.mv, h.ms, h.kp.trans' (hk.mono fun _ _ q => q.elim), h.bo, h.xo, h.hB⟩
theorem WInv.keep {X : Value} {z : List (Pl × Value)} (h : WInv own p E B wb nb bb L num0 bv0 W0 v k X wr num low met bv br z) (hk : Keeps (fun _ => False) wr w1) : WInv own p E B wb nb bb L num0 bv0 W0 v k X w1 num low met bv br z :=
  ⟨h.wk.keep hk, h.rd.kept hk (fun _ q => q.elim) fun k e => Or.inl e, h.gs, h.mt, h.mv, h.ms, h.kp.trans' (hk.mono fun _ _ q => q.elim), h.bo, h.xo, h.hB⟩
theorem WMid.skip (h : WMid own p E B wb nb bb L num0 bv0 W0 v k X wr num low met bv br x bd d l s r) (hg : Good E L) {f : Nat} (hf : bd = (f : Int)) (hd : d = tw f) : 1 ≤ k ∧ WInv own p E B wb nb bb L num0 bv0 W0 v (k - 1) X wr num low met bv br ((⟨x, bd, l⟩, s) :: r) := by
  have hm := h.ms
  rw [msr_eat] at hm
  exact ⟨by omega, h.wk, h.rd, h.gs.skip hg hf hd, h.mt, h.mv, by simp only [List.map_cons]; omega, h.kp, h.bo, h.xo, h.hB⟩
theorem WMid.eat (h : WMid own p E B wb nb bb L num0 bv0 W0 v k X wr num low met bv br x bd d l s r) (hg : Good E L) (hn : num.getD (De L d) 0 ≠ 0) (hne : ∀ f : Nat, bd = (f : Int) → d ≠ tw f) :
    1 ≤ k ∧ WInv own p E B wb nb bb L num0 bv0 W0 v (k - 1) X (wr.setCell ⟨bb, x, none⟩ (.int .i64 ((min (low.getD x 0) (num.getD (De L d) 0) : Nat) : Int))) num (low.set x (min (low.getD x 0) (num.getD (De L d) 0))) met bv br ((⟨x, bd, l⟩, s) :: r) := by
  have hm := h.ms
  rw [msr_eat] at hm
  have hk : Keeps (fun q => q = bb) wr (wr.setCell ⟨bb, x, none⟩ (.int .i64 ((min (low.getD x 0) (num.getD (De L d) 0) : Nat) : Int))) := (Keeps.refl (fun q => q = bb) wr).setIn bb _ _ rfl
  have hbb := h.wk.ne
  exact ⟨by omega, h.wk.setL x _, h.rd.kept hk (fun q e => Or.inl (by omega)) fun k e => Or.inl e, h.gs.eat hg hn hne, h.mt, h.mv, by simp only [List.map_cons]; omega, h.kp.setIn bb _ _ (Or.inl (Or.inr (Or.inr rfl))), h.bo, h.xo, h.hB⟩
theorem wkF_lt (h : WkAt own p E B wb nb bb L num low met bv br wr) {q : Nat} (k : wkF wb nb bb q) : q < B := by
  have := h.ne
  unfold wkF at k
  omega
theorem WMid.road (h : WMid own p E B wb nb bb L num0 bv0 W0 v k X wr num low met bv br x bd d l s r) (hk : Keeps (wkF wb nb bb) wr w1) : RoadAt B bv w1 X ((⟨x, bd, l⟩, s) :: r) :=
  h.rd.kept hk (fun q e => Or.inl (wkF_lt h.wk e)) fun k e => Or.inl e
theorem rd_lt {w : World} {a : Option Addr} {l : List Nat} (h : Rd w a (nats l)) (hl : l ≠ []) {b off : Nat} (e : a = some ⟨b, off, none⟩) : b < w.heap.size := by
  rcases h with q | ⟨b', off', e', hc⟩
  · exact absurd (List.map_eq_nil_iff.1 q) hl
  · rw [e'] at e
    cases e
    have := hc 0 (by unfold nats; rw [List.length_map]; exact List.length_pos_iff.2 hl)
    cases hx : (nats l)[0]? with
    | none =>
      rw [List.getElem?_eq_none_iff] at hx
      unfold nats at hx
      rw [List.length_map] at hx
      exact absurd (List.eq_nil_of_length_eq_zero (by omega)) hl
    | some u => rw [hx] at this; exact World.block_lt_of_cell? _ _ this
theorem WMid.push {w5 w6 : World} {a : Option Addr} {c : Nat} {X' : Value} (h : WMid own p E B wb nb bb L num0 bv0 W0 v k X wr num low met bv br x bd d l s r) (hg : Good E L) (hn : num.getD (De L d) 0 = 0)
    (hw5 : WkAt own p E B wb nb bb L (num.set (De L d) (met + 1)) (low.set (De L d) (met + 1)) (met + 1) bv br w5) (hr5 : Rd w5 a (nats (arL L (De L d)))) (hf5 : Fresh wr.heap.size a) (hk5 : Keeps (wkF wb nb bb) wr w5) (hlc : (arL L (De L d)).length ≤ c)
    (ho : w6.ownsRow B 150 3 X' (r.length + 1 + 1) (rcells ((⟨x, bd, l⟩, s) :: r) ++ [.int .i64 ((De L d : Nat) : Int), .int .i64 (d : Int), .slice a (arL L (De L d)).length c])) (hk6 : Keeps (fun k => X.ownBlock = some k) w5 w6) (hn6 : ∀ k, X'.ownBlock = some k → X.ownBlock = some k ∨ w5.heap.size ≤ k) :
    1 ≤ k ∧ WInv own p E B wb nb bb L num0 bv0 W0 v (k - 1) X' w6 (num.set (De L d) (met + 1)) (low.set (De L d) (met + 1)) (met + 1) bv br ((⟨De L d, (d : Int), arL L (De L d)⟩, .slice a (arL L (De L d)).length c) :: (⟨x, bd, l⟩, s) :: r) := by
  have hs := ((h.gs.top hg).2.2.1 d (List.mem_cons_self ..)).1
  have hy : De L d < L.length := hg.toWF.vtx_lt (hg.twin _ hs)
  have hnl : num.length = L.length := h.gs.nl
  have hm := h.ms
  rw [msr_push (bd2 := (d : Int)) hnl hy hn (m := met + 1) (by omega)] at hm
  have hrd := h.road hk5
  have hs5 := hk5.size
  have hkp := h.kp.size
  have hne : ∀ k, X.ownBlock = some k → k ≠ wb ∧ k ≠ nb ∧ k ≠ bb ∧ ¬ own k := fun q e => by
    have h1 := (h.rd.own.lt q e).1
    have h2 := h.wk.ne
    exact ⟨by omega, by omega, by omega, fun o => by have := (h.wk.lo q o).2.2.2; omega⟩
  refine ⟨by omega, hw5.kept hk6 ⟨fun e => (hne _ e).1 rfl, fun e => (hne _ e).2.1 rfl, fun e => (hne _ e).2.2.1 rfl⟩ (fun q o e => (hne q e).2.2.2 o) (fun q e1 e2 => h.rd.ne q e2 e1), ?_, h.gs.push hg hn, fun z hz => (met_set (by omega) (by rw [hnl]; exact hy)).1 z (h.mt z hz), (met_set (by omega) (by rw [hnl]; exact hy)).1 v h.mv, by simp only [List.map_cons]; omega, ?_, h.bo, fun q e => ?_, h.hB⟩
  · refine hrd.push hr5 hlc (fun b off e hl => ⟨?_, rd_lt hr5 hl e, fun q => ?_, fun q => ?_⟩) ho hk6 hn6 fun q e => (hw5.br.lt q e).2
    · have := hf5 b off e
      have := h.hB
      omega
    · have := hf5 b off e
      have := (h.rd.own.lt b q).2
      omega
    · have := hf5 b off e
      have := (h.wk.br.lt b q).2
      omega
  · exact (h.kp.trans' (hk5.mono fun _ _ q => Or.inl q)).trans hk6 fun i hi e => absurd hi (by have := h.xo i e; omega)
  · rcases hn6 q e with e | e
    · exact h.xo q e
    · omega
/-- A place is left. -/
theorem WInv.leave {g c0 : Nat} (h : WInv own p E B wb nb bb L num0 bv0 W0 v k (.slice (some ⟨g, 0, none⟩) (r.length + 1) c0) wr num low met bv br ((⟨x, bd, []⟩, s) :: r)) (hg : Good E L) (hV : L.length ≤ 1048576) :
    1 ≤ k ∧ Calls Tryd.prog 91 #[.pointer (some ⟨wb, 0, none⟩), .agg #[.int .i64 (x : Int), .int .i64 bd, s]] wr (fun e w' => e = .returned (.tuple #[]) ∧ ∃ low' bv' br', WInv own p E B wb nb bb L num0 bv0 W0 v (k - 1) (.slice (some ⟨g, 0, none⟩) r.length c0) w' num low' met bv' br' r) := by
  have hm := h.ms
  simp only [List.map_cons] at hm
  rw [msr_pop] at hm
  refine ⟨by omega, ?_⟩
  have hgs := h.gs
  simp only [List.map_cons] at hgs
  have hE2 := h.wk.tu.e2
  have hml := hgs.met_le
  have hpop := h.rd.pop
  have hend : ∀ {low' br' e w'}, Gst L num low' met br' (r.map Prod.fst) → LeavePost own p E B wb nb bb L num low' met bv br' wr e w' → (e = .returned (.tuple #[]) ∧ ∃ low' bv' br', WInv own p E B wb nb bb L num0 bv0 W0 v (k - 1) (.slice (some ⟨g, 0, none⟩) r.length c0) w' num low' met bv' br' r) := by
    rintro low' br' e w' hgs2 ⟨bv', rfl, hw, hk, hb⟩
    have hsz := h.kp.size
    refine ⟨rfl, low', bv', br', hw, hpop.kept hk (fun q e => ?_) hb, hgs2, h.mt, h.mv, by omega, h.kp.trans hk fun i hi e => ?_, fun q e => ?_, fun q e => h.xo q (by simpa [Value.ownBlock] using e), h.hB⟩
    · rcases e with e | e
      · exact Or.inl (wkF_lt h.wk e)
      · exact Or.inr e
    · rcases e with e | e
      · exact Or.inl e
      · rcases h.bo i e with q | q
        · exact Or.inr q
        · omega
    · rcases hb q e with e | e
      · exact h.bo q e
      · exact Or.inr (by omega)
  cases r with
  | nil =>
    obtain ⟨hb, hg2⟩ := hgs.pop0
    rw [hb]
    exact (kleave0 h.wk x s).mono fun e w' q => hend hg2 q
  | cons q2 r2 =>
    obtain ⟨f, hf, hs, hv2, hne, hxl, hg2⟩ := hgs.popq hg
    rw [hf]
    rw [← hv2] at hne hg2
    exact (kleave h.wk hg hxl hs hne s (by have := hgs.few hg.toWF; omega) (fun y => by have := hgs.num_le y; omega) (fun y => by have := hgs.lb y; omega) (Nat.le_trans h.hB h.kp.size)).mono fun e w' q => hend hg2 q
end
end Go.Proofs.YtdplphhlclhmfaaDoor
