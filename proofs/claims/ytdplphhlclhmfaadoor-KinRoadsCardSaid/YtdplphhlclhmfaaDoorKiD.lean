/- kin: the walker: meet. -/
import Derived.Test.YtdplphhlclhmfaaDoorKiC
import Derived.Test.YtdplphhlclhmfaaDoorKiB
import Derived.Test.YtdplphhlclhmfaaDoorRgA
namespace Go.Proofs.YtdplphhlclhmfaaDoor
open Go Go.RowKit
set_option linter.unusedVariables false
set_option linter.unusedSimpArgs false
set_option maxRecDepth 100000

/-- The walker in memory. -/
structure WkAt (own : Nat → Prop) (p E B wb nb bb : Nat) (L : List (List Nat)) (num low : List Nat) (met : Nat) (bv : Value) (br : List Nat) (wr : World) : Prop where
  tu : Tu wr own p E L
  blk : Blk wr wb #[.pointer (some ⟨p, 0, none⟩), .slice (some ⟨nb, 0, none⟩) L.length L.length, .slice (some ⟨bb, 0, none⟩) L.length L.length, .int .i64 (met : Nat), bv] 111
  nm : Blk wr nb (nats num).toArray 3
  lw : Blk wr bb (nats low).toArray 3
  br : wr.ownsRow B 3 1 bv br.length (nats br)
  nl : num.length = L.length
  ll : low.length = L.length
  ne : wb ≠ nb ∧ wb ≠ bb ∧ nb ≠ bb ∧ wb < B ∧ nb < B ∧ bb < B
  lo : ∀ k, own k → k ≠ wb ∧ k ≠ nb ∧ k ≠ bb ∧ k < B
section
variable {own : Nat → Prop} {p E B wb nb bb : Nat} {L : List (List Nat)} {num low : List Nat} {met : Nat} {bv : Value} {br : List Nat} {wr w1 : World}
theorem WkAt.keep (h : WkAt own p E B wb nb bb L num low met bv br wr) (hk : Keeps (fun _ => False) wr w1) : WkAt own p E B wb nb bb L num low met bv br w1 :=
  ⟨h.tu.keep hk, h.blk.kept hk id, h.nm.kept hk id, h.lw.kept hk id, ownsRow_kept h.br hk fun _ _ q => q.elim, h.nl, h.ll, h.ne, h.lo⟩
theorem WkAt.kept {fp : Nat → Prop} (h : WkAt own p E B wb nb bb L num low met bv br wr) (hk : Keeps fp wr w1) (h1 : ¬ fp wb ∧ ¬ fp nb ∧ ¬ fp bb) (h2 : ∀ k, own k → ¬ fp k) (h3 : ∀ q, bv.ownBlock = some q → ¬ fp q) : WkAt own p E B wb nb bb L num low met bv br w1 :=
  ⟨h.tu.kept hk h2, h.blk.kept hk h1.1, h.nm.kept hk h1.2.1, h.lw.kept hk h1.2.2, ownsRow_kept h.br hk h3, h.nl, h.ll, h.ne, h.lo⟩
theorem WkAt.brB (h : WkAt own p E B wb nb bb L num low met bv br wr) {q : Nat} (hq : bv.ownBlock = some q) : B ≤ q := (h.br.lt q hq).1
theorem Blk.cells5 {w : World} {b : Nat} {x y z u v : Value} {t : TypeId} (h : Blk w b #[x, y, z, u, v] t) : w.cell? ⟨b, 0, none⟩ = some x ∧ w.cell? ⟨b, 1, none⟩ = some y ∧ w.cell? ⟨b, 2, none⟩ = some z ∧ w.cell? ⟨b, 3, none⟩ = some u ∧ w.cell? ⟨b, 4, none⟩ = some v := by
  have h0 := h.cell (i := 0)
  have h1 := h.cell (i := 1)
  have h2 := h.cell (i := 2)
  have h3 := h.cell (i := 3)
  have h4 := h.cell (i := 4)
  simp only [List.getElem?_toArray, List.getElem?_cons_zero, List.getElem?_cons_succ] at h0 h1 h2 h3 h4
  exact ⟨h0, h1, h2, h3, h4⟩
/-- One number more; the vertex numbered. -/
theorem nats_set (l : List Nat) (i x : Nat) : (nats l).toArray.setIfInBounds i (.int .i64 (x : Nat)) = (nats (l.set i x)).toArray := by
  rw [List.setIfInBounds_toArray]
  congr 1
  unfold nats
  rw [List.map_set]
theorem WkAt.met1 (h : WkAt own p E B wb nb bb L num low met bv br wr) (m : Nat) : WkAt own p E B wb nb bb L num low m bv br (wr.setCell ⟨wb, 3, none⟩ (.int .i64 (m : Nat))) := by
  have hk : Keeps (fun k => k = wb) wr (wr.setCell ⟨wb, 3, none⟩ (.int .i64 (m : Nat))) := (Keeps.refl (fun k => k = wb) wr).setIn wb 3 _ rfl
  refine ⟨h.tu.kept hk fun k q e => (h.lo k q).1 e, ?_, h.nm.kept hk fun e => h.ne.1 e.symm, h.lw.kept hk fun e => h.ne.2.1 e.symm, ownsRow_kept h.br hk fun k q e => ?_, h.nl, h.ll, h.ne, h.lo⟩
  · have := h.blk.set 3 (.int .i64 (m : Nat))
    simpa using this
  · have := h.brB q
    have := h.ne
    omega
theorem WkAt.setN (h : WkAt own p E B wb nb bb L num low met bv br wr) (i x : Nat) : WkAt own p E B wb nb bb L (num.set i x) low met bv br (wr.setCell ⟨nb, i, none⟩ (.int .i64 (x : Nat))) := by
  have hk : Keeps (fun k => k = nb) wr (wr.setCell ⟨nb, i, none⟩ (.int .i64 (x : Nat))) := (Keeps.refl (fun k => k = nb) wr).setIn nb i _ rfl
  refine ⟨h.tu.kept hk fun k q e => (h.lo k q).2.1 e, h.blk.kept hk fun e => h.ne.1 e, ?_, h.lw.kept hk fun e => h.ne.2.2.1 e.symm, ownsRow_kept h.br hk fun k q e => ?_, by rw [List.length_set]; exact h.nl, h.ll, h.ne, h.lo⟩
  · have := h.nm.set i (.int .i64 (x : Nat))
    rwa [nats_set] at this
  · have := h.brB q
    have := h.ne
    omega
theorem WkAt.setL (h : WkAt own p E B wb nb bb L num low met bv br wr) (i x : Nat) : WkAt own p E B wb nb bb L num (low.set i x) met bv br (wr.setCell ⟨bb, i, none⟩ (.int .i64 (x : Nat))) := by
  have hk : Keeps (fun k => k = bb) wr (wr.setCell ⟨bb, i, none⟩ (.int .i64 (x : Nat))) := (Keeps.refl (fun k => k = bb) wr).setIn bb i _ rfl
  refine ⟨h.tu.kept hk fun k q e => (h.lo k q).2.2.1 e, h.blk.kept hk fun e => h.ne.2.1 e, h.nm.kept hk fun e => h.ne.2.2.1 e, ?_, ownsRow_kept h.br hk fun k q e => ?_, h.nl, by rw [List.length_set]; exact h.ll, h.ne, h.lo⟩
  · have := h.lw.set i (.int .i64 (x : Nat))
    rwa [nats_set] at this
  · have := h.brB q
    have := h.ne
    omega
/-- What a walker's methods may write. -/
def wkF (wb nb bb : Nat) (q : Nat) : Prop := q = wb ∨ q = nb ∨ q = bb
def MeetPost (own : Nat → Prop) (p E B wb nb bb : Nat) (L : List (List Nat)) (num low : List Nat) (met : Nat) (bv : Value) (br : List Nat) (v : Nat) (bd : Int) (w : World) (e : Ending) (w' : World) : Prop :=
  ∃ a c, e = .returned (.agg #[.int .i64 (v : Nat), .int .i64 bd, .slice a (arL L v).length c]) ∧ WkAt own p E B wb nb bb L (num.set v (met + 1)) (low.set v (met + 1)) (met + 1) bv br w' ∧ Rd w' a (nats (arL L v)) ∧ Fresh w.heap.size a ∧ Keeps (wkF wb nb bb) w w' ∧ (arL L v).length ≤ c
set_option maxHeartbeats 4000000 in
theorem kmeet (h : WkAt own p E B wb nb bb L num low met bv br wr) (hg : Good E L) {v : Nat} (hv : v < L.length) (bd : Int) (hm : met ≤ 4194304) :
    Calls Tryd.prog 90 #[.pointer (some ⟨wb, 0, none⟩), .int .i64 (v : Int), .int .i64 bd] wr (MeetPost own p E B wb nb bb L num low met bv br v bd wr) := by
  generalize hW : wr.alloc (.cells #[.int .i64 0, .int .i64 0, .slice none 0 0] 150) = w0
  have hk0 : Keeps (fun _ => False) wr w0 := by rw [← hW]; exact (Keeps.refl _ _).alloc _
  have HRB : Hid (Blk w0 wr.heap.size #[.int .i64 0, .int .i64 0, .slice none 0 0] 150) := by rw [← hW]; exact Lib.hid (Blk.new _ _ _)
  have HK0 := Lib.hid hk0
  have h0 := h.keep hk0
  have H1 := Lib.hid (h0.met1 (met + 1))
  have hM : ((met + 1 : Nat) : Int) = (met : Int) + 1 := by omega
  have HKM : Hid (Keeps (wkF wb nb bb) w0 (w0.setCell ⟨wb, 3, none⟩ (.int .i64 ((met + 1 : Nat) : Int)))) := Lib.hid ((Keeps.refl _ w0).setIn wb 3 _ (Or.inl rfl))
  have HBV : Hid (∀ q, bv.ownBlock = some q → q < wr.heap.size) := Lib.hid fun q e => (h.br.lt q e).2
  have HOW : Hid (∀ q, own q → q < wr.heap.size) := Lib.hid fun q e => h.tu.lt q e
  rw [hM] at H1 HKM
  obtain ⟨c0, c1, c2, c3, c4⟩ := h0.blk.cells5
  have f3 := h0.blk.free 3
  have hwm : IntKind.i64.wrap ((met : Int) + 1) = (met : Int) + 1 := by rw [IntKind.wrap_i64]; omega
  have hvI : (v : Int) < (L.length : Int) := by omega
  have HNE := Lib.hid h.ne
  have HBX : Hid (wb < wr.heap.size ∧ nb < wr.heap.size ∧ bb < wr.heap.size) := Lib.hid ⟨h.blk.lt, h.nm.lt, h.lw.lt⟩
  clear h h0 hk0
  unfold MeetPost
  go_enter Tryd.func90, Tryd.ntmps90
  go_upto_region 2 with fail
  clear hW c0 c1 c2 c3 c4 f3
  generalize World.setCell w0 _ _ = w1 at *
  have hx := HKM.out.size
  have HRB1 := Lib.hid (HRB.out)
  obtain ⟨c0, c1, c2, c3, c4⟩ := H1.out.blk.cells5
  rw [hM] at c3
  have fn := H1.out.nm.free v
  have fb := H1.out.lw.free v
  have cn := H1.out.nm.cell v
  have cb := H1.out.lw.cell v
  rw [List.getElem?_toArray, nats_get (by rw [H1.out.nl]; exact hv)] at cn
  rw [List.getElem?_toArray, nats_get (by rw [H1.out.ll]; exact hv)] at cb
  have E2 := H1.out.setN v (met + 1)
  have E2' := H1.out.setL v (met + 1)
  rw [hM] at E2 E2'
  obtain ⟨d0, d1, d2, d3, d4⟩ := E2.blk.cells5
  rw [hM] at d3
  have gb := E2.lw.free v
  have gc := E2.lw.cell v
  rw [List.getElem?_toArray, nats_get (by rw [E2.ll]; exact hv)] at gc
  obtain ⟨e0, e1, e2, e3, e4⟩ := E2'.blk.cells5
  rw [hM] at e3
  have gn := E2'.nm.free v
  have gm := E2'.nm.cell v
  rw [List.getElem?_toArray, nats_get (by rw [E2'.nl]; exact hv)] at gm
  have H3 := Lib.hid ((H1.out.setN v (met + 1)).setL v (met + 1))
  have H3' := Lib.hid ((H1.out.setL v (met + 1)).setN v (met + 1))
  have HK3 : Hid (∀ x y, Keeps (wkF wb nb bb) w0 ((w1.setCell ⟨nb, v, none⟩ x).setCell ⟨bb, v, none⟩ y) ∧ Keeps (wkF wb nb bb) w0 ((w1.setCell ⟨bb, v, none⟩ y).setCell ⟨nb, v, none⟩ x)) := Lib.hid fun x y => ⟨(HKM.out.setIn nb v x (Or.inr (Or.inl rfl))).setIn bb v y (Or.inr (Or.inr rfl)), (HKM.out.setIn bb v y (Or.inr (Or.inr rfl))).setIn nb v x (Or.inr (Or.inl rfl))⟩
  rw [hM] at H3 H3'
  clear E2 E2'
  generalize num.getD v 0 = nv at *
  generalize low.getD v 0 = lv at *
  go_cut [] (fun wd => Hid (WkAt own p E B wb nb bb L (num.set v (met + 1)) (low.set v (met + 1)) (met + 1) bv br wd ∧ Keeps (wkF wb nb bb) w0 wd))
  case first =>
    go_region
    all_goals
      go_wp2_with fail
      go_meet
      first
        | with_reducible exact Lib.hid ⟨H3.out.keep (Keeps.refl _ _).drew, (HK3.out _ _).1.drew⟩
        | with_reducible exact Lib.hid ⟨H3'.out.keep (Keeps.refl _ _).drew, (HK3.out _ _).2.drew⟩
  case rest =>
    obtain ⟨hwk, hkw⟩ := hcut.out
    have HW3 := Lib.hid hwk
    have HK4 := Lib.hid hkw
    have hrb := HRB.out.kept hkw (fun e => by
      have := HBX.out
      unfold wkF at e
      omega)
    have HRB4 := Lib.hid hrb
    have HAR := Lib.hid (karound hwk.tu hv)
    obtain ⟨c0, _, _, _, _⟩ := hwk.blk.cells5
    clear hcut hwk hkw hrb H1 H3 H3' HK3 HKM fn fb cn cb d0 d1 d2 d3 d4 gb gc e0 e1 e2 e3 e4 gn gm c1 c2 c3 c4 HRB HRB1
    unfold OwnPost tptr at HAR
    go_wp2_with fail
    with_reducible refine HAR.out.mono ?_
    rintro e w5 ⟨av, rfl, ho, hk⟩
    obtain ⟨a, c, rfl, hrd, hlc, _⟩ := Rd.of_own ho
    have HLC := Lib.hid hlc
    clear hlc
    have HFR : Hid (Fresh wc.heap.size a) := Lib.hid (Fresh.of_own ho rfl (Nat.le_refl _))
    have HRD := Lib.hid hrd
    have HW5 := Lib.hid (HW3.out.keep hk)
    have HK5 : Hid (Keeps (wkF wb nb bb) w0 w5) := Lib.hid (HK4.out.trans' (hk.mono fun _ _ q => q.elim))
    have hrb := HRB4.out.kept hk id
    have HRB5 := Lib.hid hrb
    have HLT : Hid (wr.heap.size < wc.heap.size) := Lib.hid HRB4.out.lt
    have f0 := hrb.free 0
    have f1 := hrb.free 1
    have f2 := hrb.free 2
    have r0 := hrb.cell (i := 0)
    have r1 := hrb.cell (i := 1)
    have r2 := hrb.cell (i := 2)
    simp only [List.getElem?_toArray, List.getElem?_cons_zero, List.getElem?_cons_succ] at r0 r1 r2
    clear ho hk hrd hrb HAR HW3 HK4 HRB4 c0
    generalize hal : (arL L v).length = al at *
    go_wp2_with fail
    have HB6 : Hid (Blk (((w5.setCell ⟨wr.heap.size, 0, none⟩ (.int .i64 (v : Int))).setCell ⟨wr.heap.size, 1, none⟩ (.int .i64 bd)).setCell ⟨wr.heap.size, 2, none⟩ (.slice a al c)) wr.heap.size #[.int .i64 (v : Int), .int .i64 bd, .slice a al c] 150) := Lib.hid (by
      have := ((HRB5.out.set 0 (.int .i64 (v : Int))).set 1 (.int .i64 bd)).set 2 (.slice a al c)
      simpa using this)
    have hk6 : Keeps (fun q => q = wr.heap.size) w5 (((w5.setCell ⟨wr.heap.size, 0, none⟩ (.int .i64 (v : Int))).setCell ⟨wr.heap.size, 1, none⟩ (.int .i64 bd)).setCell ⟨wr.heap.size, 2, none⟩ (.slice a al c)) := (((Keeps.refl (fun q => q = wr.heap.size) w5).setIn _ 0 _ rfl).setIn _ 1 _ rfl).setIn _ 2 _ rfl
    have HW6 := Lib.hid (HW5.out.kept hk6 (by have := HBX.out; omega) (fun k q => by have := HOW.out k q; omega) fun q e => by have := HBV.out q e; omega)
    have HR6 := Lib.hid (HRD.out.kept hk6 fun b off e => by have := HFR.out b off e; have := HLT.out; omega)
    have HK6 : Hid (Keeps (wkF wb nb bb) wr (((w5.setCell ⟨wr.heap.size, 0, none⟩ (.int .i64 (v : Int))).setCell ⟨wr.heap.size, 1, none⟩ (.int .i64 bd)).setCell ⟨wr.heap.size, 2, none⟩ (.slice a al c))) := Lib.hid ((((HK0.out.mono (fp' := wkF wb nb bb) fun _ _ q => q.elim).trans' HK5.out).setCell _ _ fun q => absurd q (Nat.lt_irrefl _)).setCell _ _ (fun q => absurd q (Nat.lt_irrefl _)) |>.setCell _ _ fun q => absurd q (Nat.lt_irrefl _))
    clear hk6 HRB5 HW5 HRD HK5 f0 f1 f2 r0 r1 r2
    generalize World.setCell _ _ _ = w6 at *
    have k0 := HB6.out.cell (i := 0)
    have k1 := HB6.out.cell (i := 1)
    have k2 := HB6.out.cell (i := 2)
    simp only [List.getElem?_toArray, List.getElem?_cons_zero, List.getElem?_cons_succ] at k0 k1 k2
    refine bodyPost_ret (v := .agg #[.int .i64 (v : Int), .int .i64 bd, .slice a al c]) (by simp [results, Tryd.results90, go_sem, k0, k1, k2]) rfl ?_
    exact ⟨a, c, by rw [hal], HW6.out, HR6.out, fun b off e => by have := HFR.out b off e; have := HLT.out; omega, HK6.out, by rw [hal]; exact HLC.out⟩
end
end Go.Proofs.YtdplphhlclhmfaaDoor
