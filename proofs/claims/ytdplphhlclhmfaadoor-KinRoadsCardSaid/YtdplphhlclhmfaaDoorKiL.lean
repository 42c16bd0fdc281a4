/- Chapter 15's laws: ints, corner, an act done to both, both turns made by acts. -/
import Derived.Test.YtdplphhlclhmfaaDoorKj
namespace Go.Proofs.YtdplphhlclhmfaaDoor
open Go Go.RowKit
set_option linter.unusedVariables false
set_option linter.unusedSimpArgs false
set_option maxRecDepth 100000

theorem ints15_eq (a1 a2 : Option Addr) (c1 c2 n : Nat) (l : List Nat) (hn : n = l.length) (hm : n ≤ 9000000000000000000) (w : World) (h1 : Rd w a1 (nats l)) (h2 : Rd w a2 (nats l)) :
    Calls Tryd.prog 28 #[.slice a1 n c1, .slice a2 n c2] w (TruePost w) := by
  subst hn
  have HN1 := Lib.hid (fun (i : Nat) (hi : i < l.length) => h1.nat hi)
  have HN2 := Lib.hid (fun (i : Nat) (hi : i < l.length) => h2.nat hi)
  clear h1 h2
  unfold TruePost
  go_enter Tryd.func28, Tryd.ntmps28
  go_wp2_with fail
  go_loopw [5] (fun i wr => ∃ (k q : Nat), k ≤ l.length ∧ i = .int .i64 (k : Int) ∧ wr = w.drewN q) (fun i _ => l.length - (intOf i).toNat)
  case atStart => exact ⟨0, 0, Nat.zero_le _, rfl, rfl⟩
  case round =>
    obtain ⟨k, q, hk, rfl, rfl⟩ := hrel
    by_cases hlt : k < l.length
    · obtain ⟨b1, o1, rfl, e1⟩ := HN1.out _ hlt
      obtain ⟨b2, o2, rfl, e2⟩ := HN2.out _ hlt
      generalize l.getD k 0 = x at *
      go_wp2_with fail
      go_quiet (fail)
      go_wp2_with fail
      refine ⟨⟨k + 1, _, hlt, by go_num, rfl⟩, by simp [intOf]; omega⟩
    · go_wp2_with fail
      go_ret
      exact ⟨rfl, (Keeps.refl _ _).drewN _⟩
/-! Chapter 11's laws: corner. -/
section
variable {w : World} {B E : Nat} {v : Value} {L : List (List Nat)}
theorem corner15 (h : LsRow w B v L) (hw : WF E L) (h0 : 0 < L.length) (hV : L.length ≤ 1048576) (hE : E ≤ 1048576) (c : Int × Int) (raw : Bool) :
    Calls Tryd.prog 88 #[rval E v, cArr c, .bool raw] w (RetPost (cArr (crnR L c raw)) w) := by
  obtain ⟨c1, c2⟩ := c
  have hnd := hw
  obtain ⟨g, cc, rfl, hc, hB, hat⟩ := h.at_ h0
  generalize hW : ((w.alloc (.cells #[.int .i64 (E : Int), .slice (some ⟨g, 0, none⟩) L.length cc] 27)).alloc (.cells #[.int .i64 c1, .int .i64 c2] 45)).alloc (.cells #[.int .i64 0, .int .i64 0] 45) = w0
  have hK0 : Keeps (fun _ => False) w w0 := by rw [← hW]; exact (((Keeps.refl _ _).alloc _).alloc _).alloc _
  have HBT : Hid (Blk w0 w.heap.size #[.int .i64 (E : Int), .slice (some ⟨g, 0, none⟩) L.length cc] 27) := by rw [← hW]; exact ((Blk.new w _ _).alloc _).alloc _
  have HBC : Hid (Blk w0 (w.heap.size + 1) #[.int .i64 c1, .int .i64 c2] 45) := by rw [← hW]; exact (Blk.newAt _ _ _ (by simp)).alloc _
  have HBR : Hid (Blk w0 (w.heap.size + 1 + 1) #[.int .i64 0, .int .i64 0] 45) := by rw [← hW]; exact Blk.newAt _ _ _ (by simp)
  have HK0 := Lib.hid hK0
  have t1 := HBT.out.cell (i := 1)
  have d0 := HBC.out.cell (i := 0)
  have d1 := HBC.out.cell (i := 1)
  have r0 := HBR.out.cell (i := 0)
  have r1 := HBR.out.cell (i := 1)
  have q0 := HBR.out.free 0
  have q1 := HBR.out.free 1
  have hrl := HBR.out.lt
  simp only [List.getElem?_toArray, List.getElem?_cons_zero, List.getElem?_cons_succ] at t1 d0 d1 r0 r1
  have HEND : Hid (∀ (W : World), Keeps (fun _ => False) w0 W → ∀ x y : Int, Blk ((W.setCell ⟨w.heap.size + 1 + 1, 0, none⟩ (.int .i64 x)).setCell ⟨w.heap.size + 1 + 1, 1, none⟩ (.int .i64 y)) (w.heap.size + 1 + 1) #[.int .i64 x, .int .i64 y] 45 ∧
      Keeps (fun _ => False) w ((W.setCell ⟨w.heap.size + 1 + 1, 0, none⟩ (.int .i64 x)).setCell ⟨w.heap.size + 1 + 1, 1, none⟩ (.int .i64 y))) := fun W hk x y =>
    ⟨((HBR.out.kept hk id).set 0 (.int .i64 x)).set 1 (.int .i64 y), ((HK0.out.trans' hk).setNew (by omega) 0 _).setNew (by omega) 1 _⟩
  unfold rval cArr RetPost
  cases raw with
  | true =>
    have e : crnR L (c1, c2) true = (c1, c2) := rfl
    rw [e]
    clear h hat
    have HE := Lib.hid (HEND.out w0 (Keeps.refl _ _) c1 c2)
    go_enter Tryd.func88, Tryd.ntmps88
    go_upto_region 1 with fail
    clear hW
    go_wp2_with fail
    generalize (World.setCell _ _ _).setCell _ _ = WW at *
    have k0 := HE.out.1.cell (i := 0)
    have k1 := HE.out.1.cell (i := 1)
    refine bodyPost_ret (v := .agg #[.int .i64 c1, .int .i64 c2]) (by simp at k0 k1; simp [results, Tryd.results88, go_sem, k0, k1]) rfl ?_
    exact ⟨rfl, HE.out.2⟩
  | false =>
    have e : crnR L (c1, c2) false = crn L (c1, c2) := rfl
    rw [e]
    have hv := Nat.mod_lt (unsg c1) h0
    have HM := Lib.hid (mod_val c1 L.length h0 (by omega))
    obtain ⟨u, hu, hrow⟩ := hat (unsg c1 % L.length) _ (some_getD hv)
    obtain ⟨a, c3, rfl, hrd⟩ := hrow.rd
    have hu0 := HK0.out.cellF hu
    have hll : (L.getD (unsg c1 % L.length) []).length ≤ 2 * E := by
      have h1 : (L.getD (unsg c1 % L.length) []).length ≤ (List.range (2 * E)).length := List.Nodup.length_le_of_subset (hw.nd (some_getD hv)) (fun x hx => List.mem_range.2 (hw.bd (some_getD hv) hx))
      simpa using h1
    unfold crn
    clear h hat e hrow
    simp only at *
    generalize L.getD (unsg c1 % L.length) [] = l at *
    generalize unsg c1 % L.length = n at *
    have hl0 : ((l.length : Int) == 0) = decide (l = []) := by
      cases l with
      | nil => rfl
      | cons a l => simp; omega
    by_cases hl : l = []
    · rw [if_pos hl]
      rw [decide_eq_true hl] at hl0
      have HE := Lib.hid (HEND.out w0 (Keeps.refl _ _) (n : Int) (-1))
      go_enter Tryd.func88, Tryd.ntmps88
      go_upto_region 4 with fail
      clear hW
      rw [HM.out]
      go_wp2_with fail
      generalize (World.setCell _ _ _).setCell _ _ = WW at *
      have k0 := HE.out.1.cell (i := 0)
      have k1 := HE.out.1.cell (i := 1)
      refine bodyPost_ret (v := .agg #[.int .i64 (n : Int), .int .i64 (-1)]) (by simp at k0 k1; simp [results, Tryd.results88, go_sem, k0, k1]) rfl ?_
      exact ⟨rfl, HE.out.2⟩
    · rw [if_neg hl]
      rw [decide_eq_false hl] at hl0
      have hlp : 0 < l.length := by
        rcases Nat.eq_zero_or_pos l.length with h | h
        · exact absurd (List.eq_nil_of_length_eq_zero h) hl
        · exact h
      have hk := Nat.mod_lt (unsg c2) hlp
      have HM2 := mod_valK c2 l.length hlp (by omega)
      have hl1 : (l.length : Int) ≠ 0 := by omega
      have hl2 : ((l.length : Int) == 0) = false := by rw [beq_eq_false_iff_ne]; exact hl1
      obtain ⟨b, off, rfl, hcell⟩ := hrd.nat hk
      have hc0 := HK0.out.cellF hcell
      generalize l.getD (unsg c2 % l.length) 0 = x at *
      generalize unsg c2 % l.length = m at *
      have hml : (m : Int) < (l.length : Int) := by omega
      have HE0 := HEND.out w0 (Keeps.refl _ _) (n : Int) (x : Int)
      have HE := Lib.hid (And.intro HE0.1.drew HE0.2.drew)
      clear HE0
      go_enter Tryd.func88, Tryd.ntmps88
      go_upto_region 4 with fail
      clear hW
      rw [HM.out]
      go_wp2_with fail
      go_region
      go_wp2_with fail
      generalize ((World.setCell _ _ _).setCell _ _).drew = WW at *
      have k0 := HE.out.1.cell (i := 0)
      have k1 := HE.out.1.cell (i := 1)
      refine bodyPost_ret (v := .agg #[.int .i64 (n : Int), .int .i64 (x : Int)]) (by simp at k0 k1; simp [results, Tryd.results88, go_sem, k0, k1]) rfl ?_
      exact ⟨rfl, HE.out.2⟩
end
section
variable {w : World} {own : Nat → Prop} {p Et E B : Nat} {v : Value} {L : List (List Nat)}
set_option maxHeartbeats 2000000 in
theorem do15_lift (ht : Tu w own p Et L) (h : LsRow w B v L) (hg : Good E L) (hE : ErrT w) (hown : ∀ k, own k → k < B) (hng : ¬ own 0) (x : Act10) (hr : Room E Et x.e) (hx : 9 < unsg x.kind % 12) :
    Calls Tryd.prog 55 #[tptr p, rval E v, actVal x] w (DoPost own p Et E B (actL E L x) w) := by
  have hV := ht.v2
  have hV1 := ht.v1
  have hle := hr.le
  have hEE := Nat.le_trans hle ht.e2
  have h0 : 0 < L.length := hV1
  have hBw := h.size_le h0
  obtain ⟨kind, e, ⟨a1, a2⟩, ⟨b1, b2⟩⟩ := x
  have hact : actL E L ⟨kind, e, (a1, a2), (b1, b2)⟩ = lift E L e := by unfold actL; rw [if_pos hx]
  rw [hact]
  simp only at hx hr
  obtain ⟨q1, q2⟩ := hr.lift L
  obtain ⟨va, vc, rfl⟩ := h.form
  have HM := Lib.hid (mod_val kind 12 (by decide) (by decide))
  have hk12 := Nat.mod_lt (unsg kind) (show 0 < 12 by decide)
  generalize unsg kind % 12 = m at *
  unfold actVal
  generalize hW : ((w.alloc (.cells #[.int .i64 (E : Int), .slice va L.length vc] 27)).alloc (.cells #[.int .i64 kind, .int .i64 e, .int .i64 a1, .int .i64 a2, .int .i64 b1, .int .i64 b2] 106)).alloc (.cells #[.int .i64 0, .slice none 0 0] 27) = w0
  have hK0 : Keeps (fun _ => False) w w0 := by rw [← hW]; exact (((Keeps.refl _ _).alloc _).alloc _).alloc _
  have HBT : Hid (Blk w0 w.heap.size #[.int .i64 (E : Int), .slice va L.length vc] 27) := by rw [← hW]; exact ((Blk.new w _ _).alloc _).alloc _
  have HBA : Hid (Blk w0 (w.heap.size + 1) #[.int .i64 kind, .int .i64 e, .int .i64 a1, .int .i64 a2, .int .i64 b1, .int .i64 b2] 106) := by rw [← hW]; exact (Blk.newAt _ _ _ (by simp)).alloc _
  have HBR : Hid (Blk w0 (w.heap.size + 1 + 1) #[.int .i64 0, .slice none 0 0] 27) := by rw [← hW]; exact Blk.newAt _ _ _ (by simp)
  have HK0 := Lib.hid hK0
  have HT0 := Lib.hid (ht.keep hK0)
  have HL0 := Lib.hid (h.keep hK0)
  have HE0 := Lib.hid (hE.keep hK0)
  have HRL := Lib.hid (rlift HL0.out hg h0 hV hEE e)
  have HTL : Hid (∀ W, Keeps (fun _ => False) w0 W → Calls Tryd.prog 35 #[tptr p, .int .i64 e] W (TPost own p Et (lift E L e) (errVal (liftErr E L e)) W)) := Lib.hid fun W hk => by have := tlift (HT0.out.keep hk) (hg.more hle) e; rwa [q1, q2] at this
  clear q1 q2 hr
  have HOWN := Lib.hid (fun k (hk : own k) => Nat.lt_of_lt_of_le (hown k hk) hBw)
  clear hK0 ht h hE hact
  generalize lift E L e = L2 at *
  generalize liftErr E L e = er at *
  unfold rval tptr DoPost
  unfold RLPost at HRL
  unfold rval at HRL
  unfold TPost tptr at HTL
  go_enter Tryd.func55, Tryd.ntmps55
  go_upto_region 1 with fail
  clear hW
  have d0 := HBA.out.cell (i := 0)
  have d1 := HBA.out.cell (i := 1)
  have t0 := HBT.out.cell (i := 0)
  have t1 := HBT.out.cell (i := 1)
  simp only [List.getElem?_toArray, List.getElem?_cons_zero, List.getElem?_cons_succ] at d0 d1 t0 t1
  go_upto_region 2 with fail
  rw [show (12 : Int) = ((12 : Nat) : Int) from rfl, HM.out]
  have hm9 : decide ((9 : Int) < (m : Int)) = true := by simp; omega
  go_wp2_with fail
  refine HRL.out.mono ?_
  rintro e2 w2 ⟨v2, rfl, hls2, hk2⟩
  obtain ⟨va2, vc2, rfl⟩ := hls2.form
  have HK3 : Hid (Keeps (fun _ => False) w0 (w2.alloc (.cells #[.int .i64 (E : Int), .slice va2 L2.length vc2] 27))) := hk2.alloc _
  have HY : Hid (Blk (w2.alloc (.cells #[.int .i64 (E : Int), .slice va2 L2.length vc2] 27)) w2.heap.size #[.int .i64 (E : Int), .slice va2 L2.length vc2] 27) := Blk.new w2 _ _
  have HL3 : Hid (LsRow (w2.alloc (.cells #[.int .i64 (E : Int), .slice va2 L2.length vc2] 27)) B (.slice va2 L2.length vc2) L2) := hls2.keep ((Keeps.refl _ _).alloc _)
  have HYB : Hid (w.heap.size + 1 + 1 < w2.heap.size) := Nat.lt_of_lt_of_le HBR.out.lt hk2.size
  clear hls2 hk2 HRL d0 d1 t0 t1
  go_upto_region 4 with fail
  generalize w2.alloc _ = w3 at *
  generalize w2.heap.size = yb at *
  have y0 := HY.out.cell (i := 0)
  have y1 := HY.out.cell (i := 1)
  have d1 := (HBA.out.kept HK3.out id).cell (i := 1)
  simp only [List.getElem?_toArray, List.getElem?_cons_zero, List.getElem?_cons_succ] at y0 y1 d1
  have HNO : Hid (¬ own yb ∧ ¬ own (w.heap.size + 1) ∧ ¬ own (w.heap.size + 1 + 1)) := ⟨fun q => by have := HOWN.out _ q; have := HYB.out; omega, fun q => by have := HOWN.out _ q; omega, fun q => by have := HOWN.out _ q; omega⟩
  have HNE : Hid (yb ≠ w.heap.size + 1 + 1 ∧ w.heap.size + 1 ≠ w.heap.size + 1 + 1 ∧ w.heap.size ≤ w.heap.size + 1 + 1) := ⟨fun q => by have := HYB.out; omega, by omega, by omega⟩
  have HTL3 := Lib.hid (HTL.out w3.drew (HK3.out.trans' ((Keeps.refl _ _).drew)))
  have HER3 := Lib.hid (HE0.out.keep (HK3.out.trans' ((Keeps.refl _ w3).drew)))
  have HDR : Hid (Keeps own w3 w3.drew) := (Keeps.refl _ _).drew
  have hee : (((er : Nat) : Int) == ((er : Nat) : Int)) = true := by simp
  go_region_held3 (fun w' => w'.cell? ⟨yb, 0, none⟩ = some (.int .i64 (E : Int)) ∧ w'.cell? ⟨yb, 1, none⟩ = some (.slice va2 L2.length vc2) ∧ w'.cell? ⟨w.heap.size + 1, 1, none⟩ = some (.int .i64 e))
    (first | exact ⟨y0, y1, d1⟩ | exact ⟨s0, s1, s2⟩ | exact ⟨hk6.cellF s0, hk6.cellF s1, hk6.cellF s2⟩ | exact ⟨cell_set2 (hk6.cellF s0) HNE.out.1, cell_set2 (hk6.cellF s1) HNE.out.1, cell_set2 (hk6.cellF s2) HNE.out.2.1⟩ | assumption)
    (first
      | (go_at_call 35; refine HTL3.out.mono ?_; rintro e5 w5 ⟨rfl, ht5, hk5⟩; have hkO := HDR.out.trans' hk5; have s0 := hkO.cellO y0 HNO.out.1; have s1 := hkO.cellO y1 HNO.out.1; have s2 := hkO.cellO d1 HNO.out.2.1)
      | (go_at_call 27; refine (num15_val er _ (HER3.out.kept hk5 hng)).mono ?_; rintro e6 w6 ⟨rfl, hk6⟩; have hR6 := ((HBR.out.kept HK3.out id).kept hkO HNO.out.2.2).kept hk6 id; have r0 := hR6.cell (i := 0); have r1 := hR6.cell (i := 1); have q0 := hR6.free 0; have q1 := hR6.free 1; have rl := hR6.lt; simp only [List.getElem?_toArray, List.getElem?_cons_zero, List.getElem?_cons_succ] at r0 r1)
      | fail)
  have HE := do_end (E := E) (((HK0.out.trans' HK3.out).mono (fp' := own) fun _ _ q => q.elim).trans' (hkO.trans' (hk6.mono fun _ _ q => q.elim))) ((HL3.out.kept hkO hown).keep hk6) hR6 HNE.out.2.2 rfl (ht5.keep hk6) HNO.out.2.2
  clear r0 r1 q0 q1 s0 s1 s2 hkO hk5 ht5 hk6 hR6
  go_wp2_with fail
  generalize (World.setCell _ _ _).setCell _ (.slice va2 _ _) = WW at *
  have k0 := HE.out.1.cell (i := 0)
  have k1 := HE.out.1.cell (i := 1)
  refine bodyPost_ret (v := .tuple #[rval E (.slice va2 L2.length vc2), .bool true]) (by simp at k0 k1; simp [results, Tryd.results55, go_sem, k0, k1, rval]) rfl ?_
  exact ⟨_, rfl, HE.out.2⟩
end
section
variable {w : World} {own : Nat → Prop} {p Et E B : Nat} {v : Value} {L : List (List Nat)}
set_option maxHeartbeats 2000000 in
theorem do15_lay (ht : Tu w own p Et L) (h : LsRow w B v L) (hg : Good E L) (hE : ErrT w) (hown : ∀ k, own k → k < B) (hng : ¬ own 0) (x : Act10) (hr : Room E Et x.e) (hx : ¬ 9 < unsg x.kind % 12) :
    Calls Tryd.prog 55 #[tptr p, rval E v, actVal x] w (DoPost own p Et E B (actL E L x) w) := by
  have hV := ht.v2
  have hV1 := ht.v1
  have hle := hr.le
  have hEE := Nat.le_trans hle ht.e2
  have h0 : 0 < L.length := hV1
  have hBw := h.size_le h0
  obtain ⟨kind, e, ⟨a1, a2⟩, ⟨b1, b2⟩⟩ := x
  have hact : actL E L ⟨kind, e, (a1, a2), (b1, b2)⟩ = lay E L e (crnR L (a1, a2) (unsg kind % 12 == 9)) (crnR L (b1, b2) (unsg kind % 12 == 9)) := by unfold actL; rw [if_neg hx]
  rw [hact]
  simp only at hx hr
  obtain ⟨va, vc, rfl⟩ := h.form
  have HM := Lib.hid (mod_val kind 12 (by decide) (by decide))
  have hk12 := Nat.mod_lt (unsg kind) (show 0 < 12 by decide)
  generalize unsg kind % 12 = m at *
  unfold actVal
  generalize hW : ((w.alloc (.cells #[.int .i64 (E : Int), .slice va L.length vc] 27)).alloc (.cells #[.int .i64 kind, .int .i64 e, .int .i64 a1, .int .i64 a2, .int .i64 b1, .int .i64 b2] 106)).alloc (.cells #[.int .i64 0, .slice none 0 0] 27) = w0
  have hK0 : Keeps (fun _ => False) w w0 := by rw [← hW]; exact (((Keeps.refl _ _).alloc _).alloc _).alloc _
  have HBT : Hid (Blk w0 w.heap.size #[.int .i64 (E : Int), .slice va L.length vc] 27) := by rw [← hW]; exact ((Blk.new w _ _).alloc _).alloc _
  have HBA : Hid (Blk w0 (w.heap.size + 1) #[.int .i64 kind, .int .i64 e, .int .i64 a1, .int .i64 a2, .int .i64 b1, .int .i64 b2] 106) := by rw [← hW]; exact (Blk.newAt _ _ _ (by simp)).alloc _
  have HBR : Hid (Blk w0 (w.heap.size + 1 + 1) #[.int .i64 0, .slice none 0 0] 27) := by rw [← hW]; exact Blk.newAt _ _ _ (by simp)
  have HK0 := Lib.hid hK0
  have HT0 := Lib.hid (ht.keep hK0)
  have HL0 := Lib.hid (h.keep hK0)
  have HE0 := Lib.hid (hE.keep hK0)
  have HCA := Lib.hid (fun W (hk : Keeps (fun _ => False) w0 W) => corner15 (HL0.out.keep hk) hg.toWF h0 hV hEE (a1, a2) (m == 9))
  have HCB := Lib.hid (fun W (hk : Keeps (fun _ => False) w0 W) => corner15 (HL0.out.keep hk) hg.toWF h0 hV hEE (b1, b2) (m == 9))
  have HOWN := Lib.hid (fun k (hk : own k) => Nat.lt_of_lt_of_le (hown k hk) hBw)
  clear hK0 ht h hE hact
  generalize crnR L (a1, a2) (m == 9) = ca at *
  generalize crnR L (b1, b2) (m == 9) = cb at *
  obtain ⟨ca1, ca2⟩ := ca
  obtain ⟨cb1, cb2⟩ := cb
  have HRL := Lib.hid (fun W (hk : Keeps (fun _ => False) w0 W) => rlay (HL0.out.keep hk) hg h0 hV hEE e (ca1, ca2) (cb1, cb2))
  obtain ⟨q1, q2⟩ := hr.lay L (ca1, ca2) (cb1, cb2)
  have HTL : Hid (∀ W, Keeps (fun _ => False) w0 W → Calls Tryd.prog 24 #[tptr p, .int .i64 e, cval ca1 ca2, cval cb1 cb2] W (TPost own p Et (lay E L e (ca1, ca2) (cb1, cb2)) (errVal (layErr E L e (ca1, ca2) (cb1, cb2))) W)) := Lib.hid fun W hk => by have := tlay (HT0.out.keep hk) (hg.more hle) e (ca1, ca2) (cb1, cb2); rwa [q1, q2] at this
  clear q1 q2 hr
  generalize lay E L e (ca1, ca2) (cb1, cb2) = L2 at *
  generalize layErr E L e (ca1, ca2) (cb1, cb2) = er at *
  unfold rval tptr DoPost
  unfold RLPost at HRL
  unfold rval at HRL
  unfold TPost tptr cval at HTL
  unfold rval cArr RetPost at HCA HCB
  simp only at HCA HCB HRL HTL
  go_enter Tryd.func55, Tryd.ntmps55
  go_upto_region 1 with fail
  clear hW
  have d0 := HBA.out.cell (i := 0)
  have d1 := HBA.out.cell (i := 1)
  have t0 := HBT.out.cell (i := 0)
  have t1 := HBT.out.cell (i := 1)
  simp only [List.getElem?_toArray, List.getElem?_cons_zero, List.getElem?_cons_succ] at d0 d1 t0 t1
  go_upto_region 2 with fail
  rw [show (12 : Int) = ((12 : Nat) : Int) from rfl, HM.out]
  have hm9 : decide ((9 : Int) < (m : Int)) = false := by simp; omega
  have a0 := HBA.out.cell (i := 2)
  have a1' := HBA.out.cell (i := 3)
  have b0 := HBA.out.cell (i := 4)
  have b1' := HBA.out.cell (i := 5)
  simp only [List.getElem?_toArray, List.getElem?_cons_zero, List.getElem?_cons_succ] at a0 a1' b0 b1'
  have hmk : ((m : Int) == 9) = (m == 9) := by
    rw [Bool.eq_iff_iff, beq_iff_eq, beq_iff_eq]; omega
  go_upto_region 5 with fail
  go_cut [11, 12] (fun s t wc => Hid (∃ pa pb, s = .pointer (some ⟨pa, 0, none⟩) ∧ t = .pointer (some ⟨pb, 0, none⟩) ∧ Blk wc pa #[.int .i64 ca1, .int .i64 ca2] 45 ∧ Blk wc pb #[.int .i64 cb1, .int .i64 cb2] 45 ∧ w0.heap.size ≤ pa ∧ w0.heap.size ≤ pb ∧ Keeps (fun _ => False) w0 wc))
  case first =>
    have hK0 : Keeps (fun _ => False) w0 w0 := Keeps.refl _ _
    have hK : Keeps (fun _ => False) w0 w0.drew := (Keeps.refl _ _).drew
    go_region_held3 (fun w' => w'.cell? ⟨w.heap.size, 0, none⟩ = some (.int .i64 (E : Int)) ∧ w'.cell? ⟨w.heap.size, 1, none⟩ = some (.slice va L.length vc) ∧ w'.cell? ⟨w.heap.size + 1, 2, none⟩ = some (.int .i64 a1) ∧ w'.cell? ⟨w.heap.size + 1, 3, none⟩ = some (.int .i64 a2) ∧ w'.cell? ⟨w.heap.size + 1, 4, none⟩ = some (.int .i64 b1) ∧ w'.cell? ⟨w.heap.size + 1, 5, none⟩ = some (.int .i64 b2))
      (first | (with_reducible exact six_keep hK t0 t1 a0 a1' b0 b1') | (with_reducible exact six_keep (hK.alloc _) t0 t1 a0 a1' b0 b1') | (with_reducible exact six_keep ((hK.alloc _).alloc _) t0 t1 a0 a1' b0 b1') | (with_reducible exact six_keep (set2_keep hK (by first | omega | (simp; omega))) t0 t1 a0 a1' b0 b1') | (with_reducible exact six_keep (set2_keep (hK.alloc _) (by first | omega | (simp; omega))) t0 t1 a0 a1' b0 b1') | (with_reducible exact six_keep ((set2_keep hK (by first | omega | (simp; omega))).alloc _) t0 t1 a0 a1' b0 b1') | (with_reducible exact six_keep (set2_keep (set2_keep hK (by first | omega | (simp; omega))) (by first | omega | (simp; omega))) t0 t1 a0 a1' b0 b1') | (with_reducible exact six_keep (set2_keep ((hK.alloc _).alloc _) (by first | omega | (simp; omega))) t0 t1 a0 a1' b0 b1') | (with_reducible exact six_keep (set2_keep (set2_keep (hK.alloc _) (by first | omega | (simp; omega))) (by first | omega | (simp; omega))) t0 t1 a0 a1' b0 b1') | (with_reducible exact six_keep (set2_keep ((set2_keep hK (by first | omega | (simp; omega))).alloc _) (by first | omega | (simp; omega))) t0 t1 a0 a1' b0 b1') | (with_reducible exact six_keep (set2_keep (set2_keep ((hK.alloc _).alloc _) (by first | omega | (simp; omega))) (by first | omega | (simp; omega))) t0 t1 a0 a1' b0 b1') | (with_reducible exact six_keep (hK0.alloc _).drew t0 t1 a0 a1' b0 b1') | (with_reducible exact six_keep ((hK0.alloc _).alloc _).drew t0 t1 a0 a1' b0 b1'))
      (first
        | (go_at_call 88; with_reducible refine (HCA.out _ (by first | exact hK | exact (hK0.alloc _).drew | exact ((hK0.alloc _).alloc _).drew)).mono ?_; rintro e5 w5 ⟨rfl, hk5⟩; have hK : Keeps (fun _ => False) w0 w5 := (by first | exact hK.trans' hk5 | exact (hK0.alloc _).drew.trans' hk5 | exact ((hK0.alloc _).alloc _).drew.trans' hk5); have hs5 : w0.heap.size ≤ w5.heap.size := hK.size; (first | (with_reducible have hz1 := box2_keptD hk5; (first | simp only [size_alloc, size_drew] at hz1 | skip); obtain ⟨z10, z11, zf10, zf11, zl1⟩ := hz1.cells) | skip); (first | (with_reducible have hz2 := box2_keptD2 hk5; (first | simp only [size_alloc, size_drew] at hz2 | skip); obtain ⟨z20, z21, zf20, zf21, zl2⟩ := hz2.cells) | skip))
        | (go_at_call 88; with_reducible refine (HCB.out _ (by first | exact hK | exact hK.alloc _ | exact (hK.alloc _).alloc _)).mono ?_; rintro e6 w6 ⟨rfl, hk6⟩; have hK : Keeps (fun _ => False) w0 w6 := (by first | exact hK.trans' hk6 | exact (hK.alloc _).trans' hk6 | exact ((hK.alloc _).alloc _).trans' hk6); have hs6 : w0.heap.size ≤ w6.heap.size := hK.size; (first | (with_reducible have hy1 := hz1.kept hk6 id) | (with_reducible have hy1 := (hz1.alloc _).kept hk6 id) | (with_reducible have hy1 := ((hz1.alloc _).alloc _).kept hk6 id) | skip); (first | (with_reducible have hy2 := hz2.kept hk6 id) | (with_reducible have hy2 := (hz2.alloc _).kept hk6 id) | skip); (first | (with_reducible have hy3 := box2_kept hk6; simp only [size_alloc, size_drew] at hy3) | (with_reducible have hy3 := box2_kept hk6) | skip); (first | (with_reducible have hy4 := box2_kept2 hk6; simp only [size_alloc, size_drew] at hy4) | (with_reducible have hy4 := box2_kept2 hk6) | skip); (first | (obtain ⟨y10, y11, yf10, yf11, yl1⟩ := hy1.cells) | skip); (first | (obtain ⟨y20, y21, yf20, yf21, yl2⟩ := hy2.cells) | skip); (first | (obtain ⟨y30, y31, yf30, yf31, yl3⟩ := hy3.cells) | skip); (first | (obtain ⟨y40, y41, yf40, yf41, yl4⟩ := hy4.cells) | skip))
        | fail)
    all_goals
      go_wp2_with fail
      go_meet
      refine Lib.hid ⟨_, _, rfl, rfl, ?_, ?_, by first | omega | (simp; omega), by first | omega | (simp; omega), ?_⟩
      · repeat (first | with_reducible exact Blk.new _ _ _ | with_reducible exact hy1 | with_reducible exact hy2 | with_reducible exact hy3 | with_reducible exact hy4 | with_reducible refine Blk.set2 (x := .int .i64 0) (y := .int .i64 0) ?_ | with_reducible refine Blk.oth2 ?_ (by first | omega | (simp; omega)) | with_reducible exact Blk.newAt _ _ _ (by simp) | with_reducible refine Blk.alloc ?_ _)
      · repeat (first | with_reducible exact Blk.new _ _ _ | with_reducible exact hy1 | with_reducible exact hy2 | with_reducible exact hy3 | with_reducible exact hy4 | with_reducible refine Blk.set2 (x := .int .i64 0) (y := .int .i64 0) ?_ | with_reducible refine Blk.oth2 ?_ (by first | omega | (simp; omega)) | with_reducible exact Blk.newAt _ _ _ (by simp) | with_reducible refine Blk.alloc ?_ _)
      · repeat (first | with_reducible exact hK | with_reducible refine set2_keep ?_ (by first | omega | (simp; omega)) | with_reducible refine Keeps.alloc ?_ _)
  case rest =>
    obtain ⟨pa, pb, rfl, rfl, hba, hbb, hpa, hpb, hkc⟩ := hcut.out
    have KC := Lib.hid hkc
    have BA := Lib.hid hba
    have BB := Lib.hid hbb
    have c0 := hkc.cellF t0
    have c1 := hkc.cellF t1
    have ce := hkc.cellF d1
    obtain ⟨pa0, pa1, _, _, pal⟩ := hba.cells
    obtain ⟨pb0, pb1, _, _, pbl⟩ := hbb.cells
    have hwc : w.heap.size + 1 + 1 < wc.heap.size := Nat.lt_of_lt_of_le HBR.out.lt hkc.size
    clear hcut hba hbb hkc t0 t1 d0 d1 a0 a1' b0 b1' HCA HCB
    go_upto_region 6 with fail
    go_wp2_with fail
    refine (HRL.out _ (by first | exact KC.out | exact KC.out.drew)).mono ?_
    rintro e2 w2 ⟨v2, rfl, hls2, hk2⟩
    obtain ⟨va2, vc2, rfl⟩ := hls2.form
    have HK3 : Hid (Keeps (fun _ => False) wc (w2.alloc (.cells #[.int .i64 (E : Int), .slice va2 L2.length vc2] 27))) := hk2.alloc _
    have HY : Hid (Blk (w2.alloc (.cells #[.int .i64 (E : Int), .slice va2 L2.length vc2] 27)) w2.heap.size #[.int .i64 (E : Int), .slice va2 L2.length vc2] 27) := Blk.new w2 _ _
    have HL3 : Hid (LsRow (w2.alloc (.cells #[.int .i64 (E : Int), .slice va2 L2.length vc2] 27)) B (.slice va2 L2.length vc2) L2) := hls2.keep ((Keeps.refl _ _).alloc _)
    have HYB : Hid (wc.heap.size ≤ w2.heap.size) := hk2.size
    clear hls2 hk2 HRL c0 c1
    go_upto_region 7 with fail
    generalize w2.alloc _ = w3 at *
    generalize w2.heap.size = yb at *
    have y0 := HY.out.cell (i := 0)
    have y1 := HY.out.cell (i := 1)
    simp only [List.getElem?_toArray, List.getElem?_cons_zero, List.getElem?_cons_succ] at y0 y1
    have d1 := HK3.out.cellF ce
    have xa0 := HK3.out.cellF pa0
    have xa1 := HK3.out.cellF pa1
    have xb0 := HK3.out.cellF pb0
    have xb1 := HK3.out.cellF pb1
    have KC3 := Lib.hid (KC.out.trans' HK3.out)
    have HNO : Hid (¬ own yb ∧ ¬ own (w.heap.size + 1) ∧ ¬ own (w.heap.size + 1 + 1)) := ⟨fun q => by have := HOWN.out _ q; have := HYB.out; omega, fun q => by have := HOWN.out _ q; omega, fun q => by have := HOWN.out _ q; omega⟩
    have HNE : Hid (yb ≠ w.heap.size + 1 + 1 ∧ w.heap.size ≤ w.heap.size + 1 + 1) := ⟨fun q => by have := HYB.out; omega, by omega⟩
    have HER3 := Lib.hid (HE0.out.keep KC3.out)
    clear pa0 pa1 pb0 pb1 pal pbl hwc ce hpa hpb
    go_wp2_with fail
    refine (HTL.out w3 KC3.out).mono ?_
    rintro e5 w5 ⟨rfl, ht5, hk5⟩
    have s0 := hk5.cellO y0 HNO.out.1
    have s1 := hk5.cellO y1 HNO.out.1
    have HT5 := Lib.hid ht5
    have HK5 := Lib.hid hk5
    have HER5 := Lib.hid (HER3.out.kept hk5 hng)
    have HR5 := Lib.hid (((HBR.out.kept KC3.out id).kept hk5 HNO.out.2.2))
    have HL5 := Lib.hid (HL3.out.kept hk5 hown)
    clear ht5 hk5 y0 y1 d1 xa0 xa1 xb0 xb1 HTL
    go_upto_region 8 with fail
    have HN6 := Lib.hid (fun W (hk : Keeps (fun _ => False) w5 W) => num15_val er W (HER5.out.keep hk))
    have hK : Keeps (fun _ => False) w5 w5.drew := (Keeps.refl _ _).drew
    have hee : (((er : Nat) : Int) == ((er : Nat) : Int)) = true := by simp
    go_region_held3 (fun w' => w'.cell? ⟨yb, 0, none⟩ = some (.int .i64 (E : Int)) ∧ w'.cell? ⟨yb, 1, none⟩ = some (.slice va2 L2.length vc2))
      (first | exact ⟨hK.cellF s0, hK.cellF s1⟩ | exact ⟨cell_set2 (hK.cellF s0) HNE.out.1, cell_set2 (hK.cellF s1) HNE.out.1⟩ | assumption)
      (first
        | (go_at_call 27; refine (HN6.out _ hK).mono ?_; rintro e6 w6 ⟨rfl, hk6⟩; have hK : Keeps (fun _ => False) w5 w6 := hK.trans' hk6; have hR6 := HR5.out.kept hK id; have r0 := hR6.cell (i := 0); have r1 := hR6.cell (i := 1); have q0 := hR6.free 0; have q1 := hR6.free 1; have rl := hR6.lt; simp only [List.getElem?_toArray, List.getElem?_cons_zero, List.getElem?_cons_succ] at r0 r1)
        | fail)
    have HE := do_end (E := E) (((HK0.out.trans' KC3.out).mono (fp' := own) fun _ _ q => q.elim).trans' (HK5.out.trans' (hK.mono fun _ _ q => q.elim))) (HL5.out.keep hK) hR6 HNE.out.2 rfl (HT5.out.keep hK) HNO.out.2.2
    clear r0 r1 q0 q1 s0 s1 hK hk6 hR6
    go_wp2_with fail
    generalize (World.setCell _ _ _).setCell _ (.slice va2 _ _) = WW at *
    have k0 := HE.out.1.cell (i := 0)
    have k1 := HE.out.1.cell (i := 1)
    refine bodyPost_ret (v := .tuple #[rval E (.slice va2 L2.length vc2), .bool true]) (by simp at k0 k1; simp [results, Tryd.results55, go_sem, k0, k1, rval]) rfl ?_
    exact ⟨_, rfl, HE.out.2⟩
theorem do15 (ht : Tu w own p Et L) (h : LsRow w B v L) (hg : Good E L) (hE : ErrT w) (hown : ∀ k, own k → k < B) (hng : ¬ own 0) (x : Act10) (hr : Room E Et x.e) :
    Calls Tryd.prog 55 #[tptr p, rval E v, actVal x] w (DoPost own p Et E B (actL E L x) w) := by
  by_cases hx : 9 < unsg x.kind % 12
  · exact do15_lift ht h hg hE hown hng x hr hx
  · exact do15_lay ht h hg hE hown hng x hr hx
end
set_option maxHeartbeats 4000000 in
theorem made15 (n : Int) (a : Option Addr) (c : Nat) (ls : List Act10) (w : World) (hE : ErrT w) (hz : Rd w a (actsV ls)) (hzl : ls.length ≤ 9223372036854775807) :
    Calls Tryd.prog 25 #[.int .i64 n, .slice a ls.length c] w (MadePost w) := by
  obtain ⟨hk1, hk2⟩ := kof_le n 6 (by decide)
  have hk := show wrap64 (1 + wrap64 ((IntKind.u64.wrap n).tmod 6)) = (kof n 6 : Int) from kof_val n 6 (by decide) (by decide)
  generalize kof n 6 = V at *
  generalize hW : w.alloc (.cells #[.int .i64 0, .slice none 0 0] 27) = w0
  have hK0 : Keeps (fun _ => False) w w0 := by rw [← hW]; exact (Keeps.refl _ _).alloc _
  have HBR : Hid (Blk w0 w.heap.size #[.int .i64 0, .slice none 0 0] 27) := by rw [← hW]; exact Blk.new w _ _
  have HE0 := Lib.hid (hE.keep hK0)
  have HZ0 := Lib.hid (hz.keep hK0)
  have HK0 := Lib.hid hK0
  clear hE hz hK0
  have HTN := Lib.hid (tnew V 8 w0 hk1 (by omega) (by decide) (by decide))
  have HRN := Lib.hid (fun W => rnew V 8 W hk1 (by omega))
  unfold NewPost tptr at HTN
  unfold RPost rval at HRN
  unfold MadePost tptr rval
  go_enter Tryd.func25, Tryd.ntmps25
  go_upto_region 1 with fail
  clear hW
  go_upto_region 2 with fail
  rw [hk]
  go_wp2_with fail
  refine HTN.out.mono ?_
  rintro e w1 ⟨p, own, rfl, htu, hfr, hk1'⟩
  have HTU := Lib.hid htu
  have HFR := Lib.hid hfr
  have HK1 := Lib.hid hk1'
  clear htu hfr hk1' hk
  go_wp2_with fail
  refine (HRN.out w1).mono ?_
  rintro e w2 ⟨v, rfl, hls, hk2'⟩
  obtain ⟨va, vc, rfl⟩ := hls.form
  have HLA := Lib.hid (LawAt.start (w0 := w0) (E := 8) HTU.out HFR.out HK1.out hls hk2')
  clear hls hk2' HTU HFR HK1 HTN HRN
  simp only [List.length_replicate] at HLA
  go_upto_region 5 with fail
  have HLA0 : Hid (∃ L v, LawAt w0 own p 8 8 w1.heap.size V w2.heap.size L v (w2.alloc (.cells #[.int .i64 8, .slice va V vc] 27))) := ⟨_, _, HLA.out⟩
  clear HLA
  generalize w2.alloc _ = w3 at *
  generalize w2.heap.size = bx at *
  generalize w1.heap.size = B at *
  go_upto_block 0 with fail
  go_cut [11] (fun o wc => o = .bool true ∧ Hid (∃ L v, LawAt w0 own p 8 8 B V bx L v wc))
  case first =>
    as_aux_lemma =>
    go_wp2_with fail
    go_loopw [11, 12] (fun o i wr => ∃ (j : Nat), j ≤ ls.length ∧ j ≤ 30 ∧ o = .bool true ∧ i = .int .i64 (j : Int) ∧ Hid (∃ L v, LawAt w0 own p 8 8 B V bx L v wr)) (fun _ i _ => ls.length - (intOf i).toNat)
    case atStart => exact ⟨0, Nat.zero_le _, Nat.zero_le _, rfl, rfl, HLA0⟩
    case round =>
      obtain ⟨j, hj, hj30, rfl, rfl, HS⟩ := hrel
      clear HLA0
      by_cases hlt : j < ls.length ∧ j < 30
      · obtain ⟨L, v, hla⟩ := HS.out
        have HLA := Lib.hid hla
        clear HS
        have h0L : 1 ≤ L.length := by rw [hla.len]; exact hk1
        obtain ⟨va, vc, rfl⟩ := hla.ls.form
        rw [hla.len] at hla HLA
        obtain ⟨hlt, hlt2⟩ := hlt
        obtain ⟨ab, ao, rfl, hab, q0, q1, q2, q3, q4, q5⟩ := actsAt (HZ0.out.keep hla.kp) j hlt
        have HDO := Lib.hid (fun W (hk : Keeps (fun _ => False) wr W) => do15 (hla.tu.keep hk) (hla.ls.keep hk) hla.good ((HE0.out.keep hla.kp).keep hk) (fun k q => (hla.low k q).2) (hla.nold HE0.out.lt) ls[j] (Or.inl rfl))
        have hab0 : ab < w0.heap.size := (actsAt HZ0.out j hlt).elim fun b h => by
          obtain ⟨off, he, hb, _⟩ := h
          cases he; exact hb
        have hnab := hla.nold hab0
        have HNB := Lib.hid hla.nbx
        have HG := Lib.hid (actL_good hla.good ls[j])
        have HLN : Hid ((actL 8 L ls[j]).length = V) := (actL_length 8 L ls[j]).trans hla.len
        have hK : Keeps (fun _ => False) wr wr.drew := (Keeps.refl _ _).drew
        obtain ⟨b0, b1, _, _, _⟩ := (hla.keep hK).cells
        unfold actVal rval tptr DoPost at HDO
        unfold rval at HDO
        generalize ls[j].kind = z0 at *
        generalize ls[j].e = z1 at *
        generalize ls[j].a.1 = z2 at *
        generalize ls[j].a.2 = z3 at *
        generalize ls[j].b.1 = z4 at *
        generalize ls[j].b.2 = z5 at *
        generalize actL 8 L ls[j] = L5 at *
        have h8 : ((8 : Nat) : Int) = 8 := rfl
        clear hla
        simp only [h8] at HDO b0
        go_upto_region 8 with fail
        obtain ⟨p0, p1, p2, p3, p4, p5⟩ := six_keep hK q0 q1 q2 q3 q4 q5
        go_region_with (first
            | (go_at_call 55; with_reducible refine (HDO.out _ hK).mono ?_; rintro e5 w5 ⟨v5, rfl, ht5, hls5, hk5'⟩; obtain ⟨va5, vc5, rfl⟩ := hls5.form; have hk5 : Keeps own wr w5 := (hK.mono (fp' := own) fun _ _ q => q.elim).trans' hk5'; obtain ⟨x0, x1, xf0, xf1, xl⟩ := (HLA.out.box.kept hk5 HNB.out).cells)
            | fail)
        all_goals
          have HS2 := Lib.hid (HLA.out.step hk5 ht5 hls5 (Keeps.refl _ _) HG.out HLN.out)
          simp only [h8] at HS2
          clear x0 x1 xf0 xf1 xl b0 b1 q0 q1 q2 q3 q4 q5 p0 p1 p2 p3 p4 p5 hk5 hk5' ht5 hls5
          generalize (World.setCell _ _ _).setCell _ (.slice va5 _ _) = we at *
          have HS3 : Hid (∃ L v, LawAt w0 own p 8 8 B V bx L v we) := ⟨_, _, HS2.out⟩
          clear HS2
          go_wp2_with fail
          refine ⟨⟨j + 1, by omega, by omega, rfl, by simp, HS3⟩, by simp [intOf]; omega⟩
      · rcases (show j < ls.length ∧ ¬ j < 30 ∨ ¬ j < ls.length by omega) with ⟨hja, hjb⟩ | hja
        all_goals
          go_wp2_with fail
          go_meet
          exact ⟨rfl, HS⟩
  case rest =>
    obtain ⟨rfl, HS⟩ := hcut
    obtain ⟨L, v, hla⟩ := HS.out
    have h0L : 1 ≤ L.length := by rw [hla.len]; exact hk1
    obtain ⟨va, vc, rfl⟩ := hla.ls.form
    rw [hla.len] at hla
    have hlen := hla.len
    have HLA := Lib.hid hla
    obtain ⟨b0, b1, _, _, _⟩ := hla.cells
    have hbr := HBR.out.kept hla.kp id
    obtain ⟨r0, r1, rf0, rf1, rl⟩ := hbr.cells
    have HBC := Lib.hid hbr
    have hr0 := HBR.out.lt
    have h8 : ((8 : Nat) : Int) = 8 := rfl
    simp only [h8] at b0
    have HEND := Lib.hid (fun W (hk : Keeps (fun _ => False) wc W) => (made_end HLA.out HK0.out (Nat.le_refl _) hr0 HBC.out rfl hk).out)
    clear hla HS hbr HLA0
    go_upto_region 9 with fail
    go_region
    have HF0 := HEND.out wc (Keeps.refl _ _)
    have HF : Hid (_ ∧ _) := Lib.hid ⟨HF0.1.drew, HF0.2.keep (Keeps.refl _ _).drew⟩
    clear HF0 b0 b1 r0 r1 rf0 rf1 HEND
    go_wp2_with fail
    generalize ((World.setCell _ _ _).setCell _ (.slice va _ _)).drew = WW at *
    have k0 := HF.out.1.cell (i := 0)
    have k1 := HF.out.1.cell (i := 1)
    refine bodyPost_ret (v := .tuple #[.pointer (some ⟨p, 0, none⟩), .agg #[.int .i64 8, .slice va V vc], .bool true]) (by simp at k0 k1; simp [results, Tryd.results25, go_sem, k0, k1]) rfl ?_
    have h2 := HF.out.2
    subst hlen
    exact ⟨L, p, own, B, va, vc, rfl, hk1, hk2, h2⟩
end Go.Proofs.YtdplphhlclhmfaaDoor
