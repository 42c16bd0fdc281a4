/- Chapter 10's laws: an act done to both. -/
import Derived.Test.YtjmkejkhpdhhbaaDoorRfH
import Derived.Test.YtjmkejkhpdhhbaaDoorLwC
import Derived.Test.YtjmkejkhpdhhbaaDoorLwP
namespace Go.Proofs.YtjmkejkhpdhhbaaDoor
open Go Go.RowKit
set_option linter.unusedVariables false
set_option linter.unusedSimpArgs false
set_option maxRecDepth 100000

/-- An act: its kind, its edge, two corners. -/
structure Act10 where
  kind : Int
  e : Int
  a : Int × Int
  b : Int × Int
def actVal (x : Act10) : Value := .agg #[.int .i64 x.kind, .int .i64 x.e, .int .i64 x.a.1, .int .i64 x.a.2, .int .i64 x.b.1, .int .i64 x.b.2]
/-- What it makes of the lists. -/
def actL (E : Nat) (L : List (List Nat)) (x : Act10) : List (List Nat) :=
  if 9 < unsg x.kind % 12 then lift E L x.e else lay E L x.e (crnR L x.a (unsg x.kind % 12 == 9)) (crnR L x.b (unsg x.kind % 12 == 9))
theorem actL_length (E : Nat) (L : List (List Nat)) (x : Act10) : (actL E L x).length = L.length := by
  unfold actL; split
  · exact lift_length _ _ _
  · exact lay_length _ _ _ _ _
theorem actL_good {E : Nat} {L : List (List Nat)} (h : Good E L) (x : Act10) : Good E (actL E L x) := by
  unfold actL; split
  · exact h.lift _
  · exact h.lay _ _ _
theorem Keeps.cellO {fp : Nat → Prop} {w w' : World} (hk : Keeps fp w w') {a : Addr} {v : Value} (h : w.cell? a = some v) (hn : ¬ fp a.block) : w'.cell? a = some v :=
  (World.cell?_of_block (hk.block _ (World.block_lt_of_cell? w _ h) hn)).trans h
/-- Both, done. -/
def DoPost (own : Nat → Prop) (p Et E B : Nat) (L : List (List Nat)) (w : World) (e : Ending) (w' : World) : Prop :=
  ∃ v, e = .returned (.tuple #[rval E v, .bool true]) ∧ Tu w' own p Et L ∧ LsRow w' B v L ∧ Keeps own w w'
theorem do_end {w w6 : World} {own : Nat → Prop} {p Et E B b n c : Nat} {L : List (List Nat)} {a : Option Addr} {cs : Array Value} (hk : Keeps own w w6) (hls : LsRow w6 B (.slice a n c) L) (hb : Blk w6 b cs 32) (hbw : w.heap.size ≤ b) (hcs : cs.size = 2) (ht : Tu w6 own p Et L) (hnb : ¬ own b) :
    Hid (Blk ((w6.setCell ⟨b, 0, none⟩ (.int .i64 (E : Int))).setCell ⟨b, 1, none⟩ (.slice a n c)) b #[.int .i64 (E : Int), .slice a n c] 32 ∧ Tu ((w6.setCell ⟨b, 0, none⟩ (.int .i64 (E : Int))).setCell ⟨b, 1, none⟩ (.slice a n c)) own p Et L ∧
      LsRow ((w6.setCell ⟨b, 0, none⟩ (.int .i64 (E : Int))).setCell ⟨b, 1, none⟩ (.slice a n c)) B (.slice a n c) L ∧ Keeps own w ((w6.setCell ⟨b, 0, none⟩ (.int .i64 (E : Int))).setCell ⟨b, 1, none⟩ (.slice a n c))) := by
  have hkb : Keeps (fun k => k = b) w6 ((w6.setCell ⟨b, 0, none⟩ (.int .i64 (E : Int))).setCell ⟨b, 1, none⟩ (.slice a n c)) := ((Keeps.refl (fun k => k = b) w6).setIn b 0 _ rfl).setIn b 1 _ rfl
  refine ⟨?_, ht.kept hkb fun k hk e => hnb (e ▸ hk), hls.setOther hb (by decide) (by decide) hkb, (hk.setCell _ _ fun q => absurd q (Nat.not_lt.2 hbw)).setCell _ _ fun q => absurd q (Nat.not_lt.2 hbw)⟩
  have h1 := (hb.set 0 (.int .i64 (E : Int))).set 1 (.slice a n c)
  match cs, hcs with
  | ⟨[x, y]⟩, _ => simpa using h1
/-- The document's room and the other's: an act within both is one. -/
def Room (E Et : Nat) (e : Int) : Prop := E = Et ∨ E ≤ Et ∧ 0 ≤ e ∧ e < E
theorem Room.le {E Et : Nat} {e : Int} (h : Room E Et e) : E ≤ Et := by rcases h with h | h <;> omega
theorem Room.lay {E Et : Nat} {e : Int} (h : Room E Et e) (L : List (List Nat)) (a b : Int × Int) : layErr Et L e a b = layErr E L e a b ∧ Proofs.YtjmkejkhpdhhbaaDoor.lay Et L e a b = Proofs.YtjmkejkhpdhhbaaDoor.lay E L e a b := by
  rcases h with rfl | ⟨h1, h2, h3⟩
  · exact ⟨rfl, rfl⟩
  · have q : layErr Et L e a b = layErr E L e a b := by unfold layErr; rw [if_neg (show ¬ (e < 0 ∨ (Et : Int) ≤ e) by omega), if_neg (show ¬ (e < 0 ∨ (E : Int) ≤ e) by omega)]
    exact ⟨q, by unfold Proofs.YtjmkejkhpdhhbaaDoor.lay; rw [q]⟩
theorem Room.lift {E Et : Nat} {e : Int} (h : Room E Et e) (L : List (List Nat)) : liftErr Et L e = liftErr E L e ∧ Proofs.YtjmkejkhpdhhbaaDoor.lift Et L e = Proofs.YtjmkejkhpdhhbaaDoor.lift E L e := by
  rcases h with rfl | ⟨h1, h2, h3⟩
  · exact ⟨rfl, rfl⟩
  · have q : liftErr Et L e = liftErr E L e := by unfold liftErr; rw [if_neg (show ¬ (e < 0 ∨ (Et : Int) ≤ e) by omega), if_neg (show ¬ (e < 0 ∨ (E : Int) ≤ e) by omega)]
    exact ⟨q, by unfold Proofs.YtjmkejkhpdhhbaaDoor.lift; rw [q]⟩
section
variable {w : World} {own : Nat → Prop} {p Et E B : Nat} {v : Value} {L : List (List Nat)}
set_option maxHeartbeats 2000000 in
theorem do10_lift (ht : Tu w own p Et L) (h : LsRow w B v L) (hg : Good E L) (hE : ErrT w) (hown : ∀ k, own k → k < B) (hng : ¬ own 0) (x : Act10) (hr : Room E Et x.e) (hx : 9 < unsg x.kind % 12) :
    Calls Tryd.prog 18 #[tptr p, rval E v, actVal x] w (DoPost own p Et E B (actL E L x) w) := by
  have hV := ht.v2
  have hV1 := ht.v1
  have hle := hr.le
  have hEE := Nat.le_trans hle ht.e2
  have h0 : 0 < L.length := hV1
  have hBw := h.size_le h0
  obtain ⟨kind, e, ⟨a1, a2⟩, ⟨b1, b2⟩⟩ := x
  have hact : actL E L ⟨kind, e, (a1, a2), (b1, b2)⟩ = lift E L e := by unfold actL; rw [if_pos hx]
  rw [hact]
  simp only at hx hr
  obtain ⟨q1, q2⟩ := hr.lift L
  obtain ⟨va, vc, rfl⟩ := h.form
  have HM := Lib.hid (mod_val kind 12 (by decide) (by decide))
  have hk12 := Nat.mod_lt (unsg kind) (show 0 < 12 by decide)
  generalize unsg kind % 12 = m at *
  unfold actVal
  generalize hW : ((w.alloc (.cells #[.int .i64 (E : Int), .slice va L.length vc] 32)).alloc (.cells #[.int .i64 kind, .int .i64 e, .int .i64 a1, .int .i64 a2, .int .i64 b1, .int .i64 b2] 37)).alloc (.cells #[.int .i64 0, .slice none 0 0] 32) = w0
  have hK0 : Keeps (fun _ => False) w w0 := by rw [← hW]; exact (((Keeps.refl _ _).alloc _).alloc _).alloc _
  have HBT : Hid (Blk w0 w.heap.size #[.int .i64 (E : Int), .slice va L.length vc] 32) := by rw [← hW]; exact ((Blk.new w _ _).alloc _).alloc _
  have HBA : Hid (Blk w0 (w.heap.size + 1) #[.int .i64 kind, .int .i64 e, .int .i64 a1, .int .i64 a2, .int .i64 b1, .int .i64 b2] 37) := by rw [← hW]; exact (Blk.newAt _ _ _ (by simp)).alloc _
  have HBR : Hid (Blk w0 (w.heap.size + 1 + 1) #[.int .i64 0, .slice none 0 0] 32) := by rw [← hW]; exact Blk.newAt _ _ _ (by simp)
  have HK0 := Lib.hid hK0
  have HT0 := Lib.hid (ht.keep hK0)
  have HL0 := Lib.hid (h.keep hK0)
  have HE0 := Lib.hid (hE.keep hK0)
  have HRL := Lib.hid (rlift HL0.out hg h0 hV hEE e)
  have HTL : Hid (∀ W, Keeps (fun _ => False) w0 W → Calls Tryd.prog 31 #[tptr p, .int .i64 e] W (TPost own p Et (lift E L e) (errVal (liftErr E L e)) W)) := Lib.hid fun W hk => by have := tlift (HT0.out.keep hk) (hg.more hle) e; rwa [q1, q2] at this
  clear q1 q2 hr
  have HOWN := Lib.hid (fun k (hk : own k) => Nat.lt_of_lt_of_le (hown k hk) hBw)
  clear hK0 ht h hE hact
  generalize lift E L e = L2 at *
  generalize liftErr E L e = er at *
  unfold rval tptr DoPost
  unfold RLPost at HRL
  unfold rval at HRL
  unfold TPost tptr at HTL
  go_enter Tryd.func18, Tryd.ntmps18
  go_upto_region 1 with fail
  clear hW
  have d0 := HBA.out.cell (i := 0)
  have d1 := HBA.out.cell (i := 1)
  have t0 := HBT.out.cell (i := 0)
  have t1 := HBT.out.cell (i := 1)
  simp only [List.getElem?_toArray, List.getElem?_cons_zero, List.getElem?_cons_succ] at d0 d1 t0 t1
  go_upto_region 2 with fail
  rw [show (12 : Int) = ((12 : Nat) : Int) from rfl, HM.out]
  have hm9 : decide ((9 : Int) < (m : Int)) = true := by simp; omega
  go_wp2_with fail
  refine HRL.out.mono ?_
  rintro e2 w2 ⟨v2, rfl, hls2, hk2⟩
  obtain ⟨va2, vc2, rfl⟩ := hls2.form
  have HK3 : Hid (Keeps (fun _ => False) w0 (w2.alloc (.cells #[.int .i64 (E : Int), .slice va2 L2.length vc2] 32))) := hk2.alloc _
  have HY : Hid (Blk (w2.alloc (.cells #[.int .i64 (E : Int), .slice va2 L2.length vc2] 32)) w2.heap.size #[.int .i64 (E : Int), .slice va2 L2.length vc2] 32) := Blk.new w2 _ _
  have HL3 : Hid (LsRow (w2.alloc (.cells #[.int .i64 (E : Int), .slice va2 L2.length vc2] 32)) B (.slice va2 L2.length vc2) L2) := hls2.keep ((Keeps.refl _ _).alloc _)
  have HYB : Hid (w.heap.size + 1 + 1 < w2.heap.size) := Nat.lt_of_lt_of_le HBR.out.lt hk2.size
  clear hls2 hk2 HRL d0 d1 t0 t1
  go_upto_region 4 with fail
  generalize w2.alloc _ = w3 at *
  generalize w2.heap.size = yb at *
  have y0 := HY.out.cell (i := 0)
  have y1 := HY.out.cell (i := 1)
  have d1 := (HBA.out.kept HK3.out id).cell (i := 1)
  simp only [List.getElem?_toArray, List.getElem?_cons_zero, List.getElem?_cons_succ] at y0 y1 d1
  have HNO : Hid (¬ own yb ∧ ¬ own (w.heap.size + 1) ∧ ¬ own (w.heap.size + 1 + 1)) := ⟨fun q => by have := HOWN.out _ q; have := HYB.out; omega, fun q => by have := HOWN.out _ q; omega, fun q => by have := HOWN.out _ q; omega⟩
  have HNE : Hid (yb ≠ w.heap.size + 1 + 1 ∧ w.heap.size + 1 ≠ w.heap.size + 1 + 1 ∧ w.heap.size ≤ w.heap.size + 1 + 1) := ⟨fun q => by have := HYB.out; omega, by omega, by omega⟩
  have HTL3 := Lib.hid (HTL.out w3.drew (HK3.out.trans' ((Keeps.refl _ _).drew)))
  have HER3 := Lib.hid (HE0.out.keep (HK3.out.trans' ((Keeps.refl _ w3).drew)))
  have HDR : Hid (Keeps own w3 w3.drew) := (Keeps.refl _ _).drew
  have hee : (((er : Nat) : Int) == ((er : Nat) : Int)) = true := by simp
  go_region_held3 (fun w' => w'.cell? ⟨yb, 0, none⟩ = some (.int .i64 (E : Int)) ∧ w'.cell? ⟨yb, 1, none⟩ = some (.slice va2 L2.length vc2) ∧ w'.cell? ⟨w.heap.size + 1, 1, none⟩ = some (.int .i64 e))
    (first | exact ⟨y0, y1, d1⟩ | exact ⟨s0, s1, s2⟩ | exact ⟨hk6.cellF s0, hk6.cellF s1, hk6.cellF s2⟩ | exact ⟨cell_set2 (hk6.cellF s0) HNE.out.1, cell_set2 (hk6.cellF s1) HNE.out.1, cell_set2 (hk6.cellF s2) HNE.out.2.1⟩ | assumption)
    (first
      | (go_at_call 31; refine HTL3.out.mono ?_; rintro e5 w5 ⟨rfl, ht5, hk5⟩; have hkO := HDR.out.trans' hk5; have s0 := hkO.cellO y0 HNO.out.1; have s1 := hkO.cellO y1 HNO.out.1; have s2 := hkO.cellO d1 HNO.out.2.1)
      | (go_at_call 19; refine (num10_val er _ (HER3.out.kept hk5 hng)).mono ?_; rintro e6 w6 ⟨rfl, hk6⟩; have hR6 := ((HBR.out.kept HK3.out id).kept hkO HNO.out.2.2).kept hk6 id; have r0 := hR6.cell (i := 0); have r1 := hR6.cell (i := 1); have q0 := hR6.free 0; have q1 := hR6.free 1; have rl := hR6.lt; simp only [List.getElem?_toArray, List.getElem?_cons_zero, List.getElem?_cons_succ] at r0 r1)
      | fail)
  have HE := do_end (E := E) (((HK0.out.trans' HK3.out).mono (fp' := own) fun _ _ q => q.elim).trans' (hkO.trans' (hk6.mono fun _ _ q => q.elim))) ((HL3.out.kept hkO hown).keep hk6) hR6 HNE.out.2.2 rfl (ht5.keep hk6) HNO.out.2.2
  clear r0 r1 q0 q1 s0 s1 s2 hkO hk5 ht5 hk6 hR6
  go_wp2_with fail
  generalize (World.setCell _ _ _).setCell _ (.slice va2 _ _) = WW at *
  have k0 := HE.out.1.cell (i := 0)
  have k1 := HE.out.1.cell (i := 1)
  refine bodyPost_ret (v := .tuple #[rval E (.slice va2 L2.length vc2), .bool true]) (by simp at k0 k1; simp [results, Tryd.results18, go_sem, k0, k1, rval]) rfl ?_
  exact ⟨_, rfl, HE.out.2⟩
end
end Go.Proofs.YtjmkejkhpdhhbaaDoor
