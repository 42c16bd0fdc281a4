/- The document's Lay, Lift. -/
import Derived.Test.YtjmkejkhpdhhbaaDoorRfD
import Derived.Test.YtjmkejkhpdhhbaaDoorRfE
namespace Go.Proofs.YtjmkejkhpdhhbaaDoor
open Go Go.RowKit
set_option linter.unusedVariables false
set_option linter.unusedSimpArgs false
set_option maxRecDepth 100000

theorem fndV_neg {L : List (List Nat)} {d : Nat} (h : ¬ Stands L d) : fndV L d = -1 := by
  unfold fndV; rw [if_neg fun q => h (by simpa using q.2)]
theorem LsRow.form {w : World} {B : Nat} {v : Value} {L : List (List Nat)} (h : LsRow w B v L) : ∃ a c, v = .slice a L.length c := by
  obtain ⟨_, h1, _⟩ := h
  exact ownsRow_slice h1
theorem cell_set2 {W : World} {r b i : Nat} {x y v : Value} (h : W.cell? ⟨b, i, none⟩ = some v) (hn : b ≠ r) : ((W.setCell ⟨r, 0, none⟩ x).setCell ⟨r, 1, none⟩ y).cell? ⟨b, i, none⟩ = some v := by
  have hk : Keeps (fun k => k = r) W ((W.setCell ⟨r, 0, none⟩ x).setCell ⟨r, 1, none⟩ y) := ((Keeps.refl (fun k => k = r) W).setIn r 0 _ rfl).setIn r 1 _ rfl
  exact (World.cell?_of_block (hk.block _ (World.block_lt_of_cell? W _ h) hn)).trans h
theorem ne_three (n : Nat) : n ≠ n + 1 + 1 + 1 ∧ n + 1 ≠ n + 1 + 1 + 1 ∧ n + 1 + 1 ≠ n + 1 + 1 + 1 := by omega
theorem putL_len (L : List (List Nat)) (d v : Nat) (b : Int) : (putL L d v b).length = L.length := putL_length L d v b
section
variable {w : World} {B E : Nat} {v : Value} {L : List (List Nat)}
/-- The document's turns and a number told. -/
def RLPost (E B : Nat) (L : List (List Nat)) (k : Int) (w : World) (e : Ending) (w' : World) : Prop :=
  ∃ v, e = .returned (.tuple #[rval E v, .int .i64 k]) ∧ LsRow w' B v L ∧ Keeps (fun _ => False) w w'
/-- The end: the box of what is handed back holds it. -/
theorem rl_end {w w4 : World} {B E b n c : Nat} {L : List (List Nat)} {a : Option Addr} {cs : Array Value} (hk : Keeps (fun _ => False) w w4) (hls : LsRow w4 B (.slice a n c) L) (hb : Blk w4 b cs 32) (hbw : w.heap.size ≤ b) (hcs : cs.size = 2) :
    Hid (Blk ((w4.setCell ⟨b, 0, none⟩ (.int .i64 (E : Int))).setCell ⟨b, 1, none⟩ (.slice a n c)) b #[.int .i64 (E : Int), .slice a n c] 32 ∧
      LsRow ((w4.setCell ⟨b, 0, none⟩ (.int .i64 (E : Int))).setCell ⟨b, 1, none⟩ (.slice a n c)) B (.slice a n c) L ∧ Keeps (fun _ => False) w ((w4.setCell ⟨b, 0, none⟩ (.int .i64 (E : Int))).setCell ⟨b, 1, none⟩ (.slice a n c))) := by
  refine ⟨?_, hls.setOther hb (by decide) (by decide) (((Keeps.refl (fun k => k = b) w4).setIn b 0 _ rfl).setIn b 1 _ rfl), (hk.setNew hbw 0 _).setNew hbw 1 _⟩
  have h1 := (hb.set 0 (.int .i64 (E : Int))).set 1 (.slice a n c)
  match cs, hcs with
  | ⟨[x, y]⟩, _ => simpa using h1
set_option maxHeartbeats 2000000 in
theorem rlay (h : LsRow w B v L) (hg : Good E L) (h0 : 0 < L.length) (hV : L.length ≤ 1048576) (hE : E ≤ 1048576) (e : Int) (a b : Int × Int) :
    Calls Tryd.prog 56 #[rval E v, .int .i64 e, .agg #[.int .i64 a.1, .int .i64 a.2], .agg #[.int .i64 b.1, .int .i64 b.2]] w (RLPost E B (lay E L e a b) (layErr E L e a b : Nat) w) := by
  have hw := hg.toWF
  obtain ⟨a1, a2⟩ := a
  obtain ⟨b1, b2⟩ := b
  obtain ⟨va, vc, hv⟩ : ∃ x y, v = .slice x L.length y := by
    obtain ⟨_, h1, _⟩ := h
    exact ownsRow_slice h1
  subst hv
  generalize hW : (((w.alloc (.cells #[.int .i64 (E : Int), .slice va L.length vc] 32)).alloc (.cells #[.int .i64 a1, .int .i64 a2] 23)).alloc (.cells #[.int .i64 b1, .int .i64 b2] 23)).alloc (.cells #[.int .i64 0, .slice none 0 0] 32) = w0
  have hK0 : Keeps (fun _ => False) w w0 := by rw [← hW]; exact ((((Keeps.refl _ _).alloc _).alloc _).alloc _).alloc _
  have HBT : Hid (Blk w0 w.heap.size #[.int .i64 (E : Int), .slice va L.length vc] 32) := by rw [← hW]; exact (((Blk.new w _ _).alloc _).alloc _).alloc _
  have HBA : Hid (Blk w0 (w.heap.size + 1) #[.int .i64 a1, .int .i64 a2] 23) := by rw [← hW]; exact ((Blk.newAt _ _ _ (by simp)).alloc _).alloc _
  have HBB : Hid (Blk w0 (w.heap.size + 1 + 1) #[.int .i64 b1, .int .i64 b2] 23) := by rw [← hW]; exact (Blk.newAt _ _ _ (by simp)).alloc _
  have HBR : Hid (Blk w0 (w.heap.size + 1 + 1 + 1) #[.int .i64 0, .slice none 0 0] 32) := by rw [← hW]; exact Blk.newAt _ _ _ (by simp)
  have hbw : w.heap.size ≤ w.heap.size + 1 + 1 + 1 := by omega
  have HK0 := Lib.hid hK0
  have HL := Lib.hid (h.keep hK0)
  clear hK0
  unfold lay
  by_cases hr1 : e < 0 ∨ (E : Int) ≤ e
  · have hle : layErr E L e (a1, a2) (b1, b2) = 12 := by unfold layErr; rw [if_pos hr1]
    rw [hle, if_neg (by decide)]
    clear hle
    unfold rval RLPost at *
    rcases (show e < 0 ∨ 0 ≤ e ∧ (E : Int) ≤ e by omega) with h2 | ⟨h2, h3⟩
    · have hd0 : decide (e < 0) = true := by simp; exact h2
      go_enter Tryd.func56, Tryd.ntmps56
      go_upto_region 1 with fail
      clear hW
      have t0 := (HBT.out.kept (Keeps.refl (fun _ => False) _) id).cell (i := 0)
      have t1 := (HBT.out.kept (Keeps.refl (fun _ => False) _) id).cell (i := 1)
      have r0 := (HBR.out.kept (Keeps.refl (fun _ => False) _) id).cell (i := 0)
      have r1 := (HBR.out.kept (Keeps.refl (fun _ => False) _) id).cell (i := 1)
      have q0 := (HBR.out.kept (Keeps.refl (fun _ => False) _) id).free 0
      have q1 := (HBR.out.kept (Keeps.refl (fun _ => False) _) id).free 1
      have rl := (HBR.out.kept (Keeps.refl (fun _ => False) _) id).lt
      simp only [List.getElem?_toArray, List.getElem?_cons_zero, List.getElem?_cons_succ] at t0 t1 r0 r1
      have HE := rl_end (E := E) HK0.out HL.out HBR.out hbw rfl
      go_wp2_with fail
      generalize (World.setCell _ _ _).setCell _ (.slice _ _ _) = WW at *
      have k0 := HE.out.1.cell (i := 0)
      have k1 := HE.out.1.cell (i := 1)
      refine bodyPost_ret (v := .tuple #[rval E (.slice va L.length vc), .int .i64 12]) (by simp at k0 k1; simp [results, Tryd.results56, go_sem, k0, k1, rval]) rfl ?_
      exact ⟨_, rfl, HE.out.2⟩
    · have hd0 : decide (e < 0) = false := by simp; exact h2
      have hd1 : decide ((E : Int) ≤ e) = true := by simp; exact h3
      go_enter Tryd.func56, Tryd.ntmps56
      go_upto_region 1 with fail
      clear hW
      have t0 := (HBT.out.kept (Keeps.refl (fun _ => False) _) id).cell (i := 0)
      have t1 := (HBT.out.kept (Keeps.refl (fun _ => False) _) id).cell (i := 1)
      have r0 := (HBR.out.kept (Keeps.refl (fun _ => False) _) id).cell (i := 0)
      have r1 := (HBR.out.kept (Keeps.refl (fun _ => False) _) id).cell (i := 1)
      have q0 := (HBR.out.kept (Keeps.refl (fun _ => False) _) id).free 0
      have q1 := (HBR.out.kept (Keeps.refl (fun _ => False) _) id).free 1
      have rl := (HBR.out.kept (Keeps.refl (fun _ => False) _) id).lt
      simp only [List.getElem?_toArray, List.getElem?_cons_zero, List.getElem?_cons_succ] at t0 t1 r0 r1
      have HE := rl_end (E := E) HK0.out HL.out HBR.out hbw rfl
      go_wp2_with fail
      generalize (World.setCell _ _ _).setCell _ (.slice _ _ _) = WW at *
      have k0 := HE.out.1.cell (i := 0)
      have k1 := HE.out.1.cell (i := 1)
      refine bodyPost_ret (v := .tuple #[rval E (.slice va L.length vc), .int .i64 12]) (by simp at k0 k1; simp [results, Tryd.results56, go_sem, k0, k1, rval]) rfl ?_
      exact ⟨_, rfl, HE.out.2⟩
  · obtain ⟨n, rfl⟩ := Int.eq_ofNat_of_zero_le (show 0 ≤ e by omega)
    have hn : n < E := by omega
    have hd0 : decide ((n : Int) < 0) = false := by simp
    have hd1 : decide ((E : Int) ≤ (n : Int)) = false := by simp; omega
    have hle : layErr E L n (a1, a2) (b1, b2) = if Stands L (2 * n) then 20 else if chkErr L a1 a2 ≠ 0 then chkErr L a1 a2 else chkErr L b1 b2 := by unfold layErr; rw [if_neg hr1, Int.toNat_natCast]
    have HF := Lib.hid (rfind HL.out hw h0 hV hE (2 * (n : Int)))
    have e2n : (2 * (n : Int)) = ((2 * n : Nat) : Int) := by omega
    by_cases hs : Stands L (2 * n)
    · rw [hle, if_pos hs, if_neg (by decide)]
      have hfv : 0 ≤ fndV L (2 * (n : Int)) := by rw [e2n, (fndV_at hw hs).1]; omega
      have hd2 : decide (0 ≤ fndV L (2 * (n : Int))) = true := by simp; exact hfv
      generalize fndV L (2 * (n : Int)) = fv at *
      generalize fndI L (2 * (n : Int)) = fi at *
      clear hle hs hr1 e2n h
      unfold rval RLPost RetPost at *
      go_enter Tryd.func56, Tryd.ntmps56
      go_upto_region 1 with fail
      clear hW
      have t0 := (HBT.out.kept (Keeps.refl (fun _ => False) _) id).cell (i := 0)
      have t1 := (HBT.out.kept (Keeps.refl (fun _ => False) _) id).cell (i := 1)
      have r0 := (HBR.out.kept (Keeps.refl (fun _ => False) _) id).cell (i := 0)
      have r1 := (HBR.out.kept (Keeps.refl (fun _ => False) _) id).cell (i := 1)
      have q0 := (HBR.out.kept (Keeps.refl (fun _ => False) _) id).free 0
      have q1 := (HBR.out.kept (Keeps.refl (fun _ => False) _) id).free 1
      have rl := (HBR.out.kept (Keeps.refl (fun _ => False) _) id).lt
      simp only [List.getElem?_toArray, List.getElem?_cons_zero, List.getElem?_cons_succ] at t0 t1 r0 r1
      go_wp2_with fail
      refine (HF.out).mono ?_
      rintro e w2 ⟨rfl, hk2⟩
      have HK2 := Lib.hid hk2
      have HL2 := Lib.hid (HL.out.keep hk2)
      have HR2 := Lib.hid (HBR.out.kept hk2 id)
      clear t0 t1 r0 r1 q0 q1 rl
      have t0 := (HBT.out.kept hk2 id).cell (i := 0)
      have t1 := (HBT.out.kept hk2 id).cell (i := 1)
      have r0 := (HBR.out.kept hk2 id).cell (i := 0)
      have r1 := (HBR.out.kept hk2 id).cell (i := 1)
      have q0 := (HBR.out.kept hk2 id).free 0
      have q1 := (HBR.out.kept hk2 id).free 1
      have rl := (HBR.out.kept hk2 id).lt
      simp only [List.getElem?_toArray, List.getElem?_cons_zero, List.getElem?_cons_succ] at t0 t1 r0 r1
      clear hk2
      have HE := rl_end (E := E) (HK0.out.trans' HK2.out) HL2.out HR2.out hbw rfl
      go_wp2_with fail
      generalize (World.setCell _ _ _).setCell _ (.slice _ _ _) = WW at *
      have k0 := HE.out.1.cell (i := 0)
      have k1 := HE.out.1.cell (i := 1)
      refine bodyPost_ret (v := .tuple #[rval E (.slice va L.length vc), .int .i64 20]) (by simp at k0 k1; simp [results, Tryd.results56, go_sem, k0, k1, rval]) rfl ?_
      exact ⟨_, rfl, HE.out.2⟩
    · rw [if_neg hs] at hle
      have hfv : fndV L (2 * (n : Int)) = -1 := by rw [e2n]; exact fndV_neg hs
      rw [hfv] at HF
      generalize fndI L (2 * (n : Int)) = fi at *
      have HCA := Lib.hid (fun W (hk : Keeps (fun _ => False) w0 W) => rcheck (HL.out.keep hk) hw h0 hV hE a1 a2)
      have HCB := Lib.hid (fun W (hk : Keeps (fun _ => False) w0 W) => rcheck (HL.out.keep hk) hw h0 hV hE b1 b2)
      by_cases hA : chkErr L a1 a2 = 0
      · rw [if_neg (fun q => q hA)] at hle
        rw [hA] at HCA
        by_cases hBb : chkErr L b1 b2 = 0
        · rw [hBb] at HCB hle
          rw [hle, if_pos rfl, Int.toNat_natCast]
          unfold layL
          have hn0 : ¬ Stands (putL L (2 * n) a1.toNat a2) (2 * n + 1) := fun q => by
            rw [putL_stands (chk_lt hA)] at q
            rcases q with q | q
            · omega
            · exact hs ((hg.pair n).1 q)
          have hw1 : WF E (putL L (2 * n) a1.toNat a2) := putL_wf hw (by omega) hs (chk_lt hA)
          have hl1 : (putL L (2 * n) a1.toNat a2).length = L.length := putL_length _ _ _ _
          obtain ⟨l2, hl2, _⟩ := chk_put (a := (a1, a2)) (b := (b1, b2)) hA hBb hs
          obtain ⟨xa, hva, la, hla, _⟩ := chk_ok hA
          obtain ⟨xb, hvb, lb, hlb, _⟩ := chk_ok hBb
          have HP1 := Lib.hid (fun W (hk : Keeps (fun _ => False) w0 W) => rput (HL.out.keep hk) hw hV hE (n := a1.toNat) (d := 2 * n) (l := la) (by rw [hva, Int.toNat_natCast]; exact hla) (by omega) a2 (2 * (n : Int)) a1 (by omega) (by omega))
          have HP2 := Lib.hid (fun (W : World) (u : Value) (hu : LsRow W B u (putL L (2 * n) a1.toNat a2)) => rput hu hw1 (by rw [hl1]; exact hV) hE (n := b1.toNat) (d := 2 * n + 1) (l := l2) hl2 (by omega) b2 (2 * (n : Int) + 1) b1 (by omega) (by omega))
          generalize hL2 : putL (putL L (2 * n) a1.toNat a2) (2 * n + 1) b1.toNat b2 = L2 at *
          generalize putL L (2 * n) a1.toNat a2 = L1 at *
          clear hle hs hr1 e2n h hg hA hBb hn0 hw1 hl2 hva hvb hla hlb hL2 hfv hl1
          have hm1 : IntKind.i64.wrap (2 * (n : Int)) = 2 * (n : Int) := by rw [IntKind.wrap_i64]; omega
          have hm2 : IntKind.i64.wrap (2 * (n : Int) + 1) = 2 * (n : Int) + 1 := by rw [IntKind.wrap_i64]; omega
          unfold RPost at HP1 HP2
          unfold rval RLPost RetPost at *
          go_enter Tryd.func56, Tryd.ntmps56
          go_upto_region 1 with fail
          clear hW
          have t0 := (HBT.out.kept (Keeps.refl (fun _ => False) _) id).cell (i := 0)
          have t1 := (HBT.out.kept (Keeps.refl (fun _ => False) _) id).cell (i := 1)
          simp only [List.getElem?_toArray, List.getElem?_cons_zero, List.getElem?_cons_succ] at t0 t1
          go_wp2_with fail
          refine (HF.out).mono ?_
          rintro e w2 ⟨rfl, hk2⟩
          have HK2 := Lib.hid hk2
          have HCA' := Lib.hid (HCA.out _ hk2)
          clear t0 t1
          have t0 := (HBT.out.kept hk2 id).cell (i := 0)
          have t1 := (HBT.out.kept hk2 id).cell (i := 1)
          have ca0 := (HBA.out.kept hk2 id).cell (i := 0)
          have ca1 := (HBA.out.kept hk2 id).cell (i := 1)
          simp only [List.getElem?_toArray, List.getElem?_cons_zero, List.getElem?_cons_succ] at t0 t1 ca0 ca1
          clear hk2
          go_wp2_with fail
          refine (HCA'.out).mono ?_
          rintro e w3 ⟨rfl, hk3⟩
          have HK3 := Lib.hid (HK2.out.trans' hk3)
          have HCB' := Lib.hid (HCB.out _ HK3.out)
          clear t0 t1 ca0 ca1
          have t0 := (HBT.out.kept HK3.out id).cell (i := 0)
          have t1 := (HBT.out.kept HK3.out id).cell (i := 1)
          have cb0 := (HBB.out.kept HK3.out id).cell (i := 0)
          have cb1 := (HBB.out.kept HK3.out id).cell (i := 1)
          simp only [List.getElem?_toArray, List.getElem?_cons_zero, List.getElem?_cons_succ] at t0 t1 cb0 cb1
          clear hk3
          go_wp2_with fail
          refine (HCB'.out).mono ?_
          rintro e w4 ⟨rfl, hk4⟩
          have HK4 := Lib.hid (HK3.out.trans' hk4)
          clear t0 t1 cb0 cb1
          have t0 := (HBT.out.kept HK4.out id).cell (i := 0)
          have t1 := (HBT.out.kept HK4.out id).cell (i := 1)
          have ca0 := (HBA.out.kept HK4.out id).cell (i := 0)
          have ca1 := (HBA.out.kept HK4.out id).cell (i := 1)
          have cb0 := (HBB.out.kept HK4.out id).cell (i := 0)
          have cb1 := (HBB.out.kept HK4.out id).cell (i := 1)
          simp only [List.getElem?_toArray, List.getElem?_cons_zero, List.getElem?_cons_succ] at t0 t1 ca0 ca1 cb0 cb1
          clear hk4
          have hK : Keeps (fun _ => False) w4 w4.drew := (Keeps.refl _ _).drew
          go_wp2_with fail
          go_region_held3 (fun w' => w'.cell? ⟨w.heap.size, 0, none⟩ = some (.int .i64 (E : Int)) ∧ w'.cell? ⟨w.heap.size, 1, none⟩ = some (.slice va L.length vc) ∧ w'.cell? ⟨w.heap.size + 1, 0, none⟩ = some (.int .i64 a1) ∧ w'.cell? ⟨w.heap.size + 1, 1, none⟩ = some (.int .i64 a2) ∧ w'.cell? ⟨w.heap.size + 1 + 1, 0, none⟩ = some (.int .i64 b1) ∧ w'.cell? ⟨w.heap.size + 1 + 1, 1, none⟩ = some (.int .i64 b2))
            (first | exact ⟨hK.cellF t0, hK.cellF t1, hK.cellF ca0, hK.cellF ca1, hK.cellF cb0, hK.cellF cb1⟩ | assumption | exact ⟨cell_set2 (hK.cellF t0) (ne_three _).1, cell_set2 (hK.cellF t1) (ne_three _).1, cell_set2 (hK.cellF ca0) (ne_three _).2.1, cell_set2 (hK.cellF ca1) (ne_three _).2.1, cell_set2 (hK.cellF cb0) (ne_three _).2.2, cell_set2 (hK.cellF cb1) (ne_three _).2.2⟩)
            (first
              | (go_at_call 69; with_reducible refine (HP1.out _ (HK4.out.trans' hK)).mono ?_; rintro e w5 ⟨v5, rfl, hls5, hk5⟩; have hK := hK.trans' hk5; obtain ⟨va5, vc5, rfl⟩ := hls5.form)
              | (go_at_call 69; with_reducible refine (HP2.out _ _ hls5).mono ?_; rintro e w6 ⟨v6, rfl, hls6, hk6⟩; have hK := hK.trans' hk6; obtain ⟨va6, vc6, rfl⟩ := hls6.form; have hR6 := HBR.out.kept (HK4.out.trans' hK) id; have r0 := hR6.cell (i := 0); have r1 := hR6.cell (i := 1); have q0 := hR6.free 0; have q1 := hR6.free 1; have rl := hR6.lt; simp only [List.getElem?_toArray, List.getElem?_cons_zero, List.getElem?_cons_succ] at r0 r1)
              | fail)
          all_goals
            have HKN := Lib.hid (HK0.out.trans' (HK4.out.trans' hK))
            have HE := rl_end (E := E) HKN.out hls6 hR6 hbw rfl
            clear r0 r1 q0 q1 hK hls6 hls5 hk5 hk6 hR6
            go_wp2_with fail
            generalize (World.setCell _ _ _).setCell _ (.slice va6 _ _) = WW at *
            have k0 := HE.out.1.cell (i := 0)
            have k1 := HE.out.1.cell (i := 1)
            refine bodyPost_ret (v := .tuple #[rval E (.slice va6 L2.length vc6), .int .i64 0]) (by simp at k0 k1; simp [results, Tryd.results56, go_sem, k0, k1, rval]) rfl ?_
            exact ⟨_, rfl, HE.out.2⟩
        · rw [hle, if_neg hBb]
          have hkb0 : ((chkErr L b1 b2 : Nat) : Int) ≠ 0 := by omega
          generalize ((chkErr L b1 b2 : Nat) : Int) = kb at *
          have hkb : (kb != 0) = true := by rw [bne_iff_ne]; exact hkb0
          clear hle hs hr1 e2n h hg hA hBb hfv hkb0
          unfold rval RLPost RetPost at *
          go_enter Tryd.func56, Tryd.ntmps56
          go_upto_region 1 with fail
          clear hW
          have t0 := (HBT.out.kept (Keeps.refl (fun _ => False) _) id).cell (i := 0)
          have t1 := (HBT.out.kept (Keeps.refl (fun _ => False) _) id).cell (i := 1)
          simp only [List.getElem?_toArray, List.getElem?_cons_zero, List.getElem?_cons_succ] at t0 t1
          go_wp2_with fail
          refine (HF.out).mono ?_
          rintro e w2 ⟨rfl, hk2⟩
          have HK2 := Lib.hid hk2
          have HCA' := Lib.hid (HCA.out _ hk2)
          clear t0 t1
          have t0 := (HBT.out.kept hk2 id).cell (i := 0)
          have t1 := (HBT.out.kept hk2 id).cell (i := 1)
          have ca0 := (HBA.out.kept hk2 id).cell (i := 0)
          have ca1 := (HBA.out.kept hk2 id).cell (i := 1)
          simp only [List.getElem?_toArray, List.getElem?_cons_zero, List.getElem?_cons_succ] at t0 t1 ca0 ca1
          clear hk2
          go_wp2_with fail
          refine (HCA'.out).mono ?_
          rintro e w3 ⟨rfl, hk3⟩
          have HK3 := Lib.hid (HK2.out.trans' hk3)
          have HCB' := Lib.hid (HCB.out _ HK3.out)
          clear t0 t1 ca0 ca1
          have t0 := (HBT.out.kept HK3.out id).cell (i := 0)
          have t1 := (HBT.out.kept HK3.out id).cell (i := 1)
          have cb0 := (HBB.out.kept HK3.out id).cell (i := 0)
          have cb1 := (HBB.out.kept HK3.out id).cell (i := 1)
          simp only [List.getElem?_toArray, List.getElem?_cons_zero, List.getElem?_cons_succ] at t0 t1 cb0 cb1
          clear hk3
          go_wp2_with fail
          refine (HCB'.out).mono ?_
          rintro e w4 ⟨rfl, hk4⟩
          have HK4 := Lib.hid (HK3.out.trans' hk4)
          have HL4 := Lib.hid (HL.out.keep HK4.out)
          have HR4 := Lib.hid (HBR.out.kept HK4.out id)
          clear t0 t1 cb0 cb1
          have t0 := (HBT.out.kept HK4.out id).cell (i := 0)
          have t1 := (HBT.out.kept HK4.out id).cell (i := 1)
          have r0 := (HBR.out.kept HK4.out id).cell (i := 0)
          have r1 := (HBR.out.kept HK4.out id).cell (i := 1)
          have q0 := (HBR.out.kept HK4.out id).free 0
          have q1 := (HBR.out.kept HK4.out id).free 1
          have rl := (HBR.out.kept HK4.out id).lt
          simp only [List.getElem?_toArray, List.getElem?_cons_zero, List.getElem?_cons_succ] at t0 t1 r0 r1
          clear hk4
          have HE := rl_end (E := E) (HK0.out.trans' HK4.out) HL4.out HR4.out hbw rfl
          go_wp2_with fail
          generalize (World.setCell _ _ _).setCell _ (.slice _ _ _) = WW at *
          have k0 := HE.out.1.cell (i := 0)
          have k1 := HE.out.1.cell (i := 1)
          refine bodyPost_ret (v := .tuple #[rval E (.slice va L.length vc), .int .i64 kb]) (by simp at k0 k1; simp [results, Tryd.results56, go_sem, k0, k1, rval]) rfl ?_
          exact ⟨_, rfl, HE.out.2⟩
      · rw [if_pos hA] at hle
        rw [hle, if_neg hA]
        have hkb0 : ((chkErr L a1 a2 : Nat) : Int) ≠ 0 := by omega
        generalize ((chkErr L a1 a2 : Nat) : Int) = kb at *
        have hkb : (kb != 0) = true := by rw [bne_iff_ne]; exact hkb0
        clear hle hs hr1 e2n h hg hA hfv hkb0 HCB
        unfold rval RLPost RetPost at *
        go_enter Tryd.func56, Tryd.ntmps56
        go_upto_region 1 with fail
        clear hW
        have t0 := (HBT.out.kept (Keeps.refl (fun _ => False) _) id).cell (i := 0)
        have t1 := (HBT.out.kept (Keeps.refl (fun _ => False) _) id).cell (i := 1)
        simp only [List.getElem?_toArray, List.getElem?_cons_zero, List.getElem?_cons_succ] at t0 t1
        go_wp2_with fail
        refine (HF.out).mono ?_
        rintro e w2 ⟨rfl, hk2⟩
        have HK2 := Lib.hid hk2
        have HCA' := Lib.hid (HCA.out _ hk2)
        clear t0 t1
        have t0 := (HBT.out.kept hk2 id).cell (i := 0)
        have t1 := (HBT.out.kept hk2 id).cell (i := 1)
        have ca0 := (HBA.out.kept hk2 id).cell (i := 0)
        have ca1 := (HBA.out.kept hk2 id).cell (i := 1)
        simp only [List.getElem?_toArray, List.getElem?_cons_zero, List.getElem?_cons_succ] at t0 t1 ca0 ca1
        clear hk2
        go_wp2_with fail
        refine (HCA'.out).mono ?_
        rintro e w3 ⟨rfl, hk3⟩
        have HK4 := Lib.hid (HK2.out.trans' hk3)
        have HL4 := Lib.hid (HL.out.keep HK4.out)
        have HR4 := Lib.hid (HBR.out.kept HK4.out id)
        clear t0 t1 ca0 ca1
        have t0 := (HBT.out.kept HK4.out id).cell (i := 0)
        have t1 := (HBT.out.kept HK4.out id).cell (i := 1)
        have r0 := (HBR.out.kept HK4.out id).cell (i := 0)
        have r1 := (HBR.out.kept HK4.out id).cell (i := 1)
        have q0 := (HBR.out.kept HK4.out id).free 0
        have q1 := (HBR.out.kept HK4.out id).free 1
        have rl := (HBR.out.kept HK4.out id).lt
        simp only [List.getElem?_toArray, List.getElem?_cons_zero, List.getElem?_cons_succ] at t0 t1 r0 r1
        clear hk3
        have HE := rl_end (E := E) (HK0.out.trans' HK4.out) HL4.out HR4.out hbw rfl
        go_wp2_with fail
        generalize (World.setCell _ _ _).setCell _ (.slice _ _ _) = WW at *
        have k0 := HE.out.1.cell (i := 0)
        have k1 := HE.out.1.cell (i := 1)
        refine bodyPost_ret (v := .tuple #[rval E (.slice va L.length vc), .int .i64 kb]) (by simp at k0 k1; simp [results, Tryd.results56, go_sem, k0, k1, rval]) rfl ?_
        exact ⟨_, rfl, HE.out.2⟩
end
end Go.Proofs.YtjmkejkhpdhhbaaDoor
