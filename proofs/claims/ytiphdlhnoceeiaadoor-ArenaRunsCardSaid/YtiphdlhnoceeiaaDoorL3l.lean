/- Chapter 3's laws: the document's answer: with, Add, Find, Drop. -/
import Derived.Test.YtiphdlhnoceeiaaDoorL3j
namespace Go.Proofs.YtiphdlhnoceeiaaDoor
open Go Go.RowKit
set_option linter.unusedVariables false
set_option linter.unusedSimpArgs false
set_option maxRecDepth 100000

theorem infoRp : (Tryd.prog.info? 83).map (fun i => (i.zero, i.size, i.bytes)) = some (some (.agg #[.int .u32 0, .int .i64 0]), 2, 16) := by kernel_rfl
def withL (L : List (Int × Int)) (y : Nat) (q : Int × Int) : List (Int × Int) := if y = L.length then L ++ [q] else L.set y q
def RWPost (n : Int) (M : List (Int × Int)) (w : World) (e : Ending) (w' : World) : Prop := ∃ a c, e = .returned (RV n a M.length c) ∧ Rd w' a (plVals M) ∧ (∀ b off, a = some ⟨b, off, none⟩ → w.heap.size ≤ b) ∧ Keeps (fun _ => False) w w'
theorem addL_with (L : List (Int × Int)) (z : Nat) (hz : z ≤ L.length) : addL L z = withL L z (nage L z, 1) := by
  unfold addL addM withL
  by_cases h : z < L.length
  · rw [if_pos h, if_neg (by omega)]
  · obtain rfl : z = L.length := by omega
    rw [if_neg h, if_pos rfl]
    simp
theorem PlRow2.rd {w : World} {base : Nat} {v : Value} {L : List (Int × Int)} {t : TypeId} (h : w.ownsRow base t 2 v L.length (plVals L)) : ∃ a c, v = .slice a L.length c ∧ Rd w a (plVals L) ∧ (a = none → c = 0) := by
  rcases h.2 with ⟨rfl, h0⟩ | ⟨g, cap, cur, rfl, hb, hgg, hnc, hcm, hcs, htake⟩
  · refine ⟨none, 0, by rw [h0], .inl (List.eq_nil_of_length_eq_zero (by rw [plVals_length]; omega)), fun _ => rfl⟩
  · refine ⟨_, cap, rfl, .inr ⟨g, 0, rfl, fun i hi => ?_⟩, by simp⟩
    rw [← htake, List.getElem?_take, if_pos (by have := h.1; omega), Nat.zero_add, cell_of_row w g i cur _ (0, 0) hgg]
    simp
section
variable {L : List (Int × Int)}
theorem refFind3 (n : Nat) (a : Option Addr) (c : Nat) (age : Int) (y : Nat) (hy : y ≤ 4294967295) (w : World) (hr : Rd w a (plVals L)) (hl : L.length ≤ n) (hn : n ≤ 1048576) :
    Calls Tryd.prog 50 #[RV n a L.length c, .int .u32 age, .int .u32 y] w (NilPost (.int .i64 (findErr n L age y : Nat)) w) := by
  have hk : Hid (Keeps (fun _ => False) w (w.alloc (.cells #[.int .i64 n, .slice a L.length c] 75))) := (Keeps.refl _ _).alloc _
  unfold RV NilPost
  by_cases han : n ≤ y
  · have he : findErr n L age y = 12 := by simp [findErr, han]
    rw [he]
    clear he hr
    go_enter Tryd.func50, Tryd.ntmps50
    go_wp2_with fail
    go_ret
    exact ⟨rfl, hk.out⟩
  · by_cases hal : y < L.length
    · obtain ⟨b, off, rfl, e1, e2⟩ := plAt hr y hal
      have hget : L[y]? = some L[y] := List.getElem?_eq_getElem hal
      have he : findErr n L age y = if L[y] = (age, 1) then 0 else 13 := by unfold findErr; rw [if_neg han, hget]; simp
      have hbw := World.block_lt_of_cell? _ _ e1
      clear hget hr
      generalize L[y] = q at *
      obtain ⟨qa, qs⟩ := q
      simp only at e1 e2 hbw
      have hla : decide (L.length ≤ y) = false := by simp; omega
      by_cases hqs : qs = 1
      · subst hqs
        by_cases hqa : qa = age
        · subst hqa
          rw [he.trans (if_pos rfl)]
          clear he
          go_enter Tryd.func50, Tryd.ntmps50
          go_wp2_with fail
          go_ret
          exact ⟨rfl, hk.out⟩
        · have hqb : (qa == age) = false := by rw [beq_eq_false_iff_ne]; exact hqa
          have hqn : (qa != age) = true := by rw [bne_iff_ne]; exact hqa
          rw [he.trans (if_neg (fun e => hqa (by simpa using e)))]
          clear he
          go_enter Tryd.func50, Tryd.ntmps50
          go_wp2_with fail
          go_ret
          exact ⟨rfl, hk.out⟩
      · have hqb : (qs == 1) = false := by rw [beq_eq_false_iff_ne]; exact hqs
        have hqn : (qs != 1) = true := by rw [bne_iff_ne]; exact hqs
        rw [he.trans (if_neg (fun e => hqs (by simp at e; exact e.2)))]
        clear he
        go_enter Tryd.func50, Tryd.ntmps50
        go_wp2_with fail
        go_ret
        exact ⟨rfl, hk.out⟩
    · have he : findErr n L age y = 13 := by unfold findErr; rw [if_neg han, List.getElem?_eq_none (by omega)]; simp
      rw [he]
      have hla : decide (L.length ≤ y) = true := by simp; omega
      have hla2 : L.length ≤ y := by omega
      clear he hr
      go_enter Tryd.func50, Tryd.ntmps50
      go_wp2_with fail
      go_ret
      exact ⟨rfl, hk.out⟩

/-- The answer that with lays down. -/
theorem RWith.fin {w w2 : World} {n : Int} {y m base : Nat} {q : Int × Int} {va : Option Addr} {vc : Nat} (b : Nat) (hwb : w.heap.size ≤ b) (hbb : b < base) (hk : Keeps (fun _ => False) w w2) (hB : Blk w2 b #[.int .i64 0, .slice none 0 0] 75)
    (ho : w2.ownsRow base 83 2 (.slice va m vc) m (plVals (withL L y q))) (hm : m = (withL L y q).length) :
    Blk ((w2.setCell ⟨b, 0, none⟩ (.int .i64 n)).setCell ⟨b, 1, none⟩ (.slice va m vc)) b #[.int .i64 n, .slice va m vc] 75 ∧
      RWPost n (withL L y q) w (.returned (.agg #[.int .i64 n, .slice va m vc])) ((w2.setCell ⟨b, 0, none⟩ (.int .i64 n)).setCell ⟨b, 1, none⟩ (.slice va m vc)) := by
  subst hm
  refine ⟨(hB.set 0 _).set 1 _, va, vc, rfl, ?_, fun b2 off2 e2 => by have := (ho.lt b2 (by rw [e2]; rfl)).1; omega, (hk.setCell _ _ fun h => by first | omega | (simp at h; omega)).setCell _ _ fun h => by first | omega | (simp at h; omega)⟩
  have hkr : Keeps (fun k => k = b) w2 ((w2.setCell ⟨b, 0, none⟩ (.int .i64 n)).setCell ⟨b, 1, none⟩ (.slice va (withL L y q).length vc)) :=
    ((Keeps.refl (fun k => k = b) w2).setCell ⟨b, 0, none⟩ (.int .i64 n) fun _ => rfl).setCell ⟨b, 1, none⟩ (.slice va (withL L y q).length vc) fun _ => rfl
  obtain ⟨a2, c2, he, hr, _⟩ := PlRow2.rd (ownsRow_kept ho hkr fun g hg e => by have := (ho.lt g hg).1; omega)
  simp only [Value.slice.injEq, true_and] at he
  obtain ⟨rfl, rfl⟩ := he
  exact hr

set_option maxHeartbeats 2000000 in
theorem refWith3 (n : Int) (a : Option Addr) (c : Nat) (x : Int) (y : Nat) (hx : x = y) (hy : y ≤ L.length) (age s : Int) (w : World) (hr : Rd w a (plVals L)) (hl : L.length ≤ 2000000) :
    Calls Tryd.prog 66 #[RV n a L.length c, .int .i64 x, .agg #[.int .u32 age, .int .i64 s]] w (RWPost n (withL L y (age, s)) w) := by
  obtain ⟨i0, hi, hz0, hz1, hz2⟩ := info_parts infoRp
  subst hx
  have hB0 : Blk (w.alloc (.cells #[.int .i64 n, .slice a L.length c] 75)) w.heap.size #[.int .i64 n, .slice a L.length c] 75 := Blk.new w _ _
  have hB1 : Blk ((w.alloc (.cells #[.int .i64 n, .slice a L.length c] 75)).alloc (.cells #[.int .u32 age, .int .i64 s] 83)) (w.heap.size + 1) #[.int .u32 age, .int .i64 s] 83 := by
    have := Blk.new (w.alloc (.cells #[.int .i64 n, .slice a L.length c] 75)) #[.int .u32 age, .int .i64 s] 83
    simpa using this
  have hB2 : Blk (((w.alloc (.cells #[.int .i64 n, .slice a L.length c] 75)).alloc (.cells #[.int .u32 age, .int .i64 s] 83)).alloc (.cells #[.int .i64 0, .slice none 0 0] 75)) (w.heap.size + 2) #[.int .i64 0, .slice none 0 0] 75 := by
    have := Blk.new ((w.alloc (.cells #[.int .i64 n, .slice a L.length c] 75)).alloc (.cells #[.int .u32 age, .int .i64 s] 83)) #[.int .i64 0, .slice none 0 0] 75
    simpa using this
  have HK : Hid (Keeps (fun _ => False) w (((w.alloc (.cells #[.int .i64 n, .slice a L.length c] 75)).alloc (.cells #[.int .u32 age, .int .i64 s] 83)).alloc (.cells #[.int .i64 0, .slice none 0 0] 75))) := (((Keeps.refl _ _).alloc _).alloc _).alloc _
  have HBB := Lib.hid (And.intro ((hB0.alloc (.cells #[.int .u32 age, .int .i64 s] 83)).alloc (.cells #[.int .i64 0, .slice none 0 0] 75)) (And.intro (hB1.alloc (.cells #[.int .i64 0, .slice none 0 0] 75)) hB2))
  have HR := Lib.hid (hr.keep HK.out)
  clear hB0 hB1 hB2 hr
  have HB0 := HBB.out.1
  have HB1 := HBB.out.2.1
  have HB2 := Lib.hid HBB.out.2.2
  have b0 := HB0.cell (i := 0)
  have b1 := HB0.cell (i := 1)
  have p0 := HB1.cell (i := 0)
  have p1 := HB1.cell (i := 1)
  simp only [List.getElem?_toArray, List.getElem?_cons_zero, List.getElem?_cons_succ] at b0 b1 p0 p1
  have HBX := Lib.hid (And.intro HB0 HB1)
  clear HB0 HB1 HBB
  unfold RV
  cases a with
  | none =>
    have hL : L = [] := by
      rcases HR.out with h | ⟨b, off, h, _⟩
      · have := plVals_length L
        exact List.eq_nil_of_length_eq_zero (by rw [h] at this; simp only [List.length_nil] at this; omega)
      · simp at h
    subst hL
    obtain rfl : y = 0 := by simpa using hy
    clear b0 b1 p0 p1
    have hown : (((w.alloc (.cells #[.int .i64 n, .slice none 0 c] 75)).alloc (.cells #[.int .u32 age, .int .i64 s] 83)).alloc (.cells #[.int .i64 0, .slice none 0 0] 75)).ownsRow (w.heap.size + 3) 83 2 (.slice none 0 0) 0 [] := World.ownsRow_nil _ _ _ _
    go_enter Tryd.func66, Tryd.ntmps66
    go_wp2_with (first | (at_builtin; refine wpList_app1 rfl _ _ 65 rfl (w.heap.size + 3) 83 i0 (.agg #[.int .u32 0, .int .i64 0]) 2 16 Tryd.underlying65 hi hz0 hz1 hz2 rfl (by decide) _ _ _ rfl hown _ 1 1 [.int .u32 age, .int .i64 s] 83 rfl (by simp) rfl ?d1 ?d2 ?d3 ?d4 ?_))
    case d1 => simp [Value.oneCell']
    case d2 => unfold maxLen; omega
    case d3 => omega
    case d4 => simp
    intro v2 w2 ho2 hk2 hb2 _ _
    have hkz : Keeps (fun _ => False) w w2 := HK.out.trans' (hk2.mono fun _ _ e => by simp [Value.ownBlock] at e)
    have hBr := HB2.out.quiet (hk2.mono fun _ _ e => by simp [Value.ownBlock] at e)
    have hBn := HBX.out.1.quiet (hk2.mono fun _ _ e => by simp [Value.ownBlock] at e)
    have n0 := hBn.cell (i := 0)
    have r0 := hBr.cell (i := 0)
    have r1 := hBr.cell (i := 1)
    have q0 := hBr.free 0
    have q1 := hBr.free 1
    simp only [List.getElem?_toArray, List.getElem?_cons_zero, List.getElem?_cons_succ] at n0 r0 r1
    obtain ⟨v2a, v2c, rfl⟩ := ownsRow_slice ho2
    have HF := Lib.hid (RWith.fin (L := []) (base := w.heap.size + 3) (m := 1) (n := n) (q := (age, s)) (y := 0) (w.heap.size + 1 + 1) (by omega) (by omega) hkz hBr (by simpa [withL, plVals] using ho2) (by simp [withL]))
    clear ho2 hk2 hb2 hown hkz hBr hBn
    go_wp2_with fail
    generalize (w2.setCell ⟨w.heap.size + 1 + 1, 0, none⟩ (.int .i64 n)).setCell ⟨w.heap.size + 1 + 1, 1, none⟩ (.slice v2a 1 v2c) = W at *
    have k0 := HF.out.1.cell (i := 0)
    have k1 := HF.out.1.cell (i := 1)
    refine bodyPost_ret (v := .agg #[.int .i64 n, .slice v2a 1 v2c]) (by simp only [List.getElem?_toArray, List.getElem?_cons_zero, List.getElem?_cons_succ] at k0 k1; simp [results, Tryd.results66, go_sem, k0, k1]) rfl ?_
    exact HF.out.2
  | some ad =>
    clear b0 b1 p0 p1
    go_enter Tryd.func66, Tryd.ntmps66
    go_wp2_with (first | (at_builtin; refine wpList_app rfl _ _ 65 rfl (w.heap.size + 3) 83 i0 (.agg #[.int .u32 0, .int .i64 0]) 2 16 Tryd.underlying65 hi hz0 hz1 hz2 rfl (by decide) _ 0 [] rfl (World.ownsRow_nil _ _ _ _) ad L.length c (plVals L) rfl (plVals_length L) HR.out.cells (plVals_one L) ?c3 ?c4 ?c5 ?_))
    case c3 => unfold maxLen; omega
    case c4 => omega
    case c5 => simp
    intro v1 w1 ho hk1 _ _
    have ho : w1.ownsRow (w.heap.size + 3) 83 2 v1 L.length (plVals L) := by first | exact ho | (rw [Nat.zero_add, List.nil_append] at ho; exact ho)
    obtain ⟨va, vc, rfl⟩ := ownsRow_slice ho
    have hkq : Keeps (fun _ => False) (((w.alloc (.cells #[.int .i64 n, .slice (some ad) L.length c] 75)).alloc (.cells #[.int .u32 age, .int .i64 s] 83)).alloc (.cells #[.int .i64 0, .slice none 0 0] 75)) w1 := hk1.mono fun _ _ e => by simp [Value.ownBlock] at e
    have hB0 := HBX.out.1.quiet hkq
    have hB1 := HBX.out.2.quiet hkq
    have H1 := Lib.hid (And.intro (HK.out.trans' hkq) (And.intro hB0 (And.intro hB1 (HB2.out.quiet hkq))))
    have hsz := hkq.size
    simp at hsz
    have b0 := hB0.cell (i := 0)
    have p0 := hB1.cell (i := 0)
    have p1 := hB1.cell (i := 1)
    simp only [List.getElem?_toArray, List.getElem?_cons_zero, List.getElem?_cons_succ] at b0 p0 p1
    have HO := Lib.hid ho
    clear hk1 hkq hB0 hB1
    by_cases hyl : y = L.length
    · subst hyl
      have hown := HO.out
      go_wp2_with (first | (at_builtin; refine wpList_app1 rfl _ _ 65 rfl (w.heap.size + 3) 83 i0 (.agg #[.int .u32 0, .int .i64 0]) 2 16 Tryd.underlying65 hi hz0 hz1 hz2 rfl (by decide) _ _ _ rfl hown _ 1 1 [.int .u32 age, .int .i64 s] 83 rfl rfl rfl ?d1 ?d2 ?d3 ?d4 ?_))
      case d1 => simp [Value.oneCell']
      case d2 => unfold maxLen; omega
      case d3 => omega
      case d4 => omega
      intro v2 w2 ho2 hk2 hb2 _ _
      have hkz : Keeps (fun _ => False) w w2 := H1.out.1.trans hk2 fun i hi e => by have := (HO.out.lt i e).1; omega
      have hBr := H1.out.2.2.2.kept hk2 (fun e => by have := (HO.out.lt _ e).1; omega)
      have hBn := H1.out.2.1.kept hk2 (fun e => by have := (HO.out.lt _ e).1; omega)
      have n0 := hBn.cell (i := 0)
      have r0 := hBr.cell (i := 0)
      have r1 := hBr.cell (i := 1)
      have q0 := hBr.free 0
      have q1 := hBr.free 1
      simp only [List.getElem?_toArray, List.getElem?_cons_zero, List.getElem?_cons_succ] at n0 r0 r1
      obtain ⟨v2a, v2c, rfl⟩ := ownsRow_slice ho2
      have HF := Lib.hid (RWith.fin (L := L) (base := w.heap.size + 3) (m := L.length + 1) (n := n) (q := (age, s)) (y := L.length) (w.heap.size + 1 + 1) (by omega) (by omega) hkz hBr (by
        have := ho2
        rw [show plVals L ++ [.int .u32 age, .int .i64 s] = plVals (withL L L.length (age, s)) from by simp [withL, plVals]] at this
        exact this) (by simp [withL]))
      clear ho2 hk2 hb2 hown b0 p0 p1 hkz hBr hBn
      go_wp2_with fail
      generalize (w2.setCell ⟨w.heap.size + 1 + 1, 0, none⟩ (.int .i64 n)).setCell ⟨w.heap.size + 1 + 1, 1, none⟩ (.slice v2a (L.length + 1) v2c) = W at *
      have k0 := HF.out.1.cell (i := 0)
      have k1 := HF.out.1.cell (i := 1)
      refine bodyPost_ret (v := .agg #[.int .i64 n, .slice v2a (L.length + 1) v2c]) (by simp only [List.getElem?_toArray, List.getElem?_cons_zero, List.getElem?_cons_succ] at k0 k1; simp [results, Tryd.results66, go_sem, k0, k1]) rfl ?_
      exact HF.out.2
    · have hyl2 : y < L.length := by omega
      obtain ⟨g, rfl⟩ : ∃ g, va = some ⟨g, 0, none⟩ := by
        rcases HO.out.2 with ⟨_, h0⟩ | ⟨g, c, cur, he, _⟩
        · omega
        · simp only [Value.slice.injEq] at he
          exact ⟨g, he.1⟩
      have e1 := HO.out.cellAt (y * 2) (by omega)
      rw [(plVals_get L y hyl2).1] at e1
      have e2 := HO.out.cellAt (y * 2 + 1) (by omega)
      rw [(plVals_get L y hyl2).2] at e2
      have f1 := HO.out.frozenAt (y * 2)
      have f2 := HO.out.frozenAt (y * 2 + 1)
      have hgb := (HO.out.lt g rfl).1
      have hst := ((HO.out.stored (y * 2) (.int .u32 age)).1.stored (y * 2 + 1) (.int .i64 s)).1
      rw [plVals_set L y age s hyl2] at hst
      have hks : Keeps (fun k => k = g) w1 ((w1.setCell ⟨g, y * 2, none⟩ (.int .u32 age)).setCell ⟨g, y * 2 + 1, none⟩ (.int .i64 s)) := ((Keeps.refl (fun k => k = g) w1).setCell ⟨g, y * 2, none⟩ (.int .u32 age) fun _ => rfl).setCell ⟨g, y * 2 + 1, none⟩ (.int .i64 s) fun _ => rfl
      have hkz : Keeps (fun _ => False) w ((w1.setCell ⟨g, y * 2, none⟩ (.int .u32 age)).setCell ⟨g, y * 2 + 1, none⟩ (.int .i64 s)) := H1.out.1.trans hks fun i hi e => by omega
      have hBr := H1.out.2.2.2.kept hks (fun e => by omega)
      have hBn := H1.out.2.1.kept hks (fun e => by omega)
      have n0 := hBn.cell (i := 0)
      have r0 := hBr.cell (i := 0)
      have r1 := hBr.cell (i := 1)
      have q0 := hBr.free 0
      have q1 := hBr.free 1
      simp only [List.getElem?_toArray, List.getElem?_cons_zero, List.getElem?_cons_succ] at n0 r0 r1
      have HF := Lib.hid (RWith.fin (L := L) (base := w.heap.size + 3) (m := L.length) (n := n) (q := (age, s)) (y := y) (w.heap.size + 1 + 1) (by omega) (by omega) hkz hBr (by rw [show withL L y (age, s) = L.set y (age, s) from if_neg hyl]; exact hst) (by rw [show withL L y (age, s) = L.set y (age, s) from if_neg hyl, List.length_set]))
      have hyb : ((y : Int) == (L.length : Int)) = false := by rw [beq_eq_false_iff_ne]; omega
      have hyd : decide (y = L.length) = false := by simp [hyl]
      clear hst hks hkz hBr hBn hyl ho
      go_wp2_with fail
      generalize (((w1.setCell ⟨g, y * 2, none⟩ (.int .u32 age)).setCell ⟨g, y * 2 + 1, none⟩ (.int .i64 s)).setCell ⟨w.heap.size + 1 + 1, 0, none⟩ (.int .i64 n)).setCell ⟨w.heap.size + 1 + 1, 1, none⟩ (.slice (some ⟨g, 0, none⟩) L.length vc) = W at *
      have k0 := HF.out.1.cell (i := 0)
      have k1 := HF.out.1.cell (i := 1)
      refine bodyPost_ret (v := .agg #[.int .i64 n, .slice (some ⟨g, 0, none⟩) L.length vc]) (by simp only [List.getElem?_toArray, List.getElem?_cons_zero, List.getElem?_cons_succ] at k0 k1; simp [results, Tryd.results66, go_sem, k0, k1]) rfl ?_
      exact HF.out.2

def RAddPost (n : Nat) (a : Option Addr) (c : Nat) (L : List (Int × Int)) (m : Nat) (w : World) (e : Ending) (w' : World) : Prop :=
  (m = n ∧ e = .returned (.tuple #[RV n a L.length c, .int .i64 0, .int .u32 0, .int .i64 16]) ∨
    m ≠ n ∧ ∃ a' c', e = .returned (.tuple #[RV n a' (addL L m).length c', .int .i64 (m : Int), .int .u32 (nage L m), .int .i64 0]) ∧ Rd w' a' (plVals (addL L m)) ∧ ∀ b off, a' = some ⟨b, off, none⟩ → w.heap.size ≤ b) ∧ Keeps (fun _ => False) w w'
set_option maxHeartbeats 2000000 in
theorem refAdd3 (n : Nat) (a : Option Addr) (c m : Nat) (w : World) (hr : Rd w a (plVals L)) (hle : L.length ≤ n) (hn : n ≤ 1048576) (hok : ∀ q ∈ L, OkP q) (hm : m ≤ n) (hS : tak L m = false) (hlo : ∀ y, y < m → tak L y = true) :
    Calls Tryd.prog 51 #[RV n a L.length c] w (RAddPost n a c L m w) := by
  have hml := tak_le hlo
  have HMID := Lib.hid (AddMid.of hok hS hml)
  have HK0 : Hid (Keeps (fun _ => False) w ((w.alloc (.cells #[.int .i64 n, .slice a L.length c] 75)).alloc (.cells #[.int .i64 0, .slice none 0 0] 75))) := ((Keeps.refl _ _).alloc _).alloc _
  have hB0 : Blk ((w.alloc (.cells #[.int .i64 n, .slice a L.length c] 75)).alloc (.cells #[.int .i64 0, .slice none 0 0] 75)) w.heap.size #[.int .i64 n, .slice a L.length c] 75 := (Blk.new w _ _).alloc _
  have hB1 : Blk ((w.alloc (.cells #[.int .i64 n, .slice a L.length c] 75)).alloc (.cells #[.int .i64 0, .slice none 0 0] 75)) (w.heap.size + 1) #[.int .i64 0, .slice none 0 0] 75 := by
    have := Blk.new (w.alloc (.cells #[.int .i64 n, .slice a L.length c] 75)) #[.int .i64 0, .slice none 0 0] 75
    simpa using this
  have HR := Lib.hid (hr.keep HK0.out)
  have HBB := Lib.hid (And.intro hB0 hB1)
  have HLO := Lib.hid hlo
  have HS := Lib.hid hS
  clear hB0 hB1 hr hlo hS hok
  unfold RV
  go_enter Tryd.func51, Tryd.ntmps51
  go_wp2_with fail
  generalize (w.alloc (.cells #[.int .i64 n, .slice a L.length c] 75)).alloc (.cells #[.int .i64 0, .slice none 0 0] 75) = w0 at *
  have b0 := HBB.out.1.cell (i := 0)
  have b1 := HBB.out.1.cell (i := 1)
  have r0 := HBB.out.2.cell (i := 0)
  have r1 := HBB.out.2.cell (i := 1)
  have q0 := HBB.out.2.free 0
  have q1 := HBB.out.2.free 1
  simp only [List.getElem?_toArray, List.getElem?_cons_zero, List.getElem?_cons_succ] at b0 b1 r0 r1
  go_loopw [6] (fun i wr => ∃ f : Nat, f ≤ m ∧ i = .int .i64 (f : Int) ∧ wr = w0) (fun i _ => m - (intOf i).toNat)
  case atStart => exact ⟨0, Nat.zero_le _, rfl, rfl⟩
  case round =>
    obtain ⟨f, hf, rfl, rfl⟩ := hrel
    by_cases hlt : f < m
    · have hfl : f < L.length := by omega
      obtain ⟨ab, off, rfl, e1, e2⟩ := plAt HR.out f hfl
      have hS2 := HLO.out f hlt
      rw [tak_in L f hfl] at hS2
      generalize L[f] = q at *
      obtain ⟨qa, qs⟩ := q
      simp only at e1 e2 hS2
      go_wp2_with fail
      refine ⟨⟨f + 1, hlt, by go_num, by first | rfl | trivial⟩, by simp [intOf]; omega⟩
    · obtain rfl : f = m := by omega
      by_cases hfl : f < L.length
      · have hfn : ((f : Int) == (n : Int)) = false := by rw [beq_eq_false_iff_ne]; omega
        have hfn2 : decide (f = n) = false := by simp; omega
        obtain ⟨ab, off, rfl, e1, e2⟩ := plAt HR.out f hfl
        have hS2 := HS.out
        rw [tak_in L f hfl] at hS2
        have hnag : nage L f = L[f].1 + 1 := by simp [nage, hfl]
        have hmid := HMID.out.is HMID.out.lt
        have hw32 : IntKind.u32.wrap (L[f].1 + 1) = L[f].1 + 1 := by
          rw [hnag] at hmid
          rw [IntKind.wrap_u32]; omega
        have hwi := Lib.hid (refWith3 (L := L) n (some ⟨ab, off, none⟩) c (f : Int) f rfl (by omega) (nage L f) 1 wr HR.out (by omega))
        rw [← addL_with L f (by omega)] at hwi
        have HNG := Lib.hid hnag
        rw [hnag] at hwi
        unfold RV at hwi
        have hq0 : L[f].2 = 0 := by simpa using hS2
        rw [hq0] at e2
        generalize L[f].1 = qa at *
        clear hnag hmid hS2 hq0
        go_wp2_with fail
        refine hwi.out.mono ?_
        rintro e w2 ⟨a2, c2, rfl, hr2, hfr2, hk2⟩
        unfold RV
        have hwb := HBB.out.2.lt
        have hB := HBB.out.2.quiet hk2
        have r0 := hB.cell (i := 0)
        have r1 := hB.cell (i := 1)
        have q0 := hB.free 0
        have q1 := hB.free 1
        simp only [List.getElem?_toArray, List.getElem?_cons_zero, List.getElem?_cons_succ] at r0 r1
        have hkw : Keeps (fun _ => False) w ((w2.setCell ⟨w.heap.size + 1, 0, none⟩ (.int .i64 n)).setCell ⟨w.heap.size + 1, 1, none⟩ (.slice a2 (addL L f).length c2)) := ((HK0.out.trans' hk2).setCell _ _ fun h => by first | omega | (simp at h; omega)).setCell _ _ fun h => by first | omega | (simp at h; omega)
        have hkr : Keeps (fun k => k = w.heap.size + 1) w2 ((w2.setCell ⟨w.heap.size + 1, 0, none⟩ (.int .i64 n)).setCell ⟨w.heap.size + 1, 1, none⟩ (.slice a2 (addL L f).length c2)) := ((Keeps.refl (fun k => k = w.heap.size + 1) w2).setCell ⟨w.heap.size + 1, 0, none⟩ (.int .i64 n) fun _ => rfl).setCell ⟨w.heap.size + 1, 1, none⟩ (.slice a2 (addL L f).length c2) fun _ => rfl
        have HW := Lib.hid (And.intro ((hB.set 0 (.int .i64 n)).set 1 (.slice a2 (addL L f).length c2)) (And.intro hkw (And.intro (hr2.kept hkr (fun b off e2 e3 => by have := hfr2 b off e2; omega)) (fun b off e2 => (by have := hfr2 b off e2; omega : w.heap.size ≤ b)))))
        clear hr2 hk2 hB hkw hkr hwi hfr2
        go_wp2_with fail
        generalize (w2.setCell ⟨w.heap.size + 1, 0, none⟩ (.int .i64 n)).setCell ⟨w.heap.size + 1, 1, none⟩ (.slice a2 (addL L f).length c2) = W at *
        have k0 := HW.out.1.cell (i := 0)
        have k1 := HW.out.1.cell (i := 1)
        refine bodyPost_ret (v := .tuple #[RV n a2 (addL L f).length c2, .int .i64 (f : Int), .int .u32 (qa + 1), .int .i64 0]) (by simp at k0 k1; simp [results, Tryd.results51, go_sem, k0, k1, RV]) rfl ?_
        exact ⟨.inr ⟨by omega, a2, c2, by rw [HNG.out], HW.out.2.2.1, HW.out.2.2.2⟩, HW.out.2.1⟩
      · obtain rfl : f = L.length := by omega
        by_cases hne : L.length = n
        · subst hne
          have hkw : Keeps (fun _ => False) w ((wr.setCell ⟨w.heap.size + 1, 0, none⟩ (.int .i64 L.length)).setCell ⟨w.heap.size + 1, 1, none⟩ (.slice a L.length c)) := (HK0.out.setCell _ _ fun h => by first | omega | (simp at h; omega)).setCell _ _ fun h => by first | omega | (simp at h; omega)
          have HW := Lib.hid (And.intro ((HBB.out.2.set 0 (.int .i64 L.length)).set 1 (.slice a L.length c)) hkw)
          clear hkw
          go_wp2_with fail
          generalize (wr.setCell ⟨w.heap.size + 1, 0, none⟩ (.int .i64 L.length)).setCell ⟨w.heap.size + 1, 1, none⟩ (.slice a L.length c) = W at *
          have k0 := HW.out.1.cell (i := 0)
          have k1 := HW.out.1.cell (i := 1)
          refine bodyPost_ret (v := .tuple #[RV L.length a L.length c, .int .i64 0, .int .u32 0, .int .i64 16]) (by simp at k0 k1; simp [results, Tryd.results51, go_sem, k0, k1, RV]) rfl ?_
          exact ⟨.inl ⟨rfl, rfl⟩, HW.out.2⟩
        · have hfn : ((L.length : Int) == (n : Int)) = false := by rw [beq_eq_false_iff_ne]; omega
          have hfn2 : decide (L.length = n) = false := by simp; omega
          have hnag : nage L L.length = 1 := by simp [nage]
          have hwi := Lib.hid (refWith3 (L := L) n a c (L.length : Int) L.length rfl (Nat.le_refl _) (nage L L.length) 1 wr HR.out (by omega))
          rw [← addL_with L L.length (Nat.le_refl _)] at hwi
          have HNG := Lib.hid hnag
          rw [hnag] at hwi
          unfold RV at hwi
          have HNE := Lib.hid hne
          clear hnag hne
          go_wp2_with fail
          refine hwi.out.mono ?_
          rintro e w2 ⟨a2, c2, rfl, hr2, hfr2, hk2⟩
          unfold RV
          have hwb := HBB.out.2.lt
          have hB := HBB.out.2.quiet hk2
          have r0 := hB.cell (i := 0)
          have r1 := hB.cell (i := 1)
          have q0 := hB.free 0
          have q1 := hB.free 1
          simp only [List.getElem?_toArray, List.getElem?_cons_zero, List.getElem?_cons_succ] at r0 r1
          have hkw : Keeps (fun _ => False) w ((w2.setCell ⟨w.heap.size + 1, 0, none⟩ (.int .i64 n)).setCell ⟨w.heap.size + 1, 1, none⟩ (.slice a2 (addL L L.length).length c2)) := ((HK0.out.trans' hk2).setCell _ _ fun h => by first | omega | (simp at h; omega)).setCell _ _ fun h => by first | omega | (simp at h; omega)
          have hkr : Keeps (fun k => k = w.heap.size + 1) w2 ((w2.setCell ⟨w.heap.size + 1, 0, none⟩ (.int .i64 n)).setCell ⟨w.heap.size + 1, 1, none⟩ (.slice a2 (addL L L.length).length c2)) := ((Keeps.refl (fun k => k = w.heap.size + 1) w2).setCell ⟨w.heap.size + 1, 0, none⟩ (.int .i64 n) fun _ => rfl).setCell ⟨w.heap.size + 1, 1, none⟩ (.slice a2 (addL L L.length).length c2) fun _ => rfl
          have HW := Lib.hid (And.intro ((hB.set 0 (.int .i64 n)).set 1 (.slice a2 (addL L L.length).length c2)) (And.intro hkw (And.intro (hr2.kept hkr (fun b off e2 e3 => by have := hfr2 b off e2; omega)) (fun b off e2 => (by have := hfr2 b off e2; omega : w.heap.size ≤ b)))))
          clear hr2 hk2 hB hkw hkr hwi hfr2
          go_wp2_with fail
          generalize (w2.setCell ⟨w.heap.size + 1, 0, none⟩ (.int .i64 n)).setCell ⟨w.heap.size + 1, 1, none⟩ (.slice a2 (addL L L.length).length c2) = W at *
          have k0 := HW.out.1.cell (i := 0)
          have k1 := HW.out.1.cell (i := 1)
          refine bodyPost_ret (v := .tuple #[RV n a2 (addL L L.length).length c2, .int .i64 (L.length : Int), .int .u32 1, .int .i64 0]) (by simp at k0 k1; simp [results, Tryd.results51, go_sem, k0, k1, RV]) rfl ?_
          exact ⟨.inr ⟨HNE.out, a2, c2, by rw [HNG.out], HW.out.2.2.1, HW.out.2.2.2⟩, HW.out.2.1⟩

def RDropPost (n : Nat) (a : Option Addr) (c : Nat) (L : List (Int × Int)) (age : Int) (y : Nat) (w : World) (e : Ending) (w' : World) : Prop :=
  (findErr n L age y ≠ 0 ∧ e = .returned (.tuple #[RV n a L.length c, .int .i64 (findErr n L age y : Nat)]) ∨
    findErr n L age y = 0 ∧ ∃ a' c', e = .returned (.tuple #[RV n a' (dropL n L age y).length c', .int .i64 0]) ∧ Rd w' a' (plVals (dropL n L age y)) ∧ ∀ b off, a' = some ⟨b, off, none⟩ → w.heap.size ≤ b) ∧ Keeps (fun _ => False) w w'
set_option maxHeartbeats 2000000 in
theorem refDrop3 (n : Nat) (a : Option Addr) (c : Nat) (age : Int) (y : Nat) (hy : y ≤ 4294967295) (w : World) (hr : Rd w a (plVals L)) (hle : L.length ≤ n) (hn : n ≤ 1048576) :
    Calls Tryd.prog 49 #[RV n a L.length c, .int .u32 age, .int .u32 y] w (RDropPost n a c L age y w) := by
  have HK0 : Hid (Keeps (fun _ => False) w ((w.alloc (.cells #[.int .i64 n, .slice a L.length c] 75)).alloc (.cells #[.int .i64 0, .slice none 0 0] 75))) := ((Keeps.refl _ _).alloc _).alloc _
  have hB0 : Blk ((w.alloc (.cells #[.int .i64 n, .slice a L.length c] 75)).alloc (.cells #[.int .i64 0, .slice none 0 0] 75)) w.heap.size #[.int .i64 n, .slice a L.length c] 75 := (Blk.new w _ _).alloc _
  have hB1 : Blk ((w.alloc (.cells #[.int .i64 n, .slice a L.length c] 75)).alloc (.cells #[.int .i64 0, .slice none 0 0] 75)) (w.heap.size + 1) #[.int .i64 0, .slice none 0 0] 75 := by
    have := Blk.new (w.alloc (.cells #[.int .i64 n, .slice a L.length c] 75)) #[.int .i64 0, .slice none 0 0] 75
    simpa using this
  have HR := Lib.hid (hr.keep HK0.out)
  have HBB := Lib.hid (And.intro hB0 hB1)
  have hfi := Lib.hid (refFind3 (L := L) n a c age y hy _ (hr.keep HK0.out) hle hn)
  clear hB0 hB1 hr
  unfold RV at *
  go_enter Tryd.func49, Tryd.ntmps49
  go_wp2_with fail
  refine hfi.out.mono ?_
  rintro e w1 ⟨rfl, hk1⟩
  generalize (w.alloc (.cells #[.int .i64 n, .slice a L.length c] 75)).alloc (.cells #[.int .i64 0, .slice none 0 0] 75) = w0 at *
  have HKF := Lib.hid hk1
  have hB0 := HBB.out.1.quiet hk1
  have hB1 := HBB.out.2.quiet hk1
  have b0 := hB0.cell (i := 0)
  have b1 := hB0.cell (i := 1)
  have r0 := hB1.cell (i := 0)
  have r1 := hB1.cell (i := 1)
  have q0 := hB1.free 0
  have q1 := hB1.free 1
  simp only [List.getElem?_toArray, List.getElem?_cons_zero, List.getElem?_cons_succ] at b0 b1 r0 r1
  have HB1 := Lib.hid hB1
  clear hk1 hfi hB0 hB1
  by_cases he : findErr n L age y = 0
  · have HE0 := Lib.hid he
    obtain ⟨hyl, hq⟩ := find_zero he
    rw [he]
    have hdw : ∀ s, (s = if age = 4294967295 then 2 else 0) → dropL n L age y = withL L y (age, s) := fun s hs => by
      unfold dropL withL
      rw [if_pos HE0.out, if_neg (show ¬ y = L.length by omega), hs]
    clear he hq
    by_cases hmax : age = 4294967295
    · have hwi := Lib.hid (refWith3 (L := L) n a c (y : Int) y rfl (by omega) age 2 w1 (HR.out.keep HKF.out) (by omega))
      rw [← hdw 2 (by rw [if_pos hmax])] at hwi
      unfold RV at hwi
      have hmb : (age == 4294967295) = true := by rw [beq_iff_eq]; exact hmax
      have hmd : decide (age = 4294967295) = true := by simp [hmax]
      clear hdw hmax
      go_wp2_with fail
      refine hwi.out.mono ?_
      rintro e w2 ⟨a2, c2, rfl, hr2, hfr2, hk2⟩
      unfold RV
      have hwb := HBB.out.2.lt
      have hwf := HKF.out.size
      have hB := HBB.out.2.quiet (HKF.out.trans' hk2)
      have r0 := hB.cell (i := 0)
      have r1 := hB.cell (i := 1)
      have q0 := hB.free 0
      have q1 := hB.free 1
      simp only [List.getElem?_toArray, List.getElem?_cons_zero, List.getElem?_cons_succ] at r0 r1
      have hkw : Keeps (fun _ => False) w ((w2.setCell ⟨w.heap.size + 1, 0, none⟩ (.int .i64 n)).setCell ⟨w.heap.size + 1, 1, none⟩ (.slice a2 (dropL n L age y).length c2)) := (((HK0.out.trans' HKF.out).trans' hk2).setCell _ _ fun h => by first | omega | (simp at h; omega)).setCell _ _ fun h => by first | omega | (simp at h; omega)
      have hkr : Keeps (fun k => k = w.heap.size + 1) w2 ((w2.setCell ⟨w.heap.size + 1, 0, none⟩ (.int .i64 n)).setCell ⟨w.heap.size + 1, 1, none⟩ (.slice a2 (dropL n L age y).length c2)) := ((Keeps.refl (fun k => k = w.heap.size + 1) w2).setCell ⟨w.heap.size + 1, 0, none⟩ (.int .i64 n) fun _ => rfl).setCell ⟨w.heap.size + 1, 1, none⟩ (.slice a2 (dropL n L age y).length c2) fun _ => rfl
      have HW := Lib.hid (And.intro ((hB.set 0 (.int .i64 n)).set 1 (.slice a2 (dropL n L age y).length c2)) (And.intro hkw (And.intro (hr2.kept hkr (fun b off e2 e3 => by have := hfr2 b off e2; omega)) (fun b off e2 => (by have := hfr2 b off e2; omega : w.heap.size ≤ b)))))
      clear hr2 hk2 hB hkw hkr hwi hfr2
      go_wp2_with fail
      generalize (w2.setCell ⟨w.heap.size + 1, 0, none⟩ (.int .i64 n)).setCell ⟨w.heap.size + 1, 1, none⟩ (.slice a2 (dropL n L age y).length c2) = W at *
      have k0 := HW.out.1.cell (i := 0)
      have k1 := HW.out.1.cell (i := 1)
      refine bodyPost_ret (v := .tuple #[RV n a2 (dropL n L age y).length c2, .int .i64 0]) (by simp at k0 k1; simp [results, Tryd.results49, go_sem, k0, k1, RV]) rfl ?_
      exact ⟨.inr ⟨HE0.out, a2, c2, rfl, HW.out.2.2.1, HW.out.2.2.2⟩, HW.out.2.1⟩
    · have hwi := Lib.hid (refWith3 (L := L) n a c (y : Int) y rfl (by omega) age 0 w1 (HR.out.keep HKF.out) (by omega))
      rw [← hdw 0 (by rw [if_neg hmax])] at hwi
      unfold RV at hwi
      have hmb : (age == 4294967295) = false := by rw [beq_eq_false_iff_ne]; exact hmax
      have hmd : decide (age = 4294967295) = false := by simp [hmax]
      clear hdw
      go_wp2_with fail
      refine hwi.out.mono ?_
      rintro e w2 ⟨a2, c2, rfl, hr2, hfr2, hk2⟩
      unfold RV
      have hwb := HBB.out.2.lt
      have hwf := HKF.out.size
      have hB := HBB.out.2.quiet (HKF.out.trans' hk2)
      have r0 := hB.cell (i := 0)
      have r1 := hB.cell (i := 1)
      have q0 := hB.free 0
      have q1 := hB.free 1
      simp only [List.getElem?_toArray, List.getElem?_cons_zero, List.getElem?_cons_succ] at r0 r1
      have hkw : Keeps (fun _ => False) w ((w2.setCell ⟨w.heap.size + 1, 0, none⟩ (.int .i64 n)).setCell ⟨w.heap.size + 1, 1, none⟩ (.slice a2 (dropL n L age y).length c2)) := (((HK0.out.trans' HKF.out).trans' hk2).setCell _ _ fun h => by first | omega | (simp at h; omega)).setCell _ _ fun h => by first | omega | (simp at h; omega)
      have hkr : Keeps (fun k => k = w.heap.size + 1) w2 ((w2.setCell ⟨w.heap.size + 1, 0, none⟩ (.int .i64 n)).setCell ⟨w.heap.size + 1, 1, none⟩ (.slice a2 (dropL n L age y).length c2)) := ((Keeps.refl (fun k => k = w.heap.size + 1) w2).setCell ⟨w.heap.size + 1, 0, none⟩ (.int .i64 n) fun _ => rfl).setCell ⟨w.heap.size + 1, 1, none⟩ (.slice a2 (dropL n L age y).length c2) fun _ => rfl
      have HW := Lib.hid (And.intro ((hB.set 0 (.int .i64 n)).set 1 (.slice a2 (dropL n L age y).length c2)) (And.intro hkw (And.intro (hr2.kept hkr (fun b off e2 e3 => by have := hfr2 b off e2; omega)) (fun b off e2 => (by have := hfr2 b off e2; omega : w.heap.size ≤ b)))))
      clear hr2 hk2 hB hkw hkr hwi hfr2
      go_wp2_with fail
      generalize (w2.setCell ⟨w.heap.size + 1, 0, none⟩ (.int .i64 n)).setCell ⟨w.heap.size + 1, 1, none⟩ (.slice a2 (dropL n L age y).length c2) = W at *
      have k0 := HW.out.1.cell (i := 0)
      have k1 := HW.out.1.cell (i := 1)
      refine bodyPost_ret (v := .tuple #[RV n a2 (dropL n L age y).length c2, .int .i64 0]) (by simp at k0 k1; simp [results, Tryd.results49, go_sem, k0, k1, RV]) rfl ?_
      exact ⟨.inr ⟨HE0.out, a2, c2, rfl, HW.out.2.2.1, HW.out.2.2.2⟩, HW.out.2.1⟩
  · obtain ⟨k, hk⟩ : ∃ k, findErr n L age y = k := ⟨_, rfl⟩
    have HE1 := Lib.hid (And.intro he hk)
    rw [hk] at he ⊢
    have hkb : ((k : Int) == 0) = false := by rw [beq_eq_false_iff_ne]; omega
    have hkn : ((k : Int) != 0) = true := by rw [bne_iff_ne]; omega
    have hwb := HBB.out.2.lt
    have hkw : Keeps (fun _ => False) w ((w1.setCell ⟨w.heap.size + 1, 0, none⟩ (.int .i64 n)).setCell ⟨w.heap.size + 1, 1, none⟩ (.slice a L.length c)) := ((HK0.out.trans' HKF.out).setCell _ _ fun h => by first | omega | (simp at h; omega)).setCell _ _ fun h => by first | omega | (simp at h; omega)
    have HW := Lib.hid (And.intro ((HB1.out.set 0 (.int .i64 n)).set 1 (.slice a L.length c)) hkw)
    clear hkw hk
    go_wp2_with fail
    generalize (w1.setCell ⟨w.heap.size + 1, 0, none⟩ (.int .i64 n)).setCell ⟨w.heap.size + 1, 1, none⟩ (.slice a L.length c) = W at *
    have k0 := HW.out.1.cell (i := 0)
    have k1 := HW.out.1.cell (i := 1)
    refine bodyPost_ret (v := .tuple #[RV n a L.length c, .int .i64 k]) (by simp at k0 k1; simp [results, Tryd.results49, go_sem, k0, k1, RV]) rfl ?_
    exact ⟨.inl ⟨HE1.out.1, by rw [HE1.out.2]⟩, HW.out.2⟩
end
end Go.Proofs.YtiphdlhnoceeiaaDoor
