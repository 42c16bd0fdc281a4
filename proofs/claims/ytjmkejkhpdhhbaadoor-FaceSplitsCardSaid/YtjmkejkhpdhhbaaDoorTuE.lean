/- turn: take. -/
import Derived.Test.YtjmkejkhpdhhbaaDoorTuD
namespace Go.Proofs.YtjmkejkhpdhhbaaDoor
open Go Go.RowKit
set_option linter.unusedVariables false
set_option linter.unusedSimpArgs false
set_option maxRecDepth 100000

section
variable {w : World} {own : Nat → Prop} {p E : Nat} {L : List (List Nat)}
set_option maxHeartbeats 2000000 in
theorem ttake (h : Tu w own p E L) {v k : Nat} {l : List Nat} (hv : L[v]? = some l) (hk : k < l.length) :
    Calls Tryd.prog 62 #[tptr p, .int .i32 (l.getD k 0 : Nat)] w (TPost own p E (remL L (l.getD k 0)) (.tuple #[]) w) := by
  have hV := h.v2
  have hV1 := h.v1
  have hE := h.e2
  have hE1 := h.e1
  obtain ⟨⟨g1, g2, g3, D, ls, mn, hx, rfl, hr⟩, _⟩ := h
  have hvl := (List.getElem?_eq_some_iff.1 hv).1
  have hqd := hr.cyc v l hv k hk
  obtain ⟨qn, hqn⟩ : ∃ q, D[l.getD (sc l.length k) 0]? = some q := ⟨_, hr.cyc v l hv _ (sc_lt hk)⟩
  obtain ⟨qp, hqp⟩ : ∃ q, D[l.getD (pc l.length k) 0]? = some q := ⟨_, hr.cyc v l hv _ (pc_lt hk)⟩
  have HR := Lib.hid (fun ls' => hr.take hv hk ls')
  have hg1 := hx.b1.lt
  have hg2 := hx.b2.lt
  have hg3 := hx.b3.lt
  have hmn := hr.many v l hv
  have hll := hr.len hv
  have hl0 : 0 < l.length := by omega
  have hds : l.getD k 0 < 2 * E := hr.wf.bd hv (getD_mem hk)
  have hns : l.getD (sc l.length k) 0 < 2 * E := hr.wf.bd hv (getD_mem (sc_lt hk))
  have hps : l.getD (pc l.length k) 0 < 2 * E := hr.wf.bd hv (getD_mem (pc_lt hk))
  obtain ⟨y, hy, hls⟩ := hr.least1 v l hv (by rintro rfl; simp at hl0)
  have hys : y < 2 * E := hr.wf.bd hv hy
  have hV2 : (remL L (l.getD k 0)).length = L.length := remL_length _ _
  have hx0 := Lib.hid hx
  obtain ⟨d0, d1, d2⟩ := hx.dart hqd
  simp only at d0 d1 d2
  have c0 := hx.c0
  unfold TPost tptr
  clear hr hx hy
  generalize remL L (l.getD k 0) = L2 at *
  generalize hnx : l.getD (sc l.length k) 0 = nx at *
  generalize hpv : l.getD (pc l.length k) 0 = pv at *
  generalize hdd : l.getD k 0 = d at *
  generalize hlen : l.length = n at *
  clear hnx hpv hdd hlen hv hk
  have hdE : (d : Int) < 2 * (E : Int) := by omega
  have hnE : (nx : Int) < 2 * (E : Int) := by omega
  have hpE : (pv : Int) < 2 * (E : Int) := by omega
  have hHB : Hid (Blk (w.alloc (.cells #[.int .i32 (v : Int), .int .i32 (nx : Int), .int .i32 (pv : Int)] 92)) w.heap.size #[.int .i32 (v : Int), .int .i32 (nx : Int), .int .i32 (pv : Int)] 92) := Blk.new w _ _
  have hK0 := Lib.hid ((Keeps.refl (TX.own p g1 g2 g3) w).alloc (.cells #[.int .i32 (v : Int), .int .i32 (nx : Int), .int .i32 (pv : Int)] 92))
  have hx1 := hx0.out.keep ((Keeps.refl _ w).alloc (.cells #[.int .i32 (v : Int), .int .i32 (nx : Int), .int .i32 (pv : Int)] 92))
  go_enter Tryd.func62, Tryd.ntmps62
  go_upto_region 1 with fail
  clear d0 d1 d2 c0
  generalize w.alloc (.cells #[.int .i32 (v : Int), .int .i32 (nx : Int), .int .i32 (pv : Int)] 92) = w1 at *
  as_aux_lemma =>
  have x0 := hHB.out.cell (i := 0)
  have x1 := hHB.out.cell (i := 1)
  have x2 := hHB.out.cell (i := 2)
  simp only [List.getElem?_toArray, List.getElem?_cons_zero, List.getElem?_cons_succ] at x0 x1 x2
  have c0 := hx1.c0
  obtain ⟨n0, n1, n2⟩ := hx1.dart hqn
  obtain ⟨p0, p1, p2⟩ := hx1.dart hqp
  have f1 := hx1.f1 (pv * 3 + 1)
  have f2 := hx1.f1 (nx * 3 + 2)
  have hne1 : pv * 3 + 1 ≠ nx * 3 + 2 := by omega
  have hne2 : nx * 3 + 2 ≠ pv * 3 + 1 := by omega
  go_region
  have hx2 := ((hx1.setN pv nx).setP nx pv).drew
  have hK2 := Lib.hid (((hK0.out.setIn g1 (pv * 3 + 1) (.int .i32 nx) (.inr (.inl rfl))).setIn g1 (nx * 3 + 2) (.int .i32 pv) (.inr (.inl rfl))).drew)
  have hB2 := Lib.hid (((hHB.out.set_other ⟨g1, pv * 3 + 1, none⟩ (.int .i32 nx) (Nat.ne_of_gt hg1)).set_other ⟨g1, nx * 3 + 2, none⟩ (.int .i32 pv) (Nat.ne_of_gt hg1)).drew)
  clear x0 x1 x2 c0 n0 n1 n2 p0 p1 p2 f1 f2 hx1 hHB hK0
  generalize ((w1.setCell ⟨g1, pv * 3 + 1, none⟩ (.int .i32 nx)).setCell ⟨g1, nx * 3 + 2, none⟩ (.int .i32 pv)).drew = w2 at *
  as_aux_lemma =>
  have x0 := hB2.out.cell (i := 0)
  simp only [List.getElem?_toArray, List.getElem?_cons_zero, List.getElem?_cons_succ] at x0
  have c2 := hx2.c2
  have m0 := hx2.mny hmn
  have mf := hx2.f3 v
  go_wp2_with fail
  go_region
  have hx3 := (hx2.setM v ((n : Int) - 1)).drew
  have hK3 := Lib.hid ((hK2.out.setIn g3 v (.int .i32 ((n : Int) - 1)) (.inr (.inr (.inr rfl)))).drew)
  have hB3 := Lib.hid ((hB2.out.set_other ⟨g3, v, none⟩ (.int .i32 ((n : Int) - 1)) (Nat.ne_of_gt hg3)).drew)
  clear x0 c2 m0 mf hx2 hB2 hK2
  generalize (w2.setCell ⟨g3, v, none⟩ (.int .i32 ((n : Int) - 1))).drew = w3 at *
  as_aux_lemma =>
  have x0 := hB3.out.cell (i := 0)
  have x1 := hB3.out.cell (i := 1)
  simp only [List.getElem?_toArray, List.getElem?_cons_zero, List.getElem?_cons_succ] at x0 x1
  have c0 := hx3.c0
  have c1 := hx3.c1
  have c2 := hx3.c2
  have m0 := hx3.mny (v := v) (x := (n : Int) - 1) (by rw [List.getElem?_set, if_pos rfl, if_pos (List.getElem?_eq_some_iff.1 hmn).1])
  have l0 := hx3.lst hls
  have lf := hx3.f2 v
  obtain ⟨qq, hqq⟩ : ∃ q, (setP (setN D pv nx) nx pv)[d]? = some q := ⟨_, List.getElem?_eq_getElem (by rw [setP_length, setN_length]; exact (List.getElem?_eq_some_iff.1 hqd).1)⟩
  have hcs : n = 1 ∨ (n ≠ 1 ∧ y = d) ∨ (n ≠ 1 ∧ y ≠ d) := by omega
  rcases hcs with hn | ⟨hn, hyd⟩ | ⟨hn, hyd⟩
  · as_aux_lemma =>
    have hn1 : ((n : Int) - 1 == 0) = true := by rw [hn]; rfl
    go_wp2_with fail
    go_quiet (fail)
    go_wp2_with fail
    go_region
    generalize hz2 : World.setCell _ ⟨g2, v, none⟩ (.int .i32 (-1)) = w4
    have hx4 : TX w4 p g1 g2 g3 E L.length (setP (setN D pv nx) nx pv) (ls.set v (-1)) (mn.set v ((n : Int) - 1)) := by rw [← hz2]; exact (hx3.drewN _).setL v (-1)
    have hK4 : Hid (Keeps (TX.own p g1 g2 g3) w w4) := by rw [← hz2]; exact (hK3.out.drewN _).setIn g2 v _ (.inr (.inr (.inl rfl)))
    clear x0 x1 c0 c1 c2 m0 l0 lf hx3 hB3 hK3 hz2
    obtain ⟨o0, _, _⟩ := hx4.dart hqq
    have f0 := hx4.f1 (d * 3)
    have c0 := hx4.c0
    have hx5 := Lib.hid (hx4.setO d (-1))
    have hK5 := Lib.hid (hK4.out.setIn g1 (d * 3) (.int .i32 (-1)) (.inr (.inl rfl)))
    go_wp2_with fail
    go_end0
    have hnc : ((n : Int) - 1) = ((n - 1 : Nat) : Int) := by omega
    rw [hnc] at hx5
    exact ⟨rfl, ⟨⟨g1, g2, g3, _, _, _, by rw [hV2]; exact hx5.out, rfl, HR.out _ (fun _ => rfl) (fun e => absurd hn e)⟩, hE1, hE, by rw [hV2]; exact hV1, by rw [hV2]; exact hV⟩, hK5.out⟩
  · as_aux_lemma =>
    have hn1 : ((n : Int) - 1 == 0) = false := by rw [beq_eq_false_iff_ne]; omega
    have hyd1 : ((y : Int) == (d : Int)) = true := by rw [hyd]; simp
    go_wp2_with fail
    go_quiet (fail)
    go_wp2_with fail
    go_quiet (fail)
    go_wp2_with fail
    go_region
    generalize hz2 : World.setCell _ ⟨g2, v, none⟩ (.int .i32 (nx : Int)) = w4
    have hx4 : TX w4 p g1 g2 g3 E L.length (setP (setN D pv nx) nx pv) (ls.set v (nx : Int)) (mn.set v ((n : Int) - 1)) := by rw [← hz2]; exact (hx3.drewN _).setL v (nx : Int)
    have hK4 : Hid (Keeps (TX.own p g1 g2 g3) w w4) := by rw [← hz2]; exact (hK3.out.drewN _).setIn g2 v _ (.inr (.inr (.inl rfl)))
    clear x0 x1 c0 c1 c2 m0 l0 lf hx3 hB3 hK3 hz2
    obtain ⟨o0, _, _⟩ := hx4.dart hqq
    have f0 := hx4.f1 (d * 3)
    have c0 := hx4.c0
    have hx5 := Lib.hid (hx4.setO d (-1))
    have hK5 := Lib.hid (hK4.out.setIn g1 (d * 3) (.int .i32 (-1)) (.inr (.inl rfl)))
    go_wp2_with fail
    go_end0
    have hnc : ((n : Int) - 1) = ((n - 1 : Nat) : Int) := by omega
    rw [hnc] at hx5
    exact ⟨rfl, ⟨⟨g1, g2, g3, _, _, _, by rw [hV2]; exact hx5.out, rfl, HR.out _ (fun e => absurd e hn) (fun _ => ⟨fun _ => rfl, fun e => absurd (by rw [hls, hyd]) e⟩)⟩, hE1, hE, by rw [hV2]; exact hV1, by rw [hV2]; exact hV⟩, hK5.out⟩
  · as_aux_lemma =>
    have hn1 : ((n : Int) - 1 == 0) = false := by rw [beq_eq_false_iff_ne]; omega
    have hyd1 : ((y : Int) == (d : Int)) = false := by rw [beq_eq_false_iff_ne]; omega
    obtain ⟨o0, _, _⟩ := hx3.dart hqq
    have f0 := hx3.f1 (d * 3)
    have HX3 := Lib.hid hx3
    go_wp2_with fail
    go_quiet (fail)
    go_wp2_with fail
    go_quiet (fail)
    go_wp2_with fail
    go_end0
    have hnc : ((n : Int) - 1) = ((n - 1 : Nat) : Int) := by omega
    refine ⟨rfl, ⟨⟨g1, g2, g3, _, ls, _, ?_, rfl, HR.out _ (fun e => absurd e hn) (fun _ => ⟨fun e => absurd (Option.some.inj (hls.symm.trans e)) (by omega), fun _ => rfl⟩)⟩, hE1, hE, by rw [hV2]; exact hV1, by rw [hV2]; exact hV⟩, ?_⟩
    · rw [hV2, ← hnc]; exact (HX3.out.drewN _).setO d (-1)
    · exact (hK3.out.drewN _).setIn g1 (d * 3) _ (.inr (.inl rfl))
end
end Go.Proofs.YtjmkejkhpdhhbaaDoor
