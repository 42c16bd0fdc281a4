/- turn: put. turn: take. turn: Lay, Lift. turn: Round. turn: New. -/
import Derived.Deep.LoopGhost
import Derived.Laws.OwnMore
import Derived.Test.YtdplphhlclhmfaaDoorKb
namespace Go.Proofs.YtdplphhlclhmfaaDoor
open Go Go.RowKit
set_option linter.unusedVariables false
set_option linter.unusedSimpArgs false
set_option maxRecDepth 100000

theorem TX.drew {w : World} {p g1 g2 g3 E V : Nat} {D : List Dart} {ls mn : List Int} (h : TX w p g1 g2 g3 E V D ls mn) : TX w.drew p g1 g2 g3 E V D ls mn := h.keep ((Keeps.refl _ _).drew)
theorem TX.drewN {w : World} {p g1 g2 g3 E V : Nat} {D : List Dart} {ls mn : List Int} (h : TX w p g1 g2 g3 E V D ls mn) (n : Nat) : TX (w.drewN n) p g1 g2 g3 E V D ls mn := h.keep ((Keeps.refl _ _).drewN n)
theorem Rel.len {E : Nat} {L : List (List Nat)} {D : List Dart} {ls mn : List Int} (hr : Rel E L D ls mn) {n : Nat} {l : List Nat} (hl : L[n]? = some l) : l.length ≤ 2 * E := by
  have h1 : l.length ≤ (List.range (2 * E)).length := List.Nodup.length_le_of_subset (hr.wf.nd hl) (fun x hx => List.mem_range.2 (hr.wf.bd hl hx))
  simpa using h1
section
variable {w : World} {own : Nat → Prop} {p E : Nat} {L : List (List Nat)}
def TPost (own : Nat → Prop) (p E : Nat) (L : List (List Nat)) (v : Value) (w : World) (e : Ending) (w' : World) : Prop := e = .returned v ∧ Tu w' own p E L ∧ Keeps own w w'

set_option maxHeartbeats 1000000 in
theorem tput0 (h : Tu w own p E L) {d v : Nat} (hd : d < 2 * E) (hn : ¬ Stands L d) (hv : L[v]? = some []) :
    Calls Tryd.prog 54 #[tptr p, .int .i32 d, cval v (-1)] w (TPost own p E (putL L d v (-1)) (.tuple #[]) w) := by
  have hV := h.v2
  have hV1 := h.v1
  have hE := h.e2
  have hE1 := h.e1
  obtain ⟨⟨g1, g2, g3, D, ls, mn, hx, rfl, hr⟩, _⟩ := h
  have hvl := (List.getElem?_eq_some_iff.1 hv).1
  have hdd : d < D.length := by rw [hr.dl]; exact hd
  obtain ⟨q, hq⟩ : ∃ q, D[d]? = some q := ⟨_, List.getElem?_eq_getElem hdd⟩
  have HR := Lib.hid (hr.put0 hd hn hv (-1))
  have hx0 := hx.keep ((Keeps.refl _ w).alloc (.cells #[.int .i64 (v : Int), .int .i64 (-1)] 51))
  have HK0 := Lib.hid (((Keeps.refl (TX.own p g1 g2 g3) w).alloc (.cells #[.int .i64 (v : Int), .int .i64 (-1)] 51)))
  have HB : Hid (Blk (w.alloc (.cells #[.int .i64 (v : Int), .int .i64 (-1)] 51)) w.heap.size #[.int .i64 (v : Int), .int .i64 (-1)] 51) := Blk.new w _ _
  have hws : w.heap.size < (w.alloc (.cells #[.int .i64 (v : Int), .int .i64 (-1)] 51)).heap.size := by simp
  have hg1 := hx.b1.lt
  have hg2 := hx.b2.lt
  have hg3 := hx.b3.lt
  have hls := hr.least0 v hv
  have hmn := hr.many v [] hv
  unfold TPost tptr cval
  clear hr hx hn hv
  go_enter Tryd.func54, Tryd.ntmps54
  go_upto_region 1 with fail
  generalize w.alloc (.cells #[.int .i64 (v : Int), .int .i64 (-1)] 51) = w1 at *
  have k0 := HB.out.cell (i := 0)
  have k1 := HB.out.cell (i := 1)
  simp only [List.getElem?_toArray, List.getElem?_cons_zero, List.getElem?_cons_succ] at k0 k1
  have c0 := hx0.c0
  have c1 := hx0.c1
  have c2 := hx0.c2
  have l0 := hx0.lst hls
  have m0 := hx0.mny hmn
  have mf := hx0.f3 v
  go_wp2_with fail
  go_quiet (fail)
  go_wp2_with fail
  go_region
  have hx2 := (hx0.drewN (nq + 1)).setM v 1
  have HK2 := Lib.hid ((HK0.out.drewN (nq + 1)).setIn g3 v (.int .i32 1) (.inr (.inr (.inr rfl))))
  have HB2 := Lib.hid ((HB.out.drewN (nq + 1)).set_other ⟨g3, v, none⟩ (.int .i32 1) (Nat.ne_of_gt hg3))
  clear k0 k1 c0 c1 c2 l0 m0 mf hx0 HB HK0
  generalize (w1.drewN (nq + 1)).setCell ⟨g3, v, none⟩ (.int .i32 1) = w2 at *
  have k0 := HB2.out.cell (i := 0)
  simp only [List.getElem?_toArray, List.getElem?_cons_zero, List.getElem?_cons_succ] at k0
  have c0 := hx2.c0
  have c1 := hx2.c1
  obtain ⟨q0, q1, q2⟩ := hx2.dart hq
  have f0 := hx2.f1 (d * 3)
  have f1 := hx2.f1 (d * 3 + 1)
  have f2 := hx2.f1 (d * 3 + 2)
  have hdE : (d : Int) < 2 * (E : Int) := by omega
  go_wp2_with fail
  go_region
  have hx3 := (hx2.set3 d v d d).drew
  have HK3 := Lib.hid ((((HK2.out.setIn g1 (d * 3) (.int .i32 v) (.inr (.inl rfl))).setIn g1 (d * 3 + 1) (.int .i32 d) (.inr (.inl rfl))).setIn g1 (d * 3 + 2) (.int .i32 d) (.inr (.inl rfl))).drew)
  have HB3 := Lib.hid ((((HB2.out.set_other ⟨g1, d * 3, none⟩ (.int .i32 v) (Nat.ne_of_gt hg1)).set_other ⟨g1, d * 3 + 1, none⟩ (.int .i32 d) (Nat.ne_of_gt hg1)).set_other ⟨g1, d * 3 + 2, none⟩ (.int .i32 d) (Nat.ne_of_gt hg1)).drew)
  clear k0 c0 c1 q0 q1 q2 f0 f1 f2 hx2 HB2 HK2
  generalize (((w2.setCell ⟨g1, d * 3, none⟩ (.int .i32 v)).setCell ⟨g1, d * 3 + 1, none⟩ (.int .i32 d)).setCell ⟨g1, d * 3 + 2, none⟩ (.int .i32 d)).drew = w3 at *
  have k0 := HB3.out.cell (i := 0)
  simp only [List.getElem?_toArray, List.getElem?_cons_zero, List.getElem?_cons_succ] at k0
  have c1 := hx3.c1
  have l0 := hx3.lst hls
  have lf := hx3.f2 v
  go_wp2_with fail
  go_region
  have hx4 := Lib.hid ((hx3.setL v d).drew)
  have HK4 := Lib.hid ((HK3.out.setIn g2 v (.int .i32 d) (.inr (.inr (.inl rfl)))).drew)
  clear k0 c1 l0 lf hx3 HB3 HK3
  go_wp2_with fail
  refine bodyPost_ret (results_none rfl _ _ _) rfl ?_
  exact ⟨rfl, ⟨⟨g1, g2, g3, _, _, _, by rw [putL_length]; exact hx4.out, rfl, HR.out⟩, hE1, hE, by rw [putL_length]; exact hV1, by rw [putL_length]; exact hV⟩, HK4.out⟩

set_option maxHeartbeats 2000000 in
theorem tput1 (h : Tu w own p E L) {d v k : Nat} {l : List Nat} (b : Int) (hd : d < 2 * E) (hn : ¬ Stands L d) (hv : L[v]? = some l) (hk : k < l.length) (hb : b = (l.getD k 0 : Nat) ∨ b = -1 ∧ k = 0 ∧ l.length = 1) :
    Calls Tryd.prog 54 #[tptr p, .int .i32 d, cval v b] w (TPost own p E (putL L d v (l.getD k 0 : Nat)) (.tuple #[]) w) := by
  have hV := h.v2
  have hV1 := h.v1
  have hE := h.e2
  have hE1 := h.e1
  obtain ⟨⟨g1, g2, g3, D, ls, mn, hx, rfl, hr⟩, _⟩ := h
  have hvl := (List.getElem?_eq_some_iff.1 hv).1
  have hdd : d < D.length := by rw [hr.dl]; exact hd
  obtain ⟨q, hq⟩ : ∃ q, D[d]? = some q := ⟨_, List.getElem?_eq_getElem hdd⟩
  have hqb := hr.cyc v l hv k hk
  have hqn := hr.cyc v l hv _ (sc_lt hk)
  have HR := Lib.hid (hr.put1 hd hn hv hk)
  have hx0 := hx.keep ((Keeps.refl _ w).alloc (.cells #[.int .i64 (v : Int), .int .i64 b] 51))
  have HK0 := Lib.hid (((Keeps.refl (TX.own p g1 g2 g3) w).alloc (.cells #[.int .i64 (v : Int), .int .i64 b] 51)))
  have HB : Hid (Blk (w.alloc (.cells #[.int .i64 (v : Int), .int .i64 b] 51)) w.heap.size #[.int .i64 (v : Int), .int .i64 b] 51) := Blk.new w _ _
  have hws : w.heap.size < (w.alloc (.cells #[.int .i64 (v : Int), .int .i64 b] 51)).heap.size := by simp
  have hg1 := hx.b1.lt
  have hg2 := hx.b2.lt
  have hg3 := hx.b3.lt
  have hmn := hr.many v l hv
  have hll := hr.len hv
  have hbs : l.getD k 0 < 2 * E := hr.wf.bd hv (getD_mem hk)
  have hns : l.getD (sc l.length k) 0 < 2 * E := hr.wf.bd hv (getD_mem (sc_lt hk))
  have hbd : l.getD k 0 ≠ d := fun e => hn (stands_at hv (e ▸ getD_mem hk))
  have hnd : l.getD (sc l.length k) 0 ≠ d := fun e => hn (stands_at hv (e ▸ getD_mem (sc_lt hk)))
  have hls : b = -1 → ls[v]? = some ((l.getD k 0 : Nat) : Int) := by
    intro e
    rcases hb with hb | ⟨_, rfl, hl1⟩
    · omega
    · obtain ⟨x, hx, hx2⟩ := hr.least1 v l hv (by rintro rfl; simp at hl1)
      rw [hx2]
      match l, hl1 with
      | [y], _ => simp at hx; subst hx; rfl
  have hqb2 : D.set d ((v : Int), ((l.getD (sc l.length k) 0 : Nat) : Int), ((l.getD k 0 : Nat) : Int)) = D.set d ((v : Int), ((l.getD (sc l.length k) 0 : Nat) : Int), ((l.getD k 0 : Nat) : Int)) := rfl
  have hqb3 : (D.set d ((v : Int), ((l.getD (sc l.length k) 0 : Nat) : Int), ((l.getD k 0 : Nat) : Int)))[l.getD k 0]? = some ((v : Int), ((l.getD (sc l.length k) 0 : Nat) : Int), ((l.getD (pc l.length k) 0 : Nat) : Int)) := by
    rw [set_get hdd, if_neg hbd]; exact hqb
  obtain ⟨qn, hqn3⟩ : ∃ q, (D.set d ((v : Int), ((l.getD (sc l.length k) 0 : Nat) : Int), ((l.getD k 0 : Nat) : Int)))[l.getD (sc l.length k) 0]? = some q := ⟨_, by rw [set_get hdd, if_neg hnd]; exact hqn⟩
  unfold TPost tptr cval
  have hV2 : (putL L d v ((l.getD k 0 : Nat) : Int)).length = L.length := putL_length _ _ _ _
  clear hr hx hn hqn hqb2
  generalize putL L d v ((l.getD k 0 : Nat) : Int) = L2 at *
  generalize hnx : l.getD (sc l.length k) 0 = nx at *
  generalize l.getD (pc l.length k) 0 = pv at *
  generalize hbe : l.getD k 0 = be at *
  generalize hlen : l.length = len at *
  clear hnx hbe hlen hv hk
  have hb' : b = be ∨ b = -1 := hb.imp_right (·.1)
  clear hb
  rcases hb' with rfl | rfl
  · go_enter Tryd.func54, Tryd.ntmps54
    go_upto_region 1 with fail
    generalize w.alloc (.cells #[.int .i64 (v : Int), .int .i64 be] 51) = w1 at *
    have k0 := HB.out.cell (i := 0)
    have k1 := HB.out.cell (i := 1)
    simp only [List.getElem?_toArray, List.getElem?_cons_zero, List.getElem?_cons_succ] at k0 k1
    have c0 := hx0.c0
    have c1 := hx0.c1
    have c2 := hx0.c2
    have m0 := hx0.mny hmn
    have mf := hx0.f3 v
    have hbE : ((be : Nat) : Int) < 2 * (E : Int) := by omega
    go_wp2_with fail
    go_region
    have hx2 := (hx0.setM v ((len : Int) + 1)).drew
    have HK2 := Lib.hid ((HK0.out.setIn g3 v (.int .i32 ((len : Int) + 1)) (.inr (.inr (.inr rfl)))).drew)
    have HB2 := Lib.hid ((HB.out.set_other ⟨g3, v, none⟩ (.int .i32 ((len : Int) + 1)) (Nat.ne_of_gt hg3)).drew)
    clear k0 k1 c0 c1 c2 m0 mf hx0 HB HK0
    generalize (w1.setCell ⟨g3, v, none⟩ (.int .i32 ((len : Int) + 1))).drew = w2 at *
    have k0 := HB2.out.cell (i := 0)
    simp only [List.getElem?_toArray, List.getElem?_cons_zero, List.getElem?_cons_succ] at k0
    have c0 := hx2.c0
    obtain ⟨b0, b1, b2⟩ := hx2.dart hqb
    obtain ⟨q0, q1, q2⟩ := hx2.dart hq
    simp only at b0 b1 b2
    have f0 := hx2.f1 (d * 3)
    have f1 := hx2.f1 (d * 3 + 1)
    have f2 := hx2.f1 (d * 3 + 2)
    have hdE : (d : Int) < 2 * (E : Int) := by omega
    go_wp2_with fail
    go_region
    have hx3 := (hx2.set3 d v nx be).drew
    have HK3 := Lib.hid ((((HK2.out.setIn g1 (d * 3) (.int .i32 v) (.inr (.inl rfl))).setIn g1 (d * 3 + 1) (.int .i32 nx) (.inr (.inl rfl))).setIn g1 (d * 3 + 2) (.int .i32 be) (.inr (.inl rfl))).drew)
    clear k0 c0 b0 b1 b2 q0 q1 q2 f0 f1 f2 hx2 HB2 HK2
    generalize (((w2.setCell ⟨g1, d * 3, none⟩ (.int .i32 v)).setCell ⟨g1, d * 3 + 1, none⟩ (.int .i32 nx)).setCell ⟨g1, d * 3 + 2, none⟩ (.int .i32 be)).drew = w3 at *
    have c0 := hx3.c0
    obtain ⟨b0, b1, b2⟩ := hx3.dart hqb3
    obtain ⟨n0, n1, n2⟩ := hx3.dart hqn3
    simp only at b0 b1 b2
    have f1 := hx3.f1 (be * 3 + 1)
    have f2 := hx3.f1 (nx * 3 + 2)
    have hnE : (nx : Int) < 2 * (E : Int) := by omega
    have hne1 : be * 3 + 1 ≠ nx * 3 + 2 := by omega
    have hne2 : nx * 3 + 2 ≠ be * 3 + 1 := by omega
    go_wp2_with fail
    go_region
    have hx4 := Lib.hid (((hx3.setN be d).setP nx d).drew)
    have HK4 := Lib.hid (((HK3.out.setIn g1 (be * 3 + 1) (.int .i32 d) (.inr (.inl rfl))).setIn g1 (nx * 3 + 2) (.int .i32 d) (.inr (.inl rfl))).drew)
    clear c0 b0 b1 b2 n0 n1 n2 f1 f2 hx3 HK3
    go_wp2_with fail
    go_end0
    exact ⟨rfl, ⟨⟨g1, g2, g3, _, _, _, by rw [hV2]; exact hx4.out, rfl, HR.out⟩, hE1, hE, by rw [hV2]; exact hV1, by rw [hV2]; exact hV⟩, HK4.out⟩
  · go_enter Tryd.func54, Tryd.ntmps54
    go_upto_region 1 with fail
    generalize w.alloc (.cells #[.int .i64 (v : Int), .int .i64 (-1)] 51) = w1 at *
    have k0 := HB.out.cell (i := 0)
    have k1 := HB.out.cell (i := 1)
    simp only [List.getElem?_toArray, List.getElem?_cons_zero, List.getElem?_cons_succ] at k0 k1
    have c0 := hx0.c0
    have c1 := hx0.c1
    have c2 := hx0.c2
    have l0 := hx0.lst (hls rfl)
    have m0 := hx0.mny hmn
    have mf := hx0.f3 v
    have hbE : ((be : Nat) : Int) < 2 * (E : Int) := by omega
    go_wp2_with fail
    go_quiet (fail)
    go_wp2_with fail
    go_region
    have hx2 := (hx0.drewN (nq + 1)).setM v ((len : Int) + 1)
    have HK2 := Lib.hid ((HK0.out.drewN (nq + 1)).setIn g3 v (.int .i32 ((len : Int) + 1)) (.inr (.inr (.inr rfl))))
    have HB2 := Lib.hid ((HB.out.drewN (nq + 1)).set_other ⟨g3, v, none⟩ (.int .i32 ((len : Int) + 1)) (Nat.ne_of_gt hg3))
    clear k0 k1 c0 c1 c2 l0 m0 mf hx0 HB HK0
    generalize (w1.drewN (nq + 1)).setCell ⟨g3, v, none⟩ (.int .i32 ((len : Int) + 1)) = w2 at *
    have k0 := HB2.out.cell (i := 0)
    simp only [List.getElem?_toArray, List.getElem?_cons_zero, List.getElem?_cons_succ] at k0
    have c0 := hx2.c0
    obtain ⟨b0, b1, b2⟩ := hx2.dart hqb
    obtain ⟨q0, q1, q2⟩ := hx2.dart hq
    simp only at b0 b1 b2
    have f0 := hx2.f1 (d * 3)
    have f1 := hx2.f1 (d * 3 + 1)
    have f2 := hx2.f1 (d * 3 + 2)
    have hdE : (d : Int) < 2 * (E : Int) := by omega
    go_wp2_with fail
    go_region
    have hx3 := (hx2.set3 d v nx be).drew
    have HK3 := Lib.hid ((((HK2.out.setIn g1 (d * 3) (.int .i32 v) (.inr (.inl rfl))).setIn g1 (d * 3 + 1) (.int .i32 nx) (.inr (.inl rfl))).setIn g1 (d * 3 + 2) (.int .i32 be) (.inr (.inl rfl))).drew)
    clear k0 c0 b0 b1 b2 q0 q1 q2 f0 f1 f2 hx2 HB2 HK2
    generalize (((w2.setCell ⟨g1, d * 3, none⟩ (.int .i32 v)).setCell ⟨g1, d * 3 + 1, none⟩ (.int .i32 nx)).setCell ⟨g1, d * 3 + 2, none⟩ (.int .i32 be)).drew = w3 at *
    have c0 := hx3.c0
    obtain ⟨b0, b1, b2⟩ := hx3.dart hqb3
    obtain ⟨n0, n1, n2⟩ := hx3.dart hqn3
    simp only at b0 b1 b2
    have f1 := hx3.f1 (be * 3 + 1)
    have f2 := hx3.f1 (nx * 3 + 2)
    have hnE : (nx : Int) < 2 * (E : Int) := by omega
    have hne1 : be * 3 + 1 ≠ nx * 3 + 2 := by omega
    have hne2 : nx * 3 + 2 ≠ be * 3 + 1 := by omega
    go_wp2_with fail
    go_region
    have hx4 := Lib.hid (((hx3.setN be d).setP nx d).drew)
    have HK4 := Lib.hid (((HK3.out.setIn g1 (be * 3 + 1) (.int .i32 d) (.inr (.inl rfl))).setIn g1 (nx * 3 + 2) (.int .i32 d) (.inr (.inl rfl))).drew)
    clear c0 b0 b1 b2 n0 n1 n2 f1 f2 hx3 HK3
    go_wp2_with fail
    go_end0
    exact ⟨rfl, ⟨⟨g1, g2, g3, _, _, _, by rw [hV2]; exact hx4.out, rfl, HR.out⟩, hE1, hE, by rw [hV2]; exact hV1, by rw [hV2]; exact hV⟩, HK4.out⟩
end
section
variable {w : World} {own : Nat → Prop} {p E : Nat} {L : List (List Nat)}
set_option maxHeartbeats 2000000 in
theorem ttake (h : Tu w own p E L) {v k : Nat} {l : List Nat} (hv : L[v]? = some l) (hk : k < l.length) :
    Calls Tryd.prog 63 #[tptr p, .int .i32 (l.getD k 0 : Nat)] w (TPost own p E (remL L (l.getD k 0)) (.tuple #[]) w) := by
  have hV := h.v2
  have hV1 := h.v1
  have hE := h.e2
  have hE1 := h.e1
  obtain ⟨⟨g1, g2, g3, D, ls, mn, hx, rfl, hr⟩, _⟩ := h
  have hvl := (List.getElem?_eq_some_iff.1 hv).1
  have hqd := hr.cyc v l hv k hk
  obtain ⟨qn, hqn⟩ : ∃ q, D[l.getD (sc l.length k) 0]? = some q := ⟨_, hr.cyc v l hv _ (sc_lt hk)⟩
  obtain ⟨qp, hqp⟩ : ∃ q, D[l.getD (pc l.length k) 0]? = some q := ⟨_, hr.cyc v l hv _ (pc_lt hk)⟩
  have HR := Lib.hid (fun ls' => hr.take hv hk ls')
  have hg1 := hx.b1.lt
  have hg2 := hx.b2.lt
  have hg3 := hx.b3.lt
  have hmn := hr.many v l hv
  have hll := hr.len hv
  have hl0 : 0 < l.length := by omega
  have hds : l.getD k 0 < 2 * E := hr.wf.bd hv (getD_mem hk)
  have hns : l.getD (sc l.length k) 0 < 2 * E := hr.wf.bd hv (getD_mem (sc_lt hk))
  have hps : l.getD (pc l.length k) 0 < 2 * E := hr.wf.bd hv (getD_mem (pc_lt hk))
  obtain ⟨y, hy, hls⟩ := hr.least1 v l hv (by rintro rfl; simp at hl0)
  have hys : y < 2 * E := hr.wf.bd hv hy
  have hV2 : (remL L (l.getD k 0)).length = L.length := remL_length _ _
  have hx0 := Lib.hid hx
  obtain ⟨d0, d1, d2⟩ := hx.dart hqd
  simp only at d0 d1 d2
  have c0 := hx.c0
  unfold TPost tptr
  clear hr hx hy
  generalize remL L (l.getD k 0) = L2 at *
  generalize hnx : l.getD (sc l.length k) 0 = nx at *
  generalize hpv : l.getD (pc l.length k) 0 = pv at *
  generalize hdd : l.getD k 0 = d at *
  generalize hlen : l.length = n at *
  clear hnx hpv hdd hlen hv hk
  have hdE : (d : Int) < 2 * (E : Int) := by omega
  have hnE : (nx : Int) < 2 * (E : Int) := by omega
  have hpE : (pv : Int) < 2 * (E : Int) := by omega
  have hHB : Hid (Blk (w.alloc (.cells #[.int .i32 (v : Int), .int .i32 (nx : Int), .int .i32 (pv : Int)] 96)) w.heap.size #[.int .i32 (v : Int), .int .i32 (nx : Int), .int .i32 (pv : Int)] 96) := Blk.new w _ _
  have hK0 := Lib.hid ((Keeps.refl (TX.own p g1 g2 g3) w).alloc (.cells #[.int .i32 (v : Int), .int .i32 (nx : Int), .int .i32 (pv : Int)] 96))
  have hx1 := hx0.out.keep ((Keeps.refl _ w).alloc (.cells #[.int .i32 (v : Int), .int .i32 (nx : Int), .int .i32 (pv : Int)] 96))
  go_enter Tryd.func63, Tryd.ntmps63
  go_upto_region 1 with fail
  clear d0 d1 d2 c0
  generalize w.alloc (.cells #[.int .i32 (v : Int), .int .i32 (nx : Int), .int .i32 (pv : Int)] 96) = w1 at *
  as_aux_lemma =>
  have x0 := hHB.out.cell (i := 0)
  have x1 := hHB.out.cell (i := 1)
  have x2 := hHB.out.cell (i := 2)
  simp only [List.getElem?_toArray, List.getElem?_cons_zero, List.getElem?_cons_succ] at x0 x1 x2
  have c0 := hx1.c0
  obtain ⟨n0, n1, n2⟩ := hx1.dart hqn
  obtain ⟨p0, p1, p2⟩ := hx1.dart hqp
  have f1 := hx1.f1 (pv * 3 + 1)
  have f2 := hx1.f1 (nx * 3 + 2)
  have hne1 : pv * 3 + 1 ≠ nx * 3 + 2 := by omega
  have hne2 : nx * 3 + 2 ≠ pv * 3 + 1 := by omega
  go_region
  have hx2 := ((hx1.setN pv nx).setP nx pv).drew
  have hK2 := Lib.hid (((hK0.out.setIn g1 (pv * 3 + 1) (.int .i32 nx) (.inr (.inl rfl))).setIn g1 (nx * 3 + 2) (.int .i32 pv) (.inr (.inl rfl))).drew)
  have hB2 := Lib.hid (((hHB.out.set_other ⟨g1, pv * 3 + 1, none⟩ (.int .i32 nx) (Nat.ne_of_gt hg1)).set_other ⟨g1, nx * 3 + 2, none⟩ (.int .i32 pv) (Nat.ne_of_gt hg1)).drew)
  clear x0 x1 x2 c0 n0 n1 n2 p0 p1 p2 f1 f2 hx1 hHB hK0
  generalize ((w1.setCell ⟨g1, pv * 3 + 1, none⟩ (.int .i32 nx)).setCell ⟨g1, nx * 3 + 2, none⟩ (.int .i32 pv)).drew = w2 at *
  as_aux_lemma =>
  have x0 := hB2.out.cell (i := 0)
  simp only [List.getElem?_toArray, List.getElem?_cons_zero, List.getElem?_cons_succ] at x0
  have c2 := hx2.c2
  have m0 := hx2.mny hmn
  have mf := hx2.f3 v
  go_wp2_with fail
  go_region
  have hx3 := (hx2.setM v ((n : Int) - 1)).drew
  have hK3 := Lib.hid ((hK2.out.setIn g3 v (.int .i32 ((n : Int) - 1)) (.inr (.inr (.inr rfl)))).drew)
  have hB3 := Lib.hid ((hB2.out.set_other ⟨g3, v, none⟩ (.int .i32 ((n : Int) - 1)) (Nat.ne_of_gt hg3)).drew)
  clear x0 c2 m0 mf hx2 hB2 hK2
  generalize (w2.setCell ⟨g3, v, none⟩ (.int .i32 ((n : Int) - 1))).drew = w3 at *
  as_aux_lemma =>
  have x0 := hB3.out.cell (i := 0)
  have x1 := hB3.out.cell (i := 1)
  simp only [List.getElem?_toArray, List.getElem?_cons_zero, List.getElem?_cons_succ] at x0 x1
  have c0 := hx3.c0
  have c1 := hx3.c1
  have c2 := hx3.c2
  have m0 := hx3.mny (v := v) (x := (n : Int) - 1) (by rw [List.getElem?_set, if_pos rfl, if_pos (List.getElem?_eq_some_iff.1 hmn).1])
  have l0 := hx3.lst hls
  have lf := hx3.f2 v
  obtain ⟨qq, hqq⟩ : ∃ q, (setP (setN D pv nx) nx pv)[d]? = some q := ⟨_, List.getElem?_eq_getElem (by rw [setP_length, setN_length]; exact (List.getElem?_eq_some_iff.1 hqd).1)⟩
  have hcs : n = 1 ∨ (n ≠ 1 ∧ y = d) ∨ (n ≠ 1 ∧ y ≠ d) := by omega
  rcases hcs with hn | ⟨hn, hyd⟩ | ⟨hn, hyd⟩
  · as_aux_lemma =>
    have hn1 : ((n : Int) - 1 == 0) = true := by rw [hn]; rfl
    go_wp2_with fail
    go_quiet (fail)
    go_wp2_with fail
    go_region
    generalize hz2 : World.setCell _ ⟨g2, v, none⟩ (.int .i32 (-1)) = w4
    have hx4 : TX w4 p g1 g2 g3 E L.length (setP (setN D pv nx) nx pv) (ls.set v (-1)) (mn.set v ((n : Int) - 1)) := by rw [← hz2]; exact (hx3.drewN _).setL v (-1)
    have hK4 : Hid (Keeps (TX.own p g1 g2 g3) w w4) := by rw [← hz2]; exact (hK3.out.drewN _).setIn g2 v _ (.inr (.inr (.inl rfl)))
    clear x0 x1 c0 c1 c2 m0 l0 lf hx3 hB3 hK3 hz2
    obtain ⟨o0, _, _⟩ := hx4.dart hqq
    have f0 := hx4.f1 (d * 3)
    have c0 := hx4.c0
    have hx5 := Lib.hid (hx4.setO d (-1))
    have hK5 := Lib.hid (hK4.out.setIn g1 (d * 3) (.int .i32 (-1)) (.inr (.inl rfl)))
    go_wp2_with fail
    go_end0
    have hnc : ((n : Int) - 1) = ((n - 1 : Nat) : Int) := by omega
    rw [hnc] at hx5
    exact ⟨rfl, ⟨⟨g1, g2, g3, _, _, _, by rw [hV2]; exact hx5.out, rfl, HR.out _ (fun _ => rfl) (fun e => absurd hn e)⟩, hE1, hE, by rw [hV2]; exact hV1, by rw [hV2]; exact hV⟩, hK5.out⟩
  · as_aux_lemma =>
    have hn1 : ((n : Int) - 1 == 0) = false := by rw [beq_eq_false_iff_ne]; omega
    have hyd1 : ((y : Int) == (d : Int)) = true := by rw [hyd]; simp
    go_wp2_with fail
    go_quiet (fail)
    go_wp2_with fail
    go_quiet (fail)
    go_wp2_with fail
    go_region
    generalize hz2 : World.setCell _ ⟨g2, v, none⟩ (.int .i32 (nx : Int)) = w4
    have hx4 : TX w4 p g1 g2 g3 E L.length (setP (setN D pv nx) nx pv) (ls.set v (nx : Int)) (mn.set v ((n : Int) - 1)) := by rw [← hz2]; exact (hx3.drewN _).setL v (nx : Int)
    have hK4 : Hid (Keeps (TX.own p g1 g2 g3) w w4) := by rw [← hz2]; exact (hK3.out.drewN _).setIn g2 v _ (.inr (.inr (.inl rfl)))
    clear x0 x1 c0 c1 c2 m0 l0 lf hx3 hB3 hK3 hz2
    obtain ⟨o0, _, _⟩ := hx4.dart hqq
    have f0 := hx4.f1 (d * 3)
    have c0 := hx4.c0
    have hx5 := Lib.hid (hx4.setO d (-1))
    have hK5 := Lib.hid (hK4.out.setIn g1 (d * 3) (.int .i32 (-1)) (.inr (.inl rfl)))
    go_wp2_with fail
    go_end0
    have hnc : ((n : Int) - 1) = ((n - 1 : Nat) : Int) := by omega
    rw [hnc] at hx5
    exact ⟨rfl, ⟨⟨g1, g2, g3, _, _, _, by rw [hV2]; exact hx5.out, rfl, HR.out _ (fun e => absurd e hn) (fun _ => ⟨fun _ => rfl, fun e => absurd (by rw [hls, hyd]) e⟩)⟩, hE1, hE, by rw [hV2]; exact hV1, by rw [hV2]; exact hV⟩, hK5.out⟩
  · as_aux_lemma =>
    have hn1 : ((n : Int) - 1 == 0) = false := by rw [beq_eq_false_iff_ne]; omega
    have hyd1 : ((y : Int) == (d : Int)) = false := by rw [beq_eq_false_iff_ne]; omega
    obtain ⟨o0, _, _⟩ := hx3.dart hqq
    have f0 := hx3.f1 (d * 3)
    have HX3 := Lib.hid hx3
    go_wp2_with fail
    go_quiet (fail)
    go_wp2_with fail
    go_quiet (fail)
    go_wp2_with fail
    go_end0
    have hnc : ((n : Int) - 1) = ((n - 1 : Nat) : Int) := by omega
    refine ⟨rfl, ⟨⟨g1, g2, g3, _, ls, _, ?_, rfl, HR.out _ (fun e => absurd e hn) (fun _ => ⟨fun e => absurd (Option.some.inj (hls.symm.trans e)) (by omega), fun _ => rfl⟩)⟩, hE1, hE, by rw [hV2]; exact hV1, by rw [hV2]; exact hV⟩, ?_⟩
    · rw [hV2, ← hnc]; exact (HX3.out.drewN _).setO d (-1)
    · exact (hK3.out.drewN _).setIn g1 (d * 3) _ (.inr (.inl rfl))
end
theorem TPost.trans {own : Nat → Prop} {p E : Nat} {L : List (List Nat)} {v : Value} {w w1 w2 : World} {e : Ending} (h : Keeps own w w1) (k : TPost own p E L v w1 e w2) : TPost own p E L v w e w2 := ⟨k.1, k.2.1, h.trans' k.2.2⟩
section
variable {w : World} {own : Nat → Prop} {p E : Nat} {L : List (List Nat)}
theorem tputC (h : Tu w own p E L) {d v : Nat} {b x y : Int} {l : List Nat} (hx : x = d) (hy : y = v) (hd : d < 2 * E) (hn : ¬ Stands L d) (hv : L[v]? = some l) (hc : b = -1 ∧ l = [] ∨ b = -1 ∧ l.length = 1 ∨ ∃ m : Nat, b = m ∧ m ∈ l) :
    Calls Tryd.prog 54 #[tptr p, .int .i32 x, cval y b] w (TPost own p E (putL L d v b) (.tuple #[]) w) := by
  subst hx hy
  rcases hc with ⟨rfl, rfl⟩ | ⟨rfl, hl⟩ | ⟨m, rfl, hm⟩
  · exact tput0 h hd hn hv
  · have := tput1 h (-1) hd hn hv (k := 0) (by omega) (.inr ⟨rfl, rfl, hl⟩)
    have e : putL L d v ((l.getD 0 0 : Nat) : Int) = putL L d v (-1) := by
      unfold putL
      rw [getD_some hv]
      match l, hl with
      | [z], _ => simp [insB]
    rwa [e] at this
  · obtain ⟨k, hk, rfl⟩ := mem_getD hm
    exact tput1 h _ hd hn hv hk (.inl rfl)
theorem twP (h : Tu w own p E L) {d : Nat} {x : Int} (hx : x = d) (hd : Stands L d) : Calls Tryd.prog 63 #[tptr p, .int .i32 x] w (TPost own p E (remL L d) (.tuple #[]) w) := by
  subst hx
  obtain ⟨v, l, i, hv, hi, rfl⟩ := stands_ex hd
  exact ttake h hv hi
/-- Behind a first dart the second corner stands yet. -/
theorem chk_put {a b : Int × Int} {d : Nat} (ha : chkErr L a.1 a.2 = 0) (hb : chkErr L b.1 b.2 = 0) (hn : ¬ Stands L d) :
    ∃ l, (putL L d a.1.toNat a.2)[b.1.toNat]? = some l ∧ (b.2 = -1 ∧ l = [] ∨ b.2 = -1 ∧ l.length = 1 ∨ ∃ m : Nat, b.2 = m ∧ m ∈ l) := by
  obtain ⟨n, hn1, l, hl, hc⟩ := chk_ok ha
  obtain ⟨n', hn2, l', hl', hc'⟩ := chk_ok hb
  rw [hn1, hn2, Int.toNat_natCast, Int.toNat_natCast]
  by_cases e : n' = n
  · subst e
    rw [hl] at hl'
    cases hl'
    refine ⟨_, (putL_get hl _).trans (if_pos rfl), ?_⟩
    rcases hc' with ⟨h1, rfl⟩ | ⟨m, h1, h2⟩
    · exact .inr (.inl ⟨h1, rfl⟩)
    · exact .inr (.inr ⟨m, h1, mem_insB.2 (.inr h2)⟩)
  · refine ⟨_, ((putL_get hl _).trans (if_neg e)).trans hl', ?_⟩
    exact hc'.imp_right .inr
theorem tlay (h : Tu w own p E L) (g : Good E L) (e : Int) (a b : Int × Int) :
    Calls Tryd.prog 24 #[tptr p, .int .i64 e, cval a.1 a.2, cval b.1 b.2] w (TPost own p E (lay E L e a b) (errVal (layErr E L e a b)) w) := by
  have hE := h.e2
  obtain ⟨a1, a2⟩ := a
  obtain ⟨b1, b2⟩ := b
  have hK : Keeps (fun _ => False) w ((w.alloc (.cells #[.int .i64 a1, .int .i64 a2] 51)).alloc (.cells #[.int .i64 b1, .int .i64 b2] 51)) := ((Keeps.refl _ _).alloc _).alloc _
  have h0 := h.keep hK
  have HB : Hid (Blk ((w.alloc (.cells #[.int .i64 a1, .int .i64 a2] 51)).alloc (.cells #[.int .i64 b1, .int .i64 b2] 51)) (w.heap.size + 1) #[.int .i64 b1, .int .i64 b2] 51) := by
    have := Blk.new (w.alloc (.cells #[.int .i64 a1, .int .i64 a2] 51)) #[.int .i64 b1, .int .i64 b2] 51
    exact Lib.hid (by simpa using this)
  have HA : Hid (Blk ((w.alloc (.cells #[.int .i64 a1, .int .i64 a2] 51)).alloc (.cells #[.int .i64 b1, .int .i64 b2] 51)) w.heap.size #[.int .i64 a1, .int .i64 a2] 51) := (Blk.new w _ _).alloc _
  have hoA : ∀ k, own k → k < w.heap.size := h.lt
  have HO := Lib.hid hoA
  clear hoA
  have hed := Lib.hid (tedge h0 e)
  have hha := Lib.hid (thas h0 e)
  have HK := Lib.hid hK
  unfold lay
  by_cases hr1 : e < 0 ∨ (E : Int) ≤ e
  · have hev : eErr E e = 12 := by unfold eErr; rw [if_pos hr1]
    have hle : layErr E L e (a1, a2) (b1, b2) = 12 := by unfold layErr; rw [if_pos hr1]
    rw [hev] at hed
    rw [hle, if_neg (by decide)]
    have H := Lib.hid h0
    clear h h0 hev hle hha g hK HA HB
    unfold tptr cval errVal errno TPost at *
    simp only [if_neg (show ¬ (12 : Nat) = 0 by decide)] at hed ⊢
    go_enter Tryd.func24, Tryd.ntmps24
    go_upto_region 1 with fail
    generalize (w.alloc _).alloc _ = w0 at *
    go_wp2_with fail
    refine (hed.out).mono ?_
    rintro e w1 ⟨rfl, rfl⟩
    go_wp2_with fail
    go_ret
    exact ⟨rfl, H.out, HK.out.mono fun _ _ q => q.elim⟩
  · obtain ⟨n, rfl⟩ := Int.eq_ofNat_of_zero_le (show 0 ≤ e by omega)
    have hn : n < E := by omega
    have hev : eErr E n = 0 := by unfold eErr; rw [if_neg hr1]
    rw [hev] at hed
    have hb : decide (0 ≤ (n : Int) ∧ (n : Int) < E ∧ Stands L (2 * (n : Int).toNat)) = decide (Stands L (2 * n)) := by
      rw [Bool.eq_iff_iff, decide_eq_true_eq, decide_eq_true_eq, Int.toNat_natCast]
      exact ⟨fun e => e.2.2, fun e => ⟨by omega, by omega, e⟩⟩
    rw [hb] at hha
    have hle : layErr E L n (a1, a2) (b1, b2) = if Stands L (2 * n) then 20 else if chkErr L a1 a2 ≠ 0 then chkErr L a1 a2 else chkErr L b1 b2 := by unfold layErr; rw [if_neg hr1, Int.toNat_natCast]
    by_cases hs : Stands L (2 * n)
    · rw [hle, if_pos hs, if_neg (by decide)]
      have hd : decide (Stands L (2 * n)) = true := decide_eq_true hs
      rw [hd] at hha
      have H := Lib.hid h0
      clear h h0 g hle hb hd hs hev hr1 hK HA HB
      unfold tptr cval errVal errno TPost RetPost at *
      simp only [if_true, if_neg (show ¬ (20 : Nat) = 0 by decide)] at hed ⊢
      go_enter Tryd.func24, Tryd.ntmps24
      go_upto_region 1 with fail
      generalize (w.alloc _).alloc _ = w0 at *
      go_wp2_with fail
      refine (hed.out).mono ?_
      rintro e w1 ⟨rfl, rfl⟩
      go_wp2_with fail
      refine (hha.out).mono ?_
      rintro e w1 ⟨rfl, hk1⟩
      have H1 := Lib.hid (And.intro (H.out.keep hk1) ((HK.out.trans' hk1).mono (fp' := own) fun _ _ q => q.elim))
      clear hk1
      go_wp2_with fail
      go_ret
      exact ⟨rfl, H1.out⟩
    · rw [if_neg hs] at hle
      have hd : decide (Stands L (2 * n)) = false := decide_eq_false hs
      rw [hd] at hha
      have hca := Lib.hid (fun W (hk : Keeps (fun _ => False) ((w.alloc (.cells #[.int .i64 a1, .int .i64 a2] 51)).alloc (.cells #[.int .i64 b1, .int .i64 b2] 51)) W) => tcheck (h0.keep hk) a1 a2)
      have hcb := Lib.hid (fun W (hk : Keeps (fun _ => False) ((w.alloc (.cells #[.int .i64 a1, .int .i64 a2] 51)).alloc (.cells #[.int .i64 b1, .int .i64 b2] 51)) W) => tcheck (h0.keep hk) b1 b2)
      have hws : w.heap.size + 1 < ((w.alloc (.cells #[.int .i64 a1, .int .i64 a2] 51)).alloc (.cells #[.int .i64 b1, .int .i64 b2] 51)).heap.size := by simp
      by_cases hA : chkErr L a1 a2 = 0
      · rw [if_neg (fun q => q hA)] at hle
        rw [hA] at hca
        by_cases hBb : chkErr L b1 b2 = 0
        · rw [hBb] at hcb hle
          rw [hle, if_pos rfl, Int.toNat_natCast]
          unfold layL
          have hn0 : ¬ Stands (putL L (2 * n) a1.toNat a2) (2 * n + 1) := fun q => by
            rw [putL_stands (chk_lt hA)] at q
            rcases q with q | q
            · omega
            · exact hs ((g.pair n).1 q)
          obtain ⟨l2, hl2, hc2⟩ := chk_put (a := (a1, a2)) (b := (b1, b2)) hA hBb hs
          obtain ⟨va, hva, la, hla, hca'⟩ := chk_ok hA
          obtain ⟨vb, hvb, lb, hlb, hcb'⟩ := chk_ok hBb
          have hp1 := Lib.hid (fun W (hk : Keeps (fun _ => False) ((w.alloc (.cells #[.int .i64 a1, .int .i64 a2] 51)).alloc (.cells #[.int .i64 b1, .int .i64 b2] 51)) W) => tputC (h0.keep hk) (d := 2 * n) (v := a1.toNat) (b := a2) (x := 2 * (n : Int)) (y := a1) (by omega) (by omega) (by omega) hs (by rw [hva, Int.toNat_natCast]; exact hla) (hca'.imp_right .inr))
          have hp2 := Lib.hid (fun W (ht : Tu W own p E (putL L (2 * n) a1.toNat a2)) => tputC ht (d := 2 * n + 1) (v := b1.toNat) (b := b2) (x := 2 * (n : Int) + 1) (y := b1) (by omega) (by omega) (by omega) hn0 hl2 hc2)
          generalize putL (putL L (2 * n) a1.toNat a2) (2 * n + 1) b1.toNat b2 = L2 at *
          generalize putL L (2 * n) a1.toNat a2 = L1 at *
          clear h h0 g hle hb hd hs hev hr1 hK hA hBb hn0 hl2 hc2 hca' hcb' hva hvb hla hlb
          unfold tptr cval errVal errno TPost RetPost at *
          simp only [if_true] at hed hca hcb ⊢
          go_enter Tryd.func24, Tryd.ntmps24
          go_upto_region 1 with fail
          generalize (w.alloc _).alloc _ = w0 at *
          go_wp2_with fail
          refine (hed.out).mono ?_
          rintro e w1 ⟨rfl, rfl⟩
          go_wp2_with fail
          refine (hha.out).mono ?_
          rintro e w1 ⟨rfl, hk1⟩
          have HK1 := Lib.hid hk1
          have i0 := (HA.out.kept hk1 id).cell (i := 0)
          have i1 := (HA.out.kept hk1 id).cell (i := 1)
          simp only [List.getElem?_toArray, List.getElem?_cons_zero, List.getElem?_cons_succ] at i0 i1
          have hca1 := Lib.hid (hca.out _ hk1)
          clear hk1
          go_wp2_with fail
          refine (hca1.out).mono ?_
          rintro e w2 ⟨rfl, hk2⟩
          have HK2 := Lib.hid (HK1.out.trans' hk2)
          have i0 := (HB.out.kept HK2.out id).cell (i := 0)
          have i1 := (HB.out.kept HK2.out id).cell (i := 1)
          simp only [List.getElem?_toArray, List.getElem?_cons_zero, List.getElem?_cons_succ] at i0 i1
          have hcb1 := Lib.hid (hcb.out _ HK2.out)
          clear hk2
          go_wp2_with fail
          refine (hcb1.out).mono ?_
          rintro e w3 ⟨rfl, hk3⟩
          have HK3 := Lib.hid (HK2.out.trans' hk3)
          have j0 := (HA.out.kept HK3.out id).cell (i := 0)
          have j1 := (HA.out.kept HK3.out id).cell (i := 1)
          simp only [List.getElem?_toArray, List.getElem?_cons_zero, List.getElem?_cons_succ] at j0 j1
          have hp1' := Lib.hid (hp1.out _ HK3.out)
          clear hk3
          go_wp2_with fail
          refine (hp1'.out).mono ?_
          rintro e w4 ⟨rfl, ht4, hk4⟩
          have HK4 := Lib.hid ((HK3.out.mono fun _ _ q => q.elim).trans' hk4)
          have HB4 := Lib.hid ((HB.out.kept HK3.out id).kept hk4 fun q => by have := HO.out _ q; omega)
          have j0 := HB4.out.cell (i := 0)
          have j1 := HB4.out.cell (i := 1)
          simp only [List.getElem?_toArray, List.getElem?_cons_zero, List.getElem?_cons_succ] at j0 j1
          have hp2' := Lib.hid (hp2.out _ ht4)
          clear hk4 ht4
          go_wp2_with fail
          refine (hp2'.out).mono ?_
          rintro e w5 ⟨rfl, ht5, hk5⟩
          have H5 := Lib.hid (And.intro ht5 (((HK.out.mono fun _ _ q => q.elim).trans' HK4.out).trans' hk5))
          clear hk5 ht5
          go_wp2_with fail
          go_ret
          exact ⟨rfl, H5.out⟩
        · rw [hle, if_neg hBb, errVal_pos hBb]
          rw [errVal_pos hBb] at hcb
          generalize ((chkErr L b1 b2 : Nat) : Int) = kb at *
          have H := Lib.hid h0
          clear h h0 g hle hb hd hs hev hr1 hK hA hBb
          unfold tptr cval errVal errno TPost RetPost at *
          simp only [if_true] at hed hca ⊢
          go_enter Tryd.func24, Tryd.ntmps24
          go_upto_region 1 with fail
          generalize (w.alloc _).alloc _ = w0 at *
          go_wp2_with fail
          refine (hed.out).mono ?_
          rintro e w1 ⟨rfl, rfl⟩
          go_wp2_with fail
          refine (hha.out).mono ?_
          rintro e w1 ⟨rfl, hk1⟩
          have HK1 := Lib.hid hk1
          have i0 := (HA.out.kept hk1 id).cell (i := 0)
          have i1 := (HA.out.kept hk1 id).cell (i := 1)
          simp only [List.getElem?_toArray, List.getElem?_cons_zero, List.getElem?_cons_succ] at i0 i1
          have hca1 := Lib.hid (hca.out _ hk1)
          clear hk1
          go_wp2_with fail
          refine (hca1.out).mono ?_
          rintro e w2 ⟨rfl, hk2⟩
          have HK2 := Lib.hid (HK1.out.trans' hk2)
          have i0 := (HB.out.kept HK2.out id).cell (i := 0)
          have i1 := (HB.out.kept HK2.out id).cell (i := 1)
          simp only [List.getElem?_toArray, List.getElem?_cons_zero, List.getElem?_cons_succ] at i0 i1
          have hcb1 := Lib.hid (hcb.out _ HK2.out)
          clear hk2
          go_wp2_with fail
          refine (hcb1.out).mono ?_
          rintro e w3 ⟨rfl, hk3⟩
          have H3 := Lib.hid (And.intro (H.out.keep (HK2.out.trans' hk3)) ((HK.out.trans' (HK2.out.trans' hk3)).mono (fp' := own) fun _ _ q => q.elim))
          clear hk3
          go_wp2_with fail
          go_ret
          exact ⟨rfl, H3.out⟩
      · rw [if_pos hA] at hle
        rw [hle, if_neg hA, errVal_pos hA]
        rw [errVal_pos hA] at hca
        generalize ((chkErr L a1 a2 : Nat) : Int) = kb at *
        have H := Lib.hid h0
        clear h h0 g hle hb hd hs hev hr1 hK hA hcb
        unfold tptr cval errVal errno TPost RetPost at *
        simp only [if_true] at hed ⊢
        go_enter Tryd.func24, Tryd.ntmps24
        go_upto_region 1 with fail
        generalize (w.alloc _).alloc _ = w0 at *
        go_wp2_with fail
        refine (hed.out).mono ?_
        rintro e w1 ⟨rfl, rfl⟩
        go_wp2_with fail
        refine (hha.out).mono ?_
        rintro e w1 ⟨rfl, hk1⟩
        have HK1 := Lib.hid hk1
        have i0 := (HA.out.kept hk1 id).cell (i := 0)
        have i1 := (HA.out.kept hk1 id).cell (i := 1)
        simp only [List.getElem?_toArray, List.getElem?_cons_zero, List.getElem?_cons_succ] at i0 i1
        have hca1 := Lib.hid (hca.out _ hk1)
        clear hk1
        go_wp2_with fail
        refine (hca1.out).mono ?_
        rintro e w2 ⟨rfl, hk2⟩
        have H3 := Lib.hid (And.intro (H.out.keep (HK1.out.trans' hk2)) ((HK.out.trans' (HK1.out.trans' hk2)).mono (fp' := own) fun _ _ q => q.elim))
        clear hk2
        go_wp2_with fail
        go_ret
        exact ⟨rfl, H3.out⟩
theorem tlift (h : Tu w own p E L) (g : Good E L) (x : Int) :
    Calls Tryd.prog 35 #[tptr p, .int .i64 x] w (TPost own p E (lift E L x) (errVal (liftErr E L x)) w) := by
  have hE := h.e2
  have hed := Lib.hid (tedge h x)
  have hha := Lib.hid (thas h x)
  by_cases hr1 : x < 0 ∨ (E : Int) ≤ x
  · have hev : eErr E x = 12 := by unfold eErr; rw [if_pos hr1]
    have hle : liftErr E L x = 12 := by unfold liftErr; rw [if_pos hr1]
    have hl : lift E L x = L := by unfold lift; rw [hle]; rfl
    rw [hev] at hed
    rw [hle, hl]
    have H := Lib.hid h
    clear h hev hle hl hha
    unfold tptr errVal errno TPost at *
    simp only [if_neg (show ¬ (12 : Nat) = 0 by decide)] at hed ⊢
    go_enter Tryd.func35, Tryd.ntmps35
    go_wp2_with fail
    refine (hed.out).mono ?_
    rintro e w1 ⟨rfl, rfl⟩
    go_wp2_with fail
    go_ret
    exact ⟨rfl, H.out, Keeps.refl _ _⟩
  · obtain ⟨n, rfl⟩ := Int.eq_ofNat_of_zero_le (show 0 ≤ x by omega)
    have hn : n < E := by omega
    have hev : eErr E n = 0 := by unfold eErr; rw [if_neg hr1]
    rw [hev] at hed
    have hle : liftErr E L n = if Stands L (2 * n) then 0 else 13 := by unfold liftErr; rw [if_neg hr1, Int.toNat_natCast]
    have hb : decide (0 ≤ (n : Int) ∧ (n : Int) < E ∧ Stands L (2 * (n : Int).toNat)) = decide (Stands L (2 * n)) := by
      rw [Bool.eq_iff_iff, decide_eq_true_eq, decide_eq_true_eq, Int.toNat_natCast]
      exact ⟨fun e => e.2.2, fun e => ⟨by omega, by omega, e⟩⟩
    rw [hb] at hha
    rw [hle]
    unfold lift
    rw [hle]
    by_cases hs : Stands L (2 * n)
    · rw [if_pos hs, if_pos rfl, Int.toNat_natCast]
      have hd : decide (Stands L (2 * n)) = true := decide_eq_true hs
      rw [hd] at hha
      have h1 := Lib.hid (fun W (hk : Keeps (fun _ => False) w W) => twP (h.keep hk) (x := 2 * (n : Int) + 1) (by omega) ((g.pair n).2 hs))
      have h2 := Lib.hid (fun W (hk : Tu W own p E (remL L (2 * n + 1))) => twP hk (x := 2 * (n : Int)) (by omega) (remL_stands.2 ⟨by omega, hs⟩))
      have hcm : remL (remL L (2 * n + 1)) (2 * n) = liftL L n := by
        unfold liftL remL
        rw [List.map_map, List.map_map]
        apply List.map_congr_left
        intro l _
        simp only [Function.comp, List.filter_filter]
        apply List.filter_congr
        intro y _
        rw [Bool.and_comm]
      rw [hcm] at h2
      clear h g hle hb hd hs hev hr1
      unfold tptr errVal errno TPost RetPost at *
      simp only [if_true] at hed ⊢
      go_enter Tryd.func35, Tryd.ntmps35
      go_wp2_with fail
      refine (hed.out).mono ?_
      rintro e w1 ⟨rfl, rfl⟩
      go_wp2_with fail
      refine (hha.out).mono ?_
      rintro e w1 ⟨rfl, hk1⟩
      have h1' := Lib.hid (h1.out _ hk1)
      have HK1 := Lib.hid hk1
      clear hk1
      go_wp2_with fail
      refine (h1'.out).mono ?_
      rintro e w2 ⟨rfl, ht, hk2⟩
      have h2' := Lib.hid (h2.out _ ht)
      have HK2 := Lib.hid ((HK1.out.mono fun _ _ q => q.elim).trans' hk2)
      clear hk2 ht
      go_wp2_with fail
      refine (h2'.out).mono ?_
      rintro e w3 ⟨rfl, ht, hk3⟩
      have H3 := Lib.hid (And.intro ht (HK2.out.trans' hk3))
      clear hk3 ht
      go_wp2_with fail
      go_ret
      exact ⟨rfl, H3.out⟩
    · rw [if_neg hs, if_neg (by decide)]
      have hd : decide (Stands L (2 * n)) = false := decide_eq_false hs
      rw [hd] at hha
      have H := Lib.hid h
      clear h g hle hb hd hs hev hr1
      unfold tptr errVal errno TPost RetPost at *
      simp only [if_true, if_neg (show ¬ (13 : Nat) = 0 by decide)] at hed ⊢
      go_enter Tryd.func35, Tryd.ntmps35
      go_wp2_with fail
      refine (hed.out).mono ?_
      rintro e w1 ⟨rfl, rfl⟩
      go_wp2_with fail
      refine (hha.out).mono ?_
      rintro e w1 ⟨rfl, hk1⟩
      have H1 := Lib.hid (And.intro (H.out.keep hk1) (hk1.mono (fp' := own) fun _ _ q => q.elim))
      clear hk1
      go_wp2_with fail
      go_ret
      exact ⟨rfl, H1.out⟩
end
/-- Numbers as values. -/
def nats (l : List Nat) : List Value := l.map fun (n : Nat) => Value.int .i64 (n : Int)
theorem nats_length (l : List Nat) : (nats l).length = l.length := by simp [nats]
theorem nats_get {l : List Nat} {i : Nat} (hi : i < l.length) : (nats l)[i]? = some (.int .i64 ((l.getD i 0 : Nat) : Int)) := by
  simp [nats, hi]
theorem nats_append (l m : List Nat) : nats (l ++ m) = nats l ++ nats m := by simp [nats]
theorem infoI : (Tryd.prog.info? 3).map (fun i => (i.zero, i.size, i.bytes)) = some (some (.int .i64 0), 1, 8) := by kernel_rfl
/-- A list told. -/
def LPost (l : List Nat) (k : Nat) (w : World) (e : Ending) (w' : World) : Prop :=
  ∃ v, e = .returned (.tuple #[v, errVal k]) ∧ w'.ownsRow w.heap.size 3 1 v l.length (nats l) ∧ Keeps (fun _ => False) w w'
theorem Keeps.cellF {w w' : World} (hk : Keeps (fun _ => False) w w') {a : Addr} {v : Value} (h : w.cell? a = some v) : w'.cell? a = some v :=
  (World.cell?_of_block (hk.block _ (World.block_lt_of_cell? w _ h) id)).trans h
theorem take_next {l : List Nat} {k : Nat} (hk : k < l.length) : l.take (k + 1) = l.take k ++ [l.getD k 0] := by
  rw [List.take_add_one, List.getElem?_eq_getElem hk, getD_at hk]; rfl
section
variable {w : World} {own : Nat → Prop} {p E : Nat} {L : List (List Nat)}
theorem tround_none (h : Tu w own p E L) (v : Int) (hv : vErr L v ≠ 0 ∨ L.getD v.toNat [] = []) :
    Calls Tryd.prog 95 #[tptr p, .int .i64 v] w (LPost [] (vErr L v) w) := by
  have hve := Lib.hid (tvertex h v)
  by_cases h0 : vErr L v = 0
  · have hnil : L.getD v.toNat [] = [] := hv.resolve_left (fun q => q h0)
    rw [h0] at hve ⊢
    have hr1 : ¬ (v < 0 ∨ (L.length : Int) ≤ v) := fun q => by unfold vErr at h0; rw [if_pos q] at h0; cases h0
    obtain ⟨n, rfl⟩ := Int.eq_ofNat_of_zero_le (show 0 ≤ v by omega)
    have hn : n < L.length := by omega
    rw [Int.toNat_natCast] at hnil
    have hl : L[n]? = some [] := by rw [some_getD hn, hnil]
    have hV := h.v2
    obtain ⟨⟨g1, g2, g3, D, ls, mn, hx, rfl, hr⟩, _⟩ := h
    have hm := hx.mny (hr.many n [] hl)
    have c2 := hx.c2
    clear hx hr hl hnil hv h0 hr1
    unfold LPost tptr errVal at *
    simp only [if_true] at hve ⊢
    go_enter Tryd.func95, Tryd.ntmps95
    go_wp2_with fail
    refine (hve.out).mono ?_
    rintro e w1 ⟨rfl, rfl⟩
    go_wp2_with fail
    try go_quiet (fail)
    go_wp2_with fail
    go_ret2
    exact ⟨_, rfl, World.ownsRow_nil _ _ _ _, by first | exact Keeps.refl _ _ | exact (Keeps.refl _ _).drewN _⟩
  · rw [errVal_pos h0] at hve
    unfold LPost
    rw [errVal_pos h0]
    generalize ((vErr L v : Nat) : Int) = kb at *
    clear hv h0 h
    unfold tptr at *
    go_enter Tryd.func95, Tryd.ntmps95
    go_wp2_with fail
    refine (hve.out).mono ?_
    rintro e w1 ⟨rfl, rfl⟩
    go_wp2_with fail
    go_ret2
    exact ⟨_, rfl, World.ownsRow_nil _ _ _ _, Keeps.refl _ _⟩
theorem tround_some (h : Tu w own p E L) {n : Nat} {l : List Nat} (hl : L[n]? = some l) (hn0 : l ≠ []) :
    Calls Tryd.prog 95 #[tptr p, .int .i64 (n : Int)] w (LPost (rnd l) 0 w) := by
  obtain ⟨i0', hi, hz0, hz1, hz2⟩ := info_parts infoI
  have hE := h.e2
  have hV := h.v2
  have hnl := (List.getElem?_eq_some_iff.1 hl).1
  have hve := Lib.hid (tvertex h (n : Int))
  have hv0 : vErr L n = 0 := by unfold vErr; rw [if_neg (by omega)]
  rw [hv0] at hve
  obtain ⟨⟨g1, g2, g3, D, ls, mn, hx, rfl, hr⟩, _⟩ := h
  have hm := hx.mny (hr.many n l hl)
  have c0 := hx.c0
  have c1 := hx.c1
  have c2 := hx.c2
  have hll := hr.len hl
  have hlp : 0 < l.length := by
    cases l with
    | nil => exact absurd rfl hn0
    | cons a l => simp
  have hnd := hr.wf.nd hl
  obtain ⟨y, hy, hls⟩ := hr.least1 n l hl hn0
  obtain ⟨i0, hi0, rfl⟩ := mem_getD hy
  obtain ⟨g, hg⟩ : ∃ g : Nat → Nat, ∀ j, l.getD j 0 = g j := ⟨_, fun _ => rfl⟩
  have hbd : ∀ j, j < l.length → g j < 2 * E := fun j hj => hg j ▸ hr.wf.bd hl (getD_mem hj)
  have hcell : ∀ j, j < l.length → w.cell? ⟨g1, g j * 3 + 1, none⟩ = some (.int .i32 ((g (sc l.length j) : Nat) : Int)) := fun j hj => by
    have := (hx.dart (hr.cyc n l hl j hj)).2.1
    simpa only [hg] using this
  have hinj : ∀ i j, i < l.length → j < l.length → g i = g j → i = j := fun i j hi hj e => getD_inj hnd hi hj (by rw [hg, hg]; exact e)
  have l0 := hx.lst hls
  rw [hg] at l0
  have hpb := hx.head.lt
  have hb1 := hx.b1.lt
  have hb2 := hx.b2.lt
  have HX := Lib.hid hx
  have HC := Lib.hid hcell
  have HBD := Lib.hid hbd
  have HINJ := Lib.hid hinj
  have hRND : Hid (∀ m, m < l.length → (∀ j, j < l.length → g m ≤ g j) → argm l = m) := fun m hm h => argm_eq hnd hm fun y hy => by
    obtain ⟨j, hj, rfl⟩ := mem_getD hy
    rw [hg, hg]; exact h j hj
  have hRG : Hid (∀ j, j < l.length → (rnd l).getD j 0 = g ((argm l + j) % l.length)) := fun j hj => by rw [rnd_getD hj, hg]
  have hRL : Hid ((rnd l).length = l.length) := rnd_length l
  have hAM : Hid (argm l < l.length) := argm_lt hn0
  have hbi0 := hbd i0 hi0
  have hci0 := hcell i0 hi0
  have hl00 : ((l.length : Int) == 0) = false := by rw [beq_eq_false_iff_ne]; omega
  have hs0 := hbd _ (sc_lt hi0)
  have hi0E : ((g i0 : Nat) : Int) < 2 * (E : Int) := by omega
  unfold LPost tptr errVal at *
  simp only [if_true] at hve ⊢
  clear hx hr hy hls hcell hbd hnd hv0 hinj hg hn0 hl
  generalize argm l = am at *
  generalize rnd l = R at *
  generalize l.length = N at *
  go_enter Tryd.func95, Tryd.ntmps95
  go_wp2_with fail
  refine (hve.out).mono ?_
  rintro e w1 ⟨rfl, rfl⟩
  go_wp2_with fail
  try go_quiet (fail)
  go_wp2_with fail
  go_loopg [7, 8] (N - 1) (fun q t x wr => ∃ k m, k + q = N ∧ 1 ≤ k ∧ m < N ∧ Hid (∀ j, j < k → g m ≤ g ((i0 + j) % N)) ∧ t = .int .i32 ((g m : Nat) : Int) ∧ x = .int .i32 ((g ((i0 + k) % N) : Nat) : Int) ∧ w = wr)
  case atStart =>
    refine ⟨1, i0, by omega, Nat.le_refl _, hi0, fun j hj => ?_, rfl, by rw [sc_mod hi0], rfl⟩
    obtain rfl : j = 0 := by omega
    rw [Nat.add_zero, Nat.mod_eq_of_lt hi0]
    exact Nat.le_refl _
  case round =>
    obtain ⟨k, m, hkq, hk1, hmN, HM, rfl, rfl, rfl⟩ := hrel
    have hjN : (i0 + k) % N < N := Nat.mod_lt _ hlp
    have hj1 := HBD.out _ hjN
    have hm1 := HBD.out _ hmN
    have hstep := Lib.hid (step_mod hi0 (show k ≤ N by omega))
    by_cases hkN : k = N
    · have e0 : (i0 + k) % N = i0 := by rw [hkN, Nat.add_mod_right, Nat.mod_eq_of_lt hi0]
      have hxe : ((g ((i0 + k) % N) : Nat) : Int) = ((g i0 : Nat) : Int) := by rw [e0]
      rw [hxe]
      have hneb : (((g i0 : Nat) : Int) != ((g i0 : Nat) : Int)) = false := by simp
      have hmin : am = m := hRND.out m hmN (fun j hj => by
        obtain ⟨q, hq, rfl⟩ := mod_all hi0 hj
        exact HM.out q (by omega))
      have hcm := HC.out m hmN
      have hmE : ((g m : Nat) : Int) < 2 * (E : Int) := by omega
      subst hmin
      have HT1 : Hid (R.take 1 = [g am]) := by
        have h1 := take_next (l := R) (k := 0) (by rw [hRL.out]; exact hlp)
        rw [hRG.out 0 hlp] at h1
        rw [show am + 0 = am from rfl, Nat.mod_eq_of_lt hmN] at h1
        exact Lib.hid h1
      have hst : Hid ((w.alloc (.cells #[.int .i64 ((g am : Nat) : Int)] 3)).ownsRow w.heap.size 3 1 (.slice (some ⟨w.heap.size, 0, none⟩) 1 1) 1 (nats (R.take 1)) ∧ Keeps (fun _ => False) w (w.alloc (.cells #[.int .i64 ((g am : Nat) : Int)] 3))) := by
        refine ⟨?_, (Keeps.refl _ _).alloc _⟩
        rw [HT1.out]
        exact World.ownsRow_lit w #[.int .i64 ((g am : Nat) : Int)] 1 (Nat.le_refl _) (by decide) rfl
      clear hjN hj1 hstep HM hxe e0 hkN
      go_wp2_with fail
      go_loopg [9, 10] (N - 1) (fun q o x wr => ∃ k, k + q = N ∧ 1 ≤ k ∧ x = .int .i32 ((g ((am + k) % N) : Nat) : Int) ∧ wr.ownsRow w.heap.size 3 1 o k (nats (R.take k)) ∧ Keeps (fun _ => False) w wr)
      case atStart => exact ⟨1, by omega, Nat.le_refl _, by rw [sc_mod hmN], hst.out⟩
      case round =>
        obtain ⟨k, hkq, hk1, rfl, hown, hkr⟩ := hrel
        clear hst c0 c1 c2 hm hcm hci0 hpb hb1 hb2
        have hjN : (am + k) % N < N := Nat.mod_lt _ hlp
        have hj1 := HBD.out _ hjN
        have HO := Lib.hid (And.intro hown hkr)
        have hws := hkr.size
        by_cases hkN : k = N
        · have e0 : (am + k) % N = am := by rw [hkN, Nat.add_mod_right, Nat.mod_eq_of_lt hmN]
          rw [e0]
          have hneb : (((g am : Nat) : Int) != ((g am : Nat) : Int)) = false := by simp
          clear hown hkr
          go_wp2_with fail
          go_ret2
          refine ⟨_, rfl, ?_, HO.out.2⟩
          have h1 := HO.out.1
          rw [hkN, List.take_of_length_le (by rw [hRL.out]; exact Nat.le_refl _)] at h1
          rw [hRL.out]
          exact h1
        · have hstep := step_mod hmN (show k ≤ N by omega)
          have hne : g ((am + k) % N) ≠ g am := fun e => mod_ne hmN hk1 (by omega) (HINJ.out _ _ hjN hmN e)
          have hcj := HC.out _ hjN
          rw [hstep] at hcj
          have HCJ := Lib.hid hcj
          have HTN : Hid (R.take (k + 1) = R.take k ++ [g ((am + k) % N)]) := by
            have h1 := take_next (l := R) (k := k) (by rw [hRL.out]; omega)
            rw [hRG.out k (by omega)] at h1
            exact Lib.hid h1
          generalize hgd : g ((am + k) % N) = d at *
          generalize hgd2 : g ((am + (k + 1)) % N) = d2 at *
          have HGD2 := Lib.hid hgd2
          have hneb : (((d : Nat) : Int) != ((g am : Nat) : Int)) = true := by rw [bne_iff_ne]; omega
          have hdE : ((d : Nat) : Int) < 2 * (E : Int) := by omega
          clear hgd hgd2 hjN hne hcj hkr hstep
          go_wp2_with (first | (at_builtin; refine wpList_app1 rfl _ _ 23 rfl w.heap.size 3 i0' (.int .i64 0) 1 8 Tryd.underlying23 hi hz0 hz1 hz2 rfl (by decide) _ _ _ rfl hown _ 1 1 [.int .i64 ((d : Nat) : Int)] 3 rfl rfl rfl ?c1 ?c2 ?c3 ?c4 ?_))
          case c1 => simp [Value.oneCell']
          case c2 => unfold maxLen; omega
          case c3 => omega
          case c4 => exact hws
          intro v1 w1 ho hk1' _ _ _
          have HO1 : Hid (w1.ownsRow w.heap.size 3 1 v1 (k + 1) (nats (R.take (k + 1))) ∧ Keeps (fun _ => False) w w1) := by
            refine ⟨?_, HO.out.2.trans hk1' fun i hi e => by have := (HO.out.1.lt i e).1; omega⟩
            rw [HTN.out, nats_append]
            exact ho
          have hx1 := HX.out.keep HO1.out.2
          have c0 := hx1.c0
          have hcj := HO1.out.2.cellF HCJ.out
          clear ho hk1' hx1 hown
          go_wp2_with fail
          go_roundg (gk - 1)
          case measure => omega
          case rel => exact ⟨k + 1, by omega, by omega, by rw [HGD2.out], HO1.out⟩
    · have hne : g ((i0 + k) % N) ≠ g i0 := fun e => mod_ne hi0 hk1 (by omega) (HINJ.out _ _ hjN hi0 e)
      have hcj := HC.out _ hjN
      rw [hstep.out] at hcj
      have hj2 := HBD.out _ (Nat.mod_lt (i0 + (k + 1)) hlp)
      generalize hgd : g ((i0 + k) % N) = d at *
      generalize hgd2 : g ((i0 + (k + 1)) % N) = d2 at *
      have HGD := Lib.hid hgd
      have HGD2 := Lib.hid hgd2
      have hneb : (((d : Nat) : Int) != ((g i0 : Nat) : Int)) = true := by rw [bne_iff_ne]; omega
      have hdE : ((d : Nat) : Int) < 2 * (E : Int) := by omega
      clear hgd hgd2 hjN hne
      have HMk : ∀ m', g m' ≤ g m → g m' ≤ d → Hid (∀ j, j < k + 1 → g m' ≤ g ((i0 + j) % N)) := fun m' h1 h2 j hj => by
        by_cases e : j = k
        · subst e; rw [HGD.out]; exact h2
        · exact Nat.le_trans h1 (HM.out j (by omega))
      by_cases hdm : d < g m
      · have hnew := HMk ((i0 + k) % N) (by rw [HGD.out]; omega) (by rw [HGD.out]; exact Nat.le_refl _)
        clear HMk
        go_wp2_with fail
        go_roundg (gk - 1)
        case measure => omega
        case rel => exact ⟨k + 1, (i0 + k) % N, by omega, by omega, Nat.mod_lt _ hlp, hnew, by rw [HGD.out], by rw [HGD2.out], rfl⟩
      · have hnew := HMk m (Nat.le_refl _) (by omega)
        clear HMk
        go_wp2_with fail
        go_roundg (gk - 1)
        case measure => omega
        case rel => exact ⟨k + 1, m, by omega, by omega, hmN, hnew, rfl, by rw [HGD2.out], rfl⟩
end
theorem infoD : (Tryd.prog.info? 96).map (fun i => (i.zero, i.size, i.bytes)) = some (some (.agg #[.int .i32 0, .int .i32 0, .int .i32 0]), 3, 12) := by kernel_rfl
theorem info32 : (Tryd.prog.info? 21).map (fun i => (i.zero, i.size, i.bytes)) = some (some (.int .i32 0), 1, 4) := by kernel_rfl
/-- The first j told -1. -/
def newD (n j : Nat) : List Dart := (List.range n).map fun i => (if i < j then -1 else 0, 0, 0)
def newL (n j : Nat) : List Int := (List.range n).map fun i => if i < j then -1 else 0
theorem newD_length (n j : Nat) : (newD n j).length = n := by simp [newD]
theorem newL_length (n j : Nat) : (newL n j).length = n := by simp [newL]
theorem newD_get {n j i : Nat} (hi : i < n) : (newD n j)[i]? = some (if i < j then -1 else 0, 0, 0) := by simp [newD, hi]
theorem newL_get {n j i : Nat} (hi : i < n) : (newL n j)[i]? = some (if i < j then -1 else 0) := by simp [newL, hi]
theorem newD_step (n j : Nat) : setO (newD n j) j (-1) = newD n (j + 1) := by
  apply List.ext_getElem?
  intro i
  rw [setO_get]
  by_cases hi : i < n
  · rw [newD_get hi, newD_get hi]
    by_cases e : j = i
    · subst e; simp
    · rw [if_neg e]
      by_cases h : i < j
      · rw [if_pos h, if_pos (by omega)]
      · rw [if_neg h, if_neg (by omega)]
  · have e1 : (newD n j)[i]? = none := List.getElem?_eq_none (by rw [newD_length]; omega)
    have e2 : (newD n (j + 1))[i]? = none := List.getElem?_eq_none (by rw [newD_length]; omega)
    rw [e1, e2]; simp
theorem newL_step (n j : Nat) : (newL n j).set j (-1) = newL n (j + 1) := by
  apply List.ext_getElem?
  intro i
  by_cases hi : i < n
  · rw [List.getElem?_set, newL_get hi, newL_get hi]
    by_cases e : j = i
    · subst e; simp [newL_length, hi]
    · rw [if_neg e]
      by_cases h : i < j
      · rw [if_pos h, if_pos (by omega)]
      · rw [if_neg h, if_neg (by omega)]
  · rw [List.getElem?_eq_none (by rw [List.length_set, newL_length]; omega), List.getElem?_eq_none (by rw [newL_length]; omega)]
theorem zeros_D (n : Nat) : madeCells #[.int .i32 0, .int .i32 0, .int .i32 0] (n * 3) = (dVals (newD n 0)).toArray := by
  apply Array.ext
  · simp [madeCells, dVals_length, newD_length]
  · intro i h1 h2
    have hi : i < n * 3 := by simpa [madeCells] using h1
    have hq : i / 3 < n := by omega
    obtain ⟨g0, g1, g2⟩ := dVals_get (newD_get (j := 0) hq)
    simp only [Nat.not_lt_zero, if_false] at g0 g1 g2
    have h3 : i % 3 < 3 := Nat.mod_lt _ (by decide)
    have e : (dVals (newD n 0)).toArray[i]? = some (.int .i32 0) := by
      rcases (show i = i / 3 * 3 ∨ i = i / 3 * 3 + 1 ∨ i = i / 3 * 3 + 2 by omega) with h | h | h
      · rw [h]; exact g0
      · rw [h]; exact g1
      · rw [h]; exact g2
    have e2 := (Array.getElem?_eq_some_iff.1 e).2
    rw [e2]
    have h4 : i % 3 = 0 ∨ i % 3 = 1 ∨ i % 3 = 2 := by omega
    simp only [madeCells, Array.getElem_ofFn]
    rcases h4 with h | h | h <;> simp [h]
theorem zeros_L (n : Nat) : madeCells #[.int .i32 0] n = (i32s (newL n 0)).toArray := by
  rw [madeCells_one]
  congr 1
  apply List.ext_getElem
  · simp [i32s, newL]
  · intro i h1 h2
    simp [i32s, newL]
theorem Rel.new (V E : Nat) : Rel E (List.replicate V []) (newD (2 * E) (2 * E)) (newL V V) (newL V 0) := by
  have hg := Good.new E V
  have hns : ∀ d, ¬ Stands (List.replicate V []) d := fun d hd => by
    obtain ⟨u, l, hu, hm⟩ := stands_iff.1 hd
    rw [List.getElem?_replicate] at hu
    split at hu
    · cases hu; simp at hm
    · cases hu
  have hrep : ∀ (v : Nat) (l : List Nat), (List.replicate V ([] : List Nat))[v]? = some l → v < V ∧ l = [] := fun v l h => by
    rw [List.getElem?_replicate] at h
    split at h
    · cases h; exact ⟨by assumption, rfl⟩
    · cases h
  refine ⟨hg.toWF, newD_length _ _, by simp [newL_length], by simp [newL_length], fun v l hv i hi => ?_, fun d hd _ => ?_, fun v hv => ?_, fun v l hv hl => ?_, fun v l hv => ?_⟩
  · obtain ⟨_, rfl⟩ := hrep v l hv; simp at hi
  · exact ⟨0, 0, by rw [newD_get hd, if_pos hd]⟩
  · obtain ⟨h, _⟩ := hrep v _ hv
    rw [newL_get h, if_pos h]
  · exact absurd (hrep v l hv).2 hl
  · obtain ⟨h, rfl⟩ := hrep v l hv
    rw [newL_get h]; rfl
/-- New turns. -/
def NewPost (V E : Nat) (w : World) (e : Ending) (w' : World) : Prop :=
  ∃ p own, e = .returned (.tuple #[tptr p, .nilIface]) ∧ Tu w' own p E (List.replicate V []) ∧ (∀ k, own k → w.heap.size ≤ k) ∧ Keeps (fun _ => False) w w'
def NewRel (w : World) (p g1 g2 g3 E V : Nat) (D : List Dart) (ls : List Int) (wr : World) : Prop :=
  TX wr p g1 g2 g3 E V D ls (newL V 0) ∧ (∀ k, TX.own p g1 g2 g3 k → w.heap.size ≤ k) ∧ Keeps (fun _ => False) w wr
theorem Keeps.setNew {a w : World} (h : Keeps (fun _ => False) a w) {b : Nat} (hb : a.heap.size ≤ b) (i : Nat) (u : Value) : Keeps (fun _ => False) a (w.setCell ⟨b, i, none⟩ u) := h.setCell _ _ fun q => absurd q (Nat.not_lt.2 hb)
theorem NewRel.stepD {w wr : World} {p g1 g2 g3 E V j n : Nat} {ls : List Int} (h : NewRel w p g1 g2 g3 E V (newD n j) ls wr) : NewRel w p g1 g2 g3 E V (newD n (j + 1)) ls (wr.setCell ⟨g1, j * 3, none⟩ (.int .i32 (-1))) := by
  refine ⟨?_, h.2.1, h.2.2.setNew (h.2.1 g1 (.inr (.inl rfl))) _ _⟩
  rw [← newD_step]
  exact h.1.setO j (-1)
theorem NewRel.stepL {w wr : World} {p g1 g2 g3 E V j n : Nat} {D : List Dart} (h : NewRel w p g1 g2 g3 E V D (newL n j) wr) : NewRel w p g1 g2 g3 E V D (newL n (j + 1)) (wr.setCell ⟨g2, j, none⟩ (.int .i32 (-1))) := by
  refine ⟨?_, h.2.1, h.2.2.setNew (h.2.1 g2 (.inr (.inr (.inl rfl)))) _ _⟩
  rw [← newL_step]
  exact h.1.setL j (-1)
theorem Blk.newAt (w : World) (cs : Array Value) (t : TypeId) {b : Nat} (hb : b = w.heap.size) : Blk (w.alloc (.cells cs t)) b cs t := hb ▸ Blk.new w cs t
theorem newRel_mk {w W : World} {p g1 g2 g3 E V : Nat} (h : Blk W p #[.slice (some ⟨g1, 0, none⟩) (2 * E) (2 * E), .slice (some ⟨g2, 0, none⟩) V V, .slice (some ⟨g3, 0, none⟩) V V] 100)
    (h1 : Blk W g1 (dVals (newD (2 * E) 0)).toArray 96) (h2 : Blk W g2 (i32s (newL V 0)).toArray 21) (h3 : Blk W g3 (i32s (newL V 0)).toArray 21)
    (d : p ≠ g1 ∧ p ≠ g2 ∧ p ≠ g3 ∧ g1 ≠ g2 ∧ g1 ≠ g3 ∧ g2 ≠ g3) (o : ∀ k, TX.own p g1 g2 g3 k → w.heap.size ≤ k) (hk : Keeps (fun _ => False) w W) :
    Hid (∃ p' g1 g2 g3, Value.pointer (some ⟨p, 0, none⟩) = .pointer (some ⟨p', 0, none⟩) ∧ NewRel w p' g1 g2 g3 E V (newD (2 * E) 0) (newL V 0) W) := ⟨p, g1, g2, g3, rfl, ⟨h, h1, h2, h3, d⟩, o, hk⟩
set_option maxHeartbeats 1000000 in
theorem tnew (V E : Nat) (w : World) (hV1 : 1 ≤ V) (hV : V ≤ 1048576) (hE1 : 1 ≤ E) (hE : E ≤ 1048576) : Calls Tryd.prog 39 #[.int .i64 (V : Int), .int .i64 (E : Int)] w (NewPost V E w) := by
  obtain ⟨i0, hi, hz0, hz1, hz2⟩ := info_parts infoD
  obtain ⟨j0, hj, hy0, hy1, hy2⟩ := info_parts info32
  have hmkD : ∀ W, (Instr.makeSlice 97 (.int .i64 (2 * (E : Int))) (.int .i64 (2 * (E : Int)))).run Tryd.prog W = .ok (.slice (some ⟨W.heap.size, 0, none⟩) (2 * E) (2 * E)) (W.alloc (.cells (dVals (newD (2 * E) 0)).toArray 96)) := fun W => by
    have := run_make (P := Tryd.prog) W 97 96 i0 _ Tryd.underlying97 hi hz0 .i64 .i64 (2 * (E : Int)) (2 * (E : Int)) (by omega) (Int.le_refl _) (by rw [hz2]; omega) (by omega)
    rw [this, hz1, show (2 * (E : Int)).toNat = 2 * E by omega, show (Value.agg #[.int .i32 0, .int .i32 0, .int .i32 0]).cells = #[.int .i32 0, .int .i32 0, .int .i32 0] from rfl, zeros_D]
  have hmkL : ∀ W, (Instr.makeSlice 98 (.int .i64 (V : Int)) (.int .i64 (V : Int))).run Tryd.prog W = .ok (.slice (some ⟨W.heap.size, 0, none⟩) V V) (W.alloc (.cells (i32s (newL V 0)).toArray 21)) := fun W => by
    have := run_make (P := Tryd.prog) W 98 21 j0 _ Tryd.underlying98 hj hy0 .i64 .i64 (V : Int) (V : Int) (by omega) (Int.le_refl _) (by rw [hy2]; omega) (by omega)
    rw [this, hy1, Int.toNat_natCast, Nat.mul_one, show (Value.int .i32 0).cells = #[.int .i32 0] from rfl, zeros_L]
  have h1 : decide ((V : Int) < 1) = false := by simp; omega
  have h2 : decide ((1048576 : Int) < (V : Int)) = false := by simp; omega
  have h3 : decide ((E : Int) < 1) = false := by simp; omega
  have h4 : decide ((1048576 : Int) < (E : Int)) = false := by simp; omega
  clear hi hz0 hz1 hz2 hj hy0 hy1 hy2 i0 j0
  go_enter Tryd.func39, Tryd.ntmps39
  go_upto_region 3 with fail
  go_cut [6] (fun t wx => Hid (∃ p g1 g2 g3, t = .pointer (some ⟨p, 0, none⟩) ∧ NewRel w p g1 g2 g3 E V (newD (2 * E) 0) (newL V 0) wx))
  case first =>
    go_region
    all_goals
      go_wp2_with fail
      go_meet
      refine newRel_mk (Blk.drew (Blk.newAt _ _ _ (by simp))) ?_ ?_ ?_ ?_ ?_ ?_
      rotate_left 3
      · simp; omega
      · rintro k (rfl | rfl | rfl | rfl) <;> omega
      · exact ((((((Keeps.refl _ _).alloc _).alloc _).alloc _).alloc _).drew)
      all_goals (refine Blk.drew ?_; repeat (first | (refine Blk.newAt _ _ _ ?_; simp; done) | refine Blk.alloc ?_ _))
  case rest =>
    obtain ⟨p, g1, g2, g3, rfl, hn⟩ := hcut.out
    have HN := Lib.hid hn
    have c0 := hn.1.c0
    clear hcut hmkD hmkL h1 h2 h3 h4 hn
    go_wp2_with fail
    go_loopw [38] (fun i wr => ∃ j : Nat, j ≤ 2 * E ∧ i = .int .i64 (j : Int) ∧ Hid (NewRel w p g1 g2 g3 E V (newD (2 * E) j) (newL V 0) wr)) (fun i _ => 2 * E - (intOf i).toNat)
    case atStart => exact ⟨0, Nat.zero_le _, rfl, HN⟩
    case round =>
      obtain ⟨j, hj, rfl, HR⟩ := hrel
      have c0 := HR.out.1.c0
      have c1 := HR.out.1.c1
      by_cases hlt : j < 2 * E
      · obtain ⟨q0, _, _⟩ := HR.out.1.dart (newD_get (j := j) hlt)
        have f0 := HR.out.1.f1 (j * 3)
        have hlE : (j : Int) < 2 * (E : Int) := by omega
        have HS := Lib.hid HR.out.stepD
        go_wp2_with fail
        refine ⟨⟨j + 1, hlt, by go_num, HS.out⟩, by simp [intOf]; omega⟩
      · obtain rfl : j = 2 * E := by omega
        have hlE : decide (2 * (E : Int) < 2 * (E : Int)) = false := by simp
        clear HN
        go_wp2_with fail
        go_loopw [54] (fun i wr => ∃ j : Nat, j ≤ V ∧ i = .int .i64 (j : Int) ∧ Hid (NewRel w p g1 g2 g3 E V (newD (2 * E) (2 * E)) (newL V j) wr)) (fun i _ => V - (intOf i).toNat)
        case atStart => exact ⟨0, Nat.zero_le _, rfl, HR⟩
        case round =>
          clear HR c0 c1
          obtain ⟨j, hj, rfl, HR⟩ := hrel
          have c1 := HR.out.1.c1
          by_cases hlt : j < V
          · have q0 := HR.out.1.lst (newL_get (j := j) hlt)
            have f0 := HR.out.1.f2 j
            have HS := Lib.hid HR.out.stepL
            go_wp2_with fail
            refine ⟨⟨j + 1, hlt, by go_num, HS.out⟩, by simp [intOf]; omega⟩
          · obtain rfl : j = V := by omega
            go_wp2_with fail
            go_ret2
            refine ⟨p, _, rfl, ⟨⟨g1, g2, g3, _, _, _, by rw [List.length_replicate]; exact HR.out.1, rfl, Rel.new _ _⟩, hE1, hE, by rw [List.length_replicate]; exact hV1, by rw [List.length_replicate]; exact hV⟩, HR.out.2.1, HR.out.2.2⟩
theorem tnew_bad (v x : Int) (w : World) (h : v < 1 ∨ 1048576 < v ∨ x < 1 ∨ 1048576 < x) : Calls Tryd.prog 39 #[.int .i64 v, .int .i64 x] w (RetPost (.tuple #[.pointer none, errno 1]) w) := by
  unfold RetPost
  rcases (show v < 1 ∨ (1 ≤ v ∧ 1048576 < v) ∨ (1 ≤ v ∧ v ≤ 1048576 ∧ x < 1) ∨ (1 ≤ v ∧ v ≤ 1048576 ∧ 1 ≤ x ∧ 1048576 < x) by omega) with h1 | ⟨h1, h2⟩ | ⟨h1, h2, h3⟩ | ⟨h1, h2, h3, h4⟩
  · have d1 : decide (v < 1) = true := by simp; omega
    clear h
    go_enter Tryd.func39, Tryd.ntmps39
    go_wp2_with fail
    go_ret2
    exact ⟨rfl, Keeps.refl _ _⟩
  · have d1 : decide (v < 1) = false := by simp; omega
    have d2 : decide (1048576 < v) = true := by simp; omega
    clear h
    go_enter Tryd.func39, Tryd.ntmps39
    go_wp2_with fail
    go_ret2
    exact ⟨rfl, Keeps.refl _ _⟩
  · have d1 : decide (v < 1) = false := by simp; omega
    have d2 : decide (1048576 < v) = false := by simp; omega
    have d3 : decide (x < 1) = true := by simp; omega
    clear h
    go_enter Tryd.func39, Tryd.ntmps39
    go_wp2_with fail
    go_ret2
    exact ⟨rfl, Keeps.refl _ _⟩
  · have d1 : decide (v < 1) = false := by simp; omega
    have d2 : decide (1048576 < v) = false := by simp; omega
    have d3 : decide (x < 1) = false := by simp; omega
    have d4 : decide (1048576 < x) = true := by simp; omega
    clear h
    go_enter Tryd.func39, Tryd.ntmps39
    go_wp2_with fail
    go_ret2
    exact ⟨rfl, Keeps.refl _ _⟩
end Go.Proofs.YtdplphhlclhmfaaDoor
