/- turn: put. -/
import Derived.Test.YtjmkejkhpdhhbaaDoorTuC
namespace Go.Proofs.YtjmkejkhpdhhbaaDoor
open Go Go.RowKit
set_option linter.unusedVariables false
set_option linter.unusedSimpArgs false
set_option maxRecDepth 100000

theorem TX.drew {w : World} {p g1 g2 g3 E V : Nat} {D : List Dart} {ls mn : List Int} (h : TX w p g1 g2 g3 E V D ls mn) : TX w.drew p g1 g2 g3 E V D ls mn := h.keep ((Keeps.refl _ _).drew)
theorem TX.drewN {w : World} {p g1 g2 g3 E V : Nat} {D : List Dart} {ls mn : List Int} (h : TX w p g1 g2 g3 E V D ls mn) (n : Nat) : TX (w.drewN n) p g1 g2 g3 E V D ls mn := h.keep ((Keeps.refl _ _).drewN n)
theorem Rel.len {E : Nat} {L : List (List Nat)} {D : List Dart} {ls mn : List Int} (hr : Rel E L D ls mn) {n : Nat} {l : List Nat} (hl : L[n]? = some l) : l.length ≤ 2 * E := by
  have h1 : l.length ≤ (List.range (2 * E)).length := List.Nodup.length_le_of_subset (hr.wf.nd hl) (fun x hx => List.mem_range.2 (hr.wf.bd hl hx))
  simpa using h1
section
variable {w : World} {own : Nat → Prop} {p E : Nat} {L : List (List Nat)}
def TPost (own : Nat → Prop) (p E : Nat) (L : List (List Nat)) (v : Value) (w : World) (e : Ending) (w' : World) : Prop := e = .returned v ∧ Tu w' own p E L ∧ Keeps own w w'

set_option maxHeartbeats 1000000 in
theorem tput0 (h : Tu w own p E L) {d v : Nat} (hd : d < 2 * E) (hn : ¬ Stands L d) (hv : L[v]? = some []) :
    Calls Tryd.prog 60 #[tptr p, .int .i32 d, cval v (-1)] w (TPost own p E (putL L d v (-1)) (.tuple #[]) w) := by
  have hV := h.v2
  have hV1 := h.v1
  have hE := h.e2
  have hE1 := h.e1
  obtain ⟨⟨g1, g2, g3, D, ls, mn, hx, rfl, hr⟩, _⟩ := h
  have hvl := (List.getElem?_eq_some_iff.1 hv).1
  have hdd : d < D.length := by rw [hr.dl]; exact hd
  obtain ⟨q, hq⟩ : ∃ q, D[d]? = some q := ⟨_, List.getElem?_eq_getElem hdd⟩
  have HR := Lib.hid (hr.put0 hd hn hv (-1))
  have hx0 := hx.keep ((Keeps.refl _ w).alloc (.cells #[.int .i64 (v : Int), .int .i64 (-1)] 41))
  have HK0 := Lib.hid (((Keeps.refl (TX.own p g1 g2 g3) w).alloc (.cells #[.int .i64 (v : Int), .int .i64 (-1)] 41)))
  have HB : Hid (Blk (w.alloc (.cells #[.int .i64 (v : Int), .int .i64 (-1)] 41)) w.heap.size #[.int .i64 (v : Int), .int .i64 (-1)] 41) := Blk.new w _ _
  have hws : w.heap.size < (w.alloc (.cells #[.int .i64 (v : Int), .int .i64 (-1)] 41)).heap.size := by simp
  have hg1 := hx.b1.lt
  have hg2 := hx.b2.lt
  have hg3 := hx.b3.lt
  have hls := hr.least0 v hv
  have hmn := hr.many v [] hv
  unfold TPost tptr cval
  clear hr hx hn hv
  go_enter Tryd.func60, Tryd.ntmps60
  go_upto_region 1 with fail
  generalize w.alloc (.cells #[.int .i64 (v : Int), .int .i64 (-1)] 41) = w1 at *
  have k0 := HB.out.cell (i := 0)
  have k1 := HB.out.cell (i := 1)
  simp only [List.getElem?_toArray, List.getElem?_cons_zero, List.getElem?_cons_succ] at k0 k1
  have c0 := hx0.c0
  have c1 := hx0.c1
  have c2 := hx0.c2
  have l0 := hx0.lst hls
  have m0 := hx0.mny hmn
  have mf := hx0.f3 v
  go_wp2_with fail
  go_quiet (fail)
  go_wp2_with fail
  go_region
  have hx2 := (hx0.drewN (nq + 1)).setM v 1
  have HK2 := Lib.hid ((HK0.out.drewN (nq + 1)).setIn g3 v (.int .i32 1) (.inr (.inr (.inr rfl))))
  have HB2 := Lib.hid ((HB.out.drewN (nq + 1)).set_other ⟨g3, v, none⟩ (.int .i32 1) (Nat.ne_of_gt hg3))
  clear k0 k1 c0 c1 c2 l0 m0 mf hx0 HB HK0
  generalize (w1.drewN (nq + 1)).setCell ⟨g3, v, none⟩ (.int .i32 1) = w2 at *
  have k0 := HB2.out.cell (i := 0)
  simp only [List.getElem?_toArray, List.getElem?_cons_zero, List.getElem?_cons_succ] at k0
  have c0 := hx2.c0
  have c1 := hx2.c1
  obtain ⟨q0, q1, q2⟩ := hx2.dart hq
  have f0 := hx2.f1 (d * 3)
  have f1 := hx2.f1 (d * 3 + 1)
  have f2 := hx2.f1 (d * 3 + 2)
  have hdE : (d : Int) < 2 * (E : Int) := by omega
  go_wp2_with fail
  go_region
  have hx3 := (hx2.set3 d v d d).drew
  have HK3 := Lib.hid ((((HK2.out.setIn g1 (d * 3) (.int .i32 v) (.inr (.inl rfl))).setIn g1 (d * 3 + 1) (.int .i32 d) (.inr (.inl rfl))).setIn g1 (d * 3 + 2) (.int .i32 d) (.inr (.inl rfl))).drew)
  have HB3 := Lib.hid ((((HB2.out.set_other ⟨g1, d * 3, none⟩ (.int .i32 v) (Nat.ne_of_gt hg1)).set_other ⟨g1, d * 3 + 1, none⟩ (.int .i32 d) (Nat.ne_of_gt hg1)).set_other ⟨g1, d * 3 + 2, none⟩ (.int .i32 d) (Nat.ne_of_gt hg1)).drew)
  clear k0 c0 c1 q0 q1 q2 f0 f1 f2 hx2 HB2 HK2
  generalize (((w2.setCell ⟨g1, d * 3, none⟩ (.int .i32 v)).setCell ⟨g1, d * 3 + 1, none⟩ (.int .i32 d)).setCell ⟨g1, d * 3 + 2, none⟩ (.int .i32 d)).drew = w3 at *
  have k0 := HB3.out.cell (i := 0)
  simp only [List.getElem?_toArray, List.getElem?_cons_zero, List.getElem?_cons_succ] at k0
  have c1 := hx3.c1
  have l0 := hx3.lst hls
  have lf := hx3.f2 v
  go_wp2_with fail
  go_region
  have hx4 := Lib.hid ((hx3.setL v d).drew)
  have HK4 := Lib.hid ((HK3.out.setIn g2 v (.int .i32 d) (.inr (.inr (.inl rfl)))).drew)
  clear k0 c1 l0 lf hx3 HB3 HK3
  go_wp2_with fail
  refine bodyPost_ret (results_none rfl _ _ _) rfl ?_
  exact ⟨rfl, ⟨⟨g1, g2, g3, _, _, _, by rw [putL_length]; exact hx4.out, rfl, HR.out⟩, hE1, hE, by rw [putL_length]; exact hV1, by rw [putL_length]; exact hV⟩, HK4.out⟩

set_option maxHeartbeats 2000000 in
theorem tput1 (h : Tu w own p E L) {d v k : Nat} {l : List Nat} (b : Int) (hd : d < 2 * E) (hn : ¬ Stands L d) (hv : L[v]? = some l) (hk : k < l.length) (hb : b = (l.getD k 0 : Nat) ∨ b = -1 ∧ k = 0 ∧ l.length = 1) :
    Calls Tryd.prog 60 #[tptr p, .int .i32 d, cval v b] w (TPost own p E (putL L d v (l.getD k 0 : Nat)) (.tuple #[]) w) := by
  have hV := h.v2
  have hV1 := h.v1
  have hE := h.e2
  have hE1 := h.e1
  obtain ⟨⟨g1, g2, g3, D, ls, mn, hx, rfl, hr⟩, _⟩ := h
  have hvl := (List.getElem?_eq_some_iff.1 hv).1
  have hdd : d < D.length := by rw [hr.dl]; exact hd
  obtain ⟨q, hq⟩ : ∃ q, D[d]? = some q := ⟨_, List.getElem?_eq_getElem hdd⟩
  have hqb := hr.cyc v l hv k hk
  have hqn := hr.cyc v l hv _ (sc_lt hk)
  have HR := Lib.hid (hr.put1 hd hn hv hk)
  have hx0 := hx.keep ((Keeps.refl _ w).alloc (.cells #[.int .i64 (v : Int), .int .i64 b] 41))
  have HK0 := Lib.hid (((Keeps.refl (TX.own p g1 g2 g3) w).alloc (.cells #[.int .i64 (v : Int), .int .i64 b] 41)))
  have HB : Hid (Blk (w.alloc (.cells #[.int .i64 (v : Int), .int .i64 b] 41)) w.heap.size #[.int .i64 (v : Int), .int .i64 b] 41) := Blk.new w _ _
  have hws : w.heap.size < (w.alloc (.cells #[.int .i64 (v : Int), .int .i64 b] 41)).heap.size := by simp
  have hg1 := hx.b1.lt
  have hg2 := hx.b2.lt
  have hg3 := hx.b3.lt
  have hmn := hr.many v l hv
  have hll := hr.len hv
  have hbs : l.getD k 0 < 2 * E := hr.wf.bd hv (getD_mem hk)
  have hns : l.getD (sc l.length k) 0 < 2 * E := hr.wf.bd hv (getD_mem (sc_lt hk))
  have hbd : l.getD k 0 ≠ d := fun e => hn (stands_at hv (e ▸ getD_mem hk))
  have hnd : l.getD (sc l.length k) 0 ≠ d := fun e => hn (stands_at hv (e ▸ getD_mem (sc_lt hk)))
  have hls : b = -1 → ls[v]? = some ((l.getD k 0 : Nat) : Int) := by
    intro e
    rcases hb with hb | ⟨_, rfl, hl1⟩
    · omega
    · obtain ⟨x, hx, hx2⟩ := hr.least1 v l hv (by rintro rfl; simp at hl1)
      rw [hx2]
      match l, hl1 with
      | [y], _ => simp at hx; subst hx; rfl
  have hqb2 : D.set d ((v : Int), ((l.getD (sc l.length k) 0 : Nat) : Int), ((l.getD k 0 : Nat) : Int)) = D.set d ((v : Int), ((l.getD (sc l.length k) 0 : Nat) : Int), ((l.getD k 0 : Nat) : Int)) := rfl
  have hqb3 : (D.set d ((v : Int), ((l.getD (sc l.length k) 0 : Nat) : Int), ((l.getD k 0 : Nat) : Int)))[l.getD k 0]? = some ((v : Int), ((l.getD (sc l.length k) 0 : Nat) : Int), ((l.getD (pc l.length k) 0 : Nat) : Int)) := by
    rw [set_get hdd, if_neg hbd]; exact hqb
  obtain ⟨qn, hqn3⟩ : ∃ q, (D.set d ((v : Int), ((l.getD (sc l.length k) 0 : Nat) : Int), ((l.getD k 0 : Nat) : Int)))[l.getD (sc l.length k) 0]? = some q := ⟨_, by rw [set_get hdd, if_neg hnd]; exact hqn⟩
  unfold TPost tptr cval
  have hV2 : (putL L d v ((l.getD k 0 : Nat) : Int)).length = L.length := putL_length _ _ _ _
  clear hr hx hn hqn hqb2
  generalize putL L d v ((l.getD k 0 : Nat) : Int) = L2 at *
  generalize hnx : l.getD (sc l.length k) 0 = nx at *
  generalize l.getD (pc l.length k) 0 = pv at *
  generalize hbe : l.getD k 0 = be at *
  generalize hlen : l.length = len at *
  clear hnx hbe hlen hv hk
  have hb' : b = be ∨ b = -1 := hb.imp_right (·.1)
  clear hb
  rcases hb' with rfl | rfl
  · go_enter Tryd.func60, Tryd.ntmps60
    go_upto_region 1 with fail
    generalize w.alloc (.cells #[.int .i64 (v : Int), .int .i64 be] 41) = w1 at *
    have k0 := HB.out.cell (i := 0)
    have k1 := HB.out.cell (i := 1)
    simp only [List.getElem?_toArray, List.getElem?_cons_zero, List.getElem?_cons_succ] at k0 k1
    have c0 := hx0.c0
    have c1 := hx0.c1
    have c2 := hx0.c2
    have m0 := hx0.mny hmn
    have mf := hx0.f3 v
    have hbE : ((be : Nat) : Int) < 2 * (E : Int) := by omega
    go_wp2_with fail
    go_region
    have hx2 := (hx0.setM v ((len : Int) + 1)).drew
    have HK2 := Lib.hid ((HK0.out.setIn g3 v (.int .i32 ((len : Int) + 1)) (.inr (.inr (.inr rfl)))).drew)
    have HB2 := Lib.hid ((HB.out.set_other ⟨g3, v, none⟩ (.int .i32 ((len : Int) + 1)) (Nat.ne_of_gt hg3)).drew)
    clear k0 k1 c0 c1 c2 m0 mf hx0 HB HK0
    generalize (w1.setCell ⟨g3, v, none⟩ (.int .i32 ((len : Int) + 1))).drew = w2 at *
    have k0 := HB2.out.cell (i := 0)
    simp only [List.getElem?_toArray, List.getElem?_cons_zero, List.getElem?_cons_succ] at k0
    have c0 := hx2.c0
    obtain ⟨b0, b1, b2⟩ := hx2.dart hqb
    obtain ⟨q0, q1, q2⟩ := hx2.dart hq
    simp only at b0 b1 b2
    have f0 := hx2.f1 (d * 3)
    have f1 := hx2.f1 (d * 3 + 1)
    have f2 := hx2.f1 (d * 3 + 2)
    have hdE : (d : Int) < 2 * (E : Int) := by omega
    go_wp2_with fail
    go_region
    have hx3 := (hx2.set3 d v nx be).drew
    have HK3 := Lib.hid ((((HK2.out.setIn g1 (d * 3) (.int .i32 v) (.inr (.inl rfl))).setIn g1 (d * 3 + 1) (.int .i32 nx) (.inr (.inl rfl))).setIn g1 (d * 3 + 2) (.int .i32 be) (.inr (.inl rfl))).drew)
    clear k0 c0 b0 b1 b2 q0 q1 q2 f0 f1 f2 hx2 HB2 HK2
    generalize (((w2.setCell ⟨g1, d * 3, none⟩ (.int .i32 v)).setCell ⟨g1, d * 3 + 1, none⟩ (.int .i32 nx)).setCell ⟨g1, d * 3 + 2, none⟩ (.int .i32 be)).drew = w3 at *
    have c0 := hx3.c0
    obtain ⟨b0, b1, b2⟩ := hx3.dart hqb3
    obtain ⟨n0, n1, n2⟩ := hx3.dart hqn3
    simp only at b0 b1 b2
    have f1 := hx3.f1 (be * 3 + 1)
    have f2 := hx3.f1 (nx * 3 + 2)
    have hnE : (nx : Int) < 2 * (E : Int) := by omega
    have hne1 : be * 3 + 1 ≠ nx * 3 + 2 := by omega
    have hne2 : nx * 3 + 2 ≠ be * 3 + 1 := by omega
    go_wp2_with fail
    go_region
    have hx4 := Lib.hid (((hx3.setN be d).setP nx d).drew)
    have HK4 := Lib.hid (((HK3.out.setIn g1 (be * 3 + 1) (.int .i32 d) (.inr (.inl rfl))).setIn g1 (nx * 3 + 2) (.int .i32 d) (.inr (.inl rfl))).drew)
    clear c0 b0 b1 b2 n0 n1 n2 f1 f2 hx3 HK3
    go_wp2_with fail
    go_end0
    exact ⟨rfl, ⟨⟨g1, g2, g3, _, _, _, by rw [hV2]; exact hx4.out, rfl, HR.out⟩, hE1, hE, by rw [hV2]; exact hV1, by rw [hV2]; exact hV⟩, HK4.out⟩
  · go_enter Tryd.func60, Tryd.ntmps60
    go_upto_region 1 with fail
    generalize w.alloc (.cells #[.int .i64 (v : Int), .int .i64 (-1)] 41) = w1 at *
    have k0 := HB.out.cell (i := 0)
    have k1 := HB.out.cell (i := 1)
    simp only [List.getElem?_toArray, List.getElem?_cons_zero, List.getElem?_cons_succ] at k0 k1
    have c0 := hx0.c0
    have c1 := hx0.c1
    have c2 := hx0.c2
    have l0 := hx0.lst (hls rfl)
    have m0 := hx0.mny hmn
    have mf := hx0.f3 v
    have hbE : ((be : Nat) : Int) < 2 * (E : Int) := by omega
    go_wp2_with fail
    go_quiet (fail)
    go_wp2_with fail
    go_region
    have hx2 := (hx0.drewN (nq + 1)).setM v ((len : Int) + 1)
    have HK2 := Lib.hid ((HK0.out.drewN (nq + 1)).setIn g3 v (.int .i32 ((len : Int) + 1)) (.inr (.inr (.inr rfl))))
    have HB2 := Lib.hid ((HB.out.drewN (nq + 1)).set_other ⟨g3, v, none⟩ (.int .i32 ((len : Int) + 1)) (Nat.ne_of_gt hg3))
    clear k0 k1 c0 c1 c2 l0 m0 mf hx0 HB HK0
    generalize (w1.drewN (nq + 1)).setCell ⟨g3, v, none⟩ (.int .i32 ((len : Int) + 1)) = w2 at *
    have k0 := HB2.out.cell (i := 0)
    simp only [List.getElem?_toArray, List.getElem?_cons_zero, List.getElem?_cons_succ] at k0
    have c0 := hx2.c0
    obtain ⟨b0, b1, b2⟩ := hx2.dart hqb
    obtain ⟨q0, q1, q2⟩ := hx2.dart hq
    simp only at b0 b1 b2
    have f0 := hx2.f1 (d * 3)
    have f1 := hx2.f1 (d * 3 + 1)
    have f2 := hx2.f1 (d * 3 + 2)
    have hdE : (d : Int) < 2 * (E : Int) := by omega
    go_wp2_with fail
    go_region
    have hx3 := (hx2.set3 d v nx be).drew
    have HK3 := Lib.hid ((((HK2.out.setIn g1 (d * 3) (.int .i32 v) (.inr (.inl rfl))).setIn g1 (d * 3 + 1) (.int .i32 nx) (.inr (.inl rfl))).setIn g1 (d * 3 + 2) (.int .i32 be) (.inr (.inl rfl))).drew)
    clear k0 c0 b0 b1 b2 q0 q1 q2 f0 f1 f2 hx2 HB2 HK2
    generalize (((w2.setCell ⟨g1, d * 3, none⟩ (.int .i32 v)).setCell ⟨g1, d * 3 + 1, none⟩ (.int .i32 nx)).setCell ⟨g1, d * 3 + 2, none⟩ (.int .i32 be)).drew = w3 at *
    have c0 := hx3.c0
    obtain ⟨b0, b1, b2⟩ := hx3.dart hqb3
    obtain ⟨n0, n1, n2⟩ := hx3.dart hqn3
    simp only at b0 b1 b2
    have f1 := hx3.f1 (be * 3 + 1)
    have f2 := hx3.f1 (nx * 3 + 2)
    have hnE : (nx : Int) < 2 * (E : Int) := by omega
    have hne1 : be * 3 + 1 ≠ nx * 3 + 2 := by omega
    have hne2 : nx * 3 + 2 ≠ be * 3 + 1 := by omega
    go_wp2_with fail
    go_region
    have hx4 := Lib.hid (((hx3.setN be d).setP nx d).drew)
    have HK4 := Lib.hid (((HK3.out.setIn g1 (be * 3 + 1) (.int .i32 d) (.inr (.inl rfl))).setIn g1 (nx * 3 + 2) (.int .i32 d) (.inr (.inl rfl))).drew)
    clear c0 b0 b1 b2 n0 n1 n2 f1 f2 hx3 HK3
    go_wp2_with fail
    go_end0
    exact ⟨rfl, ⟨⟨g1, g2, g3, _, _, _, by rw [hV2]; exact hx4.out, rfl, HR.out⟩, hE1, hE, by rw [hV2]; exact hV1, by rw [hV2]; exact hV⟩, HK4.out⟩
end
end Go.Proofs.YtjmkejkhpdhhbaaDoor
