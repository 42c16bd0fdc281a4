/- unite: groups in memory; find, Same, Least. -/
import Derived.Test.YtdplphhlclhmfaaDoorKg
namespace Go.Proofs.YtdplphhlclhmfaaDoor
open Go Go.RowKit
set_option linter.unusedVariables false
set_option linter.unusedSimpArgs false
set_option maxRecDepth 100000

/-- Numbers without a sign, as 32 bits. -/
def i32n (l : List Nat) : List Value := l.map fun (n : Nat) => Value.int .i32 (n : Int)
theorem i32n_length (l : List Nat) : (i32n l).length = l.length := by simp [i32n]
theorem i32n_get {l : List Nat} {i : Nat} (h : i < l.length) : (i32n l).toArray[i]? = some (.int .i32 ((l.getD i 0 : Nat) : Int)) := by simp [i32n, h]
theorem i32n_set (l : List Nat) (i x : Nat) : (i32n l).toArray.setIfInBounds i (.int .i32 (x : Int)) = (i32n (l.set i x)).toArray := by simp [i32n, List.map_set]
/-- Groups: their head at p, and four lists. -/
structure UX (w : World) (p a s t Bs n k : Nat) (A S T : List Nat) (vs : Value) : Prop where
  head : Blk w p #[.slice (some ⟨a, 0, none⟩) n n, .slice (some ⟨s, 0, none⟩) n n, .slice (some ⟨t, 0, none⟩) n n, vs] 179
  b1 : Blk w a (i32n A).toArray 21
  b2 : Blk w s (i32n S).toArray 21
  b3 : Blk w t (i32n T).toArray 21
  d1 : p ≠ a ∧ p ≠ s ∧ p ≠ t ∧ a ≠ s ∧ a ≠ t ∧ s ≠ t
  lo : p < Bs ∧ a < Bs ∧ s < Bs ∧ t < Bs
  st : ∃ xs, w.ownsRow Bs 181 3 vs k xs
  Bw : Bs ≤ w.heap.size
def UX.own (p a s t : Nat) (vs : Value) (q : Nat) : Prop := q = p ∨ q = a ∨ q = s ∨ q = t ∨ vs.ownBlock = some q
section
variable {w w' : World} {p a s t Bs n k : Nat} {A S T : List Nat} {vs : Value}
theorem UX.kept {fp : Nat → Prop} (h : UX w p a s t Bs n k A S T vs) (hk : Keeps fp w w') (hd : ∀ q, UX.own p a s t vs q → ¬ fp q) : UX w' p a s t Bs n k A S T vs := by
  obtain ⟨xs, hx⟩ := h.st
  exact ⟨h.head.kept hk (hd _ (.inl rfl)), h.b1.kept hk (hd _ (.inr (.inl rfl))), h.b2.kept hk (hd _ (.inr (.inr (.inl rfl)))), h.b3.kept hk (hd _ (.inr (.inr (.inr (.inl rfl))))), h.d1, h.lo,
    ⟨xs, ownsRow_kept hx hk fun q e => hd _ (.inr (.inr (.inr (.inr e))))⟩, Nat.le_trans h.Bw hk.size⟩
theorem UX.keep (h : UX w p a s t Bs n k A S T vs) (hk : Keeps (fun _ => False) w w') : UX w' p a s t Bs n k A S T vs := h.kept hk fun _ _ => id
theorem UX.lt (h : UX w p a s t Bs n k A S T vs) (q : Nat) (hq : UX.own p a s t vs q) : q < w.heap.size := by
  obtain ⟨xs, hx⟩ := h.st
  rcases hq with rfl | rfl | rfl | rfl | e
  · exact h.head.lt
  · exact h.b1.lt
  · exact h.b2.lt
  · exact h.b3.lt
  · exact (hx.lt q e).2
theorem UX.heads (h : UX w p a s t Bs n k A S T vs) : w.cell? ⟨p, 0, none⟩ = some (.slice (some ⟨a, 0, none⟩) n n) ∧ w.cell? ⟨p, 1, none⟩ = some (.slice (some ⟨s, 0, none⟩) n n) ∧ w.cell? ⟨p, 2, none⟩ = some (.slice (some ⟨t, 0, none⟩) n n) ∧ w.cell? ⟨p, 3, none⟩ = some vs := by
  have c0 := h.head.cell (i := 0)
  have c1 := h.head.cell (i := 1)
  have c2 := h.head.cell (i := 2)
  have c3 := h.head.cell (i := 3)
  simp only [List.getElem?_toArray, List.getElem?_cons_zero, List.getElem?_cons_succ] at c0 c1 c2 c3
  exact ⟨c0, c1, c2, c3⟩
end
/-- Groups that tell a list of least members. -/
def Uf (w : World) (own : Nat → Prop) (p n k : Nat) (g : List Nat) : Prop :=
  ∃ a s t Bs k2 A S T vs rt hgt H, UX w p a s t Bs n k2 A S T vs ∧ URel n A S T g rt hgt H ∧ own = UX.own p a s t vs ∧ n ≤ 1048576 ∧ k2 ≤ k ∧ k ≤ 2097152
section
variable {w w' : World} {own : Nat → Prop} {p n k : Nat} {g : List Nat}
theorem Uf.kept {fp : Nat → Prop} (h : Uf w own p n k g) (hk : Keeps fp w w') (hd : ∀ q, own q → ¬ fp q) : Uf w' own p n k g := by
  obtain ⟨a, s, t, Bs, k2, A, S, T, vs, rt, hgt, H, hx, hr, rfl, h1, h2⟩ := h
  exact ⟨a, s, t, Bs, k2, A, S, T, vs, rt, hgt, H, hx.kept hk hd, hr, rfl, h1, h2⟩
theorem Uf.keep (h : Uf w own p n k g) (hk : Keeps (fun _ => False) w w') : Uf w' own p n k g := h.kept hk fun _ _ => id
theorem Uf.lt (h : Uf w own p n k g) (q : Nat) (hq : own q) : q < w.heap.size := by
  obtain ⟨a, s, t, Bs, k2, A, S, T, vs, rt, hgt, H, hx, hr, rfl, h1, h2⟩ := h
  exact hx.lt q hq
end
section
variable {w : World} {p a s t Bs n k : Nat} {A S T g : List Nat} {vs : Value} {rt hgt : Nat → Nat} {H : Nat}
set_option maxHeartbeats 2000000 in
theorem ufind (h : UX w p a s t Bs n k A S T vs) (hr : URel n A S T g rt hgt H) (hn : n ≤ 1048576) {x : Nat} (hx : x < n) :
    Calls Tryd.prog 106 #[tptr p, .int .i64 (x : Int)] w (RetPost (.tuple #[.int .i32 ((rt x : Nat) : Int), .nilIface]) w) := by
  have hxI : (x : Int) < (n : Int) := by omega
  have h1 : decide ((x : Int) < 0) = false := by simp
  have h2 : decide ((n : Int) ≤ (x : Int)) = false := by simp; exact hx
  obtain ⟨c0, _, _, _⟩ := h.heads
  have HC : Hid (∀ v, v < n → w.cell? ⟨a, v, none⟩ = some (.int .i32 ((A.getD v 0 : Nat) : Int))) := Lib.hid fun v hv => by rw [h.b1.cell, i32n_get (by rw [hr.la]; exact hv)]
  have HS := Lib.hid hr.self
  have HT := Lib.hid hr.step
  have HU := Lib.hid hr.up
  have HB := Lib.hid hr.bound
  unfold RetPost tptr
  clear h hr
  go_enter Tryd.func106, Tryd.ntmps106
  go_wp2_with fail
  go_loopw [6] (fun v wr => ∃ (y : Nat), y < n ∧ v = .int .i32 (y : Int) ∧ Hid (rt y = rt x) ∧ wr = w) (fun v _ => H + 1 - hgt (intOf v).toNat)
  case atStart => exact ⟨x, hx, rfl, Lib.hid rfl, rfl⟩
  case round =>
    obtain ⟨y, hy, rfl, HR, rfl⟩ := hrel
    have hc := HC.out y hy
    have hyI : (y : Int) < (n : Int) := by omega
    have hup := HU.out y hy
    have hst := HT.out y hy
    have hb := HB.out _ hup
    by_cases e : A.getD y 0 = y
    · have hs := HS.out y hy e
      rw [e] at hc
      have hbb : (((y : Nat) : Int) != ((y : Nat) : Int)) = false := by simp
      have HF : Hid (y = rt x) := Lib.hid (by rw [← HR.out, hs])
      clear hst hup hb e hs
      go_wp2_with fail
      go_ret2
      refine ⟨?_, Keeps.refl _ _⟩
      rw [← HF.out]; rfl
    · obtain ⟨q1, q2⟩ := hst e
      generalize A.getD y 0 = z at *
      have hbb : (((z : Nat) : Int) != ((y : Nat) : Int)) = true := by rw [bne_iff_ne]; omega
      have HR2 : Hid (rt z = rt x) := Lib.hid (q1.trans HR.out)
      have HM : Hid (H + 1 - hgt z < H + 1 - hgt y) := Lib.hid (by omega)
      clear q1 q2 hst hb
      go_wp2_with fail
      exact ⟨⟨z, hup, rfl, HR2, by first | rfl | trivial⟩, by simpa [intOf] using HM.out⟩
theorem utwo (h : UX w p a s t Bs n k A S T vs) (hr : URel n A S T g rt hgt H) (hn : n ≤ 1048576) {x y : Nat} (hx : x < n) (hy : y < n) :
    Calls Tryd.prog 85 #[tptr p, .int .i64 (x : Int), .int .i64 (y : Int)] w (RetPost (.tuple #[.int .i32 ((rt x : Nat) : Int), .int .i32 ((rt y : Nat) : Int), .nilIface]) w) := by
  have HX := Lib.hid (ufind h hr hn hx)
  have HY := Lib.hid (fun W (hk : Keeps (fun _ => False) w W) => ufind (h.keep hk) hr hn hy)
  unfold RetPost tptr at *
  clear h hr
  go_enter Tryd.func85, Tryd.ntmps85
  go_wp2_with fail
  with_reducible refine HX.out.mono ?_
  rintro e w1 ⟨rfl, hk⟩
  have H1 := Lib.hid hk
  clear hk
  go_wp2_with fail
  with_reducible refine (HY.out _ H1.out).mono ?_
  rintro e w2 ⟨rfl, hk⟩
  have H2 := Lib.hid (H1.out.trans' hk)
  clear hk
  go_wp2_with fail
  refine bodyPost_ret (v := .tuple #[.int .i32 ((rt x : Nat) : Int), .int .i32 ((rt y : Nat) : Int), .nilIface]) (by simp [results, Tryd.results85, go_sem]) rfl ?_
  exact ⟨rfl, H2.out⟩
end
section
variable {w : World} {own : Nat → Prop} {p n k : Nat} {g : List Nat}
theorem usame (h : Uf w own p n k g) {x y : Nat} (hx : x < n) (hy : y < n) :
    Calls Tryd.prog 47 #[tptr p, .int .i64 (x : Int), .int .i64 (y : Int)] w (RetPost (.tuple #[.bool (decide (g.getD x 0 = g.getD y 0)), .nilIface]) w) := by
  obtain ⟨a, s, t, Bs, k2, A, S, T, vs, rt, hgt, H, hux, hr, rfl, h1, h2⟩ := h
  have HT := Lib.hid (utwo hux hr h1 hx hy)
  have hb : (((rt x : Nat) : Int) == ((rt y : Nat) : Int)) = decide (g.getD x 0 = g.getD y 0) := by
    rw [Bool.eq_iff_iff, beq_iff_eq, decide_eq_true_iff, ← hr.same x y hx hy]
    omega
  clear hux hr
  generalize decide (g.getD x 0 = g.getD y 0) = r at *
  generalize rt x = rx at *
  generalize rt y = ry at *
  unfold RetPost tptr at *
  go_enter Tryd.func47, Tryd.ntmps47
  go_wp2_with fail
  with_reducible refine HT.out.mono ?_
  rintro e w1 ⟨rfl, hk⟩
  have H1 := Lib.hid hk
  clear hk
  go_wp2_with fail
  go_ret2
  exact ⟨rfl, H1.out⟩
theorem uleast (h : Uf w own p n k g) {x : Nat} (hx : x < n) :
    Calls Tryd.prog 99 #[tptr p, .int .i64 (x : Int)] w (RetPost (.tuple #[.int .i64 ((g.getD x 0 : Nat) : Int), .nilIface]) w) := by
  obtain ⟨a, s, t, Bs, k2, A, S, T, vs, rt, hgt, H, hux, hr, rfl, h1, h2⟩ := h
  have HT := Lib.hid (ufind hux hr h1 hx)
  have hrl := hr.rlt x hx
  have hgl := hr.ok.lt hx
  have hc : w.cell? ⟨t, rt x, none⟩ = some (.int .i32 ((g.getD x 0 : Nat) : Int)) := by rw [hux.b3.cell, i32n_get (by rw [hr.lt]; exact hrl), hr.least x hx]
  obtain ⟨_, _, c2, _⟩ := hux.heads
  clear hux hr
  generalize g.getD x 0 = z at *
  generalize rt x = rx at *
  have hrI : (rx : Int) < (n : Int) := by omega
  unfold RetPost tptr at *
  go_enter Tryd.func99, Tryd.ntmps99
  go_wp2_with fail
  with_reducible refine HT.out.mono ?_
  rintro e w1 ⟨rfl, hk⟩
  have H1 := Lib.hid hk
  have c2' := hk.cellF c2
  have hc' := hk.cellF hc
  clear hk c2 hc
  go_wp2_with fail
  go_ret2
  exact ⟨rfl, H1.out⟩
end
section
variable {w w1 : World} {p a s t Bs n k : Nat} {A S T : List Nat} {vs v' : Value}
theorem UX.row (h : UX w p a s t Bs n k A S T vs) {b i : Nat} {x : Value} (hb : b < Bs) : ∃ xs, (w.setCell ⟨b, i, none⟩ x).ownsRow Bs 181 3 vs k xs := by
  obtain ⟨xs, hx⟩ := h.st
  exact ⟨xs, ownsRow_kept hx ((Keeps.refl (fun q => q = b) w).setIn b i x rfl) fun q e e2 => by have := (hx.lt q e).1; omega⟩
theorem UX.setA (h : UX w p a s t Bs n k A S T vs) (i x : Nat) : UX (w.setCell ⟨a, i, none⟩ (.int .i32 (x : Int))) p a s t Bs n k (A.set i x) S T vs := by
  obtain ⟨d1, d2, d3, d4, d5, d6⟩ := h.d1
  refine ⟨h.head.set_other _ _ d1, ?_, h.b2.set_other _ _ (Ne.symm d4), h.b3.set_other _ _ (Ne.symm d5), h.d1, h.lo, h.row h.lo.2.1, ?_⟩
  · rw [← i32n_set]; exact h.b1.set i _
  · exact Nat.le_trans h.Bw ((Keeps.refl (fun q => q = a) w).setIn a i (.int .i32 (x : Int)) rfl).size
theorem UX.setS (h : UX w p a s t Bs n k A S T vs) (i x : Nat) : UX (w.setCell ⟨s, i, none⟩ (.int .i32 (x : Int))) p a s t Bs n k A (S.set i x) T vs := by
  obtain ⟨d1, d2, d3, d4, d5, d6⟩ := h.d1
  refine ⟨h.head.set_other _ _ d2, h.b1.set_other _ _ d4, ?_, h.b3.set_other _ _ (Ne.symm d6), h.d1, h.lo, h.row h.lo.2.2.1, ?_⟩
  · rw [← i32n_set]; exact h.b2.set i _
  · exact Nat.le_trans h.Bw ((Keeps.refl (fun q => q = s) w).setIn s i (.int .i32 (x : Int)) rfl).size
theorem UX.setT (h : UX w p a s t Bs n k A S T vs) (i x : Nat) : UX (w.setCell ⟨t, i, none⟩ (.int .i32 (x : Int))) p a s t Bs n k A S (T.set i x) vs := by
  obtain ⟨d1, d2, d3, d4, d5, d6⟩ := h.d1
  refine ⟨h.head.set_other _ _ d3, h.b1.set_other _ _ d5, h.b2.set_other _ _ d6, ?_, h.d1, h.lo, h.row h.lo.2.2.2, ?_⟩
  · rw [← i32n_set]; exact h.b3.set i _
  · exact Nat.le_trans h.Bw ((Keeps.refl (fun q => q = t) w).setIn t i (.int .i32 (x : Int)) rfl).size
theorem UX.setV (h : UX w p a s t Bs n k A S T vs) {k2 : Nat} {xs : List Value} (hk : Keeps (fun q => vs.ownBlock = some q) w w1) (ho : w1.ownsRow Bs 181 3 v' k2 xs) : UX (w1.setCell ⟨p, 3, none⟩ v') p a s t Bs n k2 A S T v' := by
  obtain ⟨d1, d2, d3, d4, d5, d6⟩ := h.d1
  obtain ⟨l1, l2, l3, l4⟩ := h.lo
  obtain ⟨ys, hy⟩ := h.st
  have hn : ∀ b, b < Bs → ¬ (vs.ownBlock = some b) := fun b hb e => by have := (hy.lt b e).1; omega
  have hh := (h.head.kept hk (hn _ l1)).set 3 v'
  refine ⟨by simpa using hh, (h.b1.kept hk (hn _ l2)).set_other _ _ (Ne.symm d1), (h.b2.kept hk (hn _ l3)).set_other _ _ (Ne.symm d2), (h.b3.kept hk (hn _ l4)).set_other _ _ (Ne.symm d3), h.d1, h.lo, ⟨xs, ownsRow_kept ho ((Keeps.refl (fun q => q = p) w1).setIn p 3 v' rfl) fun q e e2 => by have := (ho.lt q e).1; omega⟩, ?_⟩
  exact Nat.le_trans h.Bw (Nat.le_trans hk.size ((Keeps.refl (fun q => q = p) w1).setIn p 3 v' rfl).size)
theorem UX.frees (h : UX w p a s t Bs n k A S T vs) (i : Nat) : w.frozen? ⟨p, i, none⟩ = false ∧ w.frozen? ⟨a, i, none⟩ = false ∧ w.frozen? ⟨s, i, none⟩ = false ∧ w.frozen? ⟨t, i, none⟩ = false := ⟨h.head.free i, h.b1.free i, h.b2.free i, h.b3.free i⟩
end
end Go.Proofs.YtdplphhlclhmfaaDoor
