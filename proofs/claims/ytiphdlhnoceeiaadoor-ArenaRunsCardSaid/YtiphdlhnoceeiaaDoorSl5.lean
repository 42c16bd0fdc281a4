/- slots: New. -/
import Derived.Test.YtiphdlhnoceeiaaDoorSl4
namespace Go.Proofs.YtiphdlhnoceeiaaDoor
open Go Go.RowKit
set_option linter.unusedVariables false
set_option linter.unusedSimpArgs false

theorem words_any (x : Int) (n : Nat) (w : World) (hx : x = n) (h : n ≤ 1048576) :
    Calls Tryd.prog 56 #[.int .i64 x] w fun e w' => e = .returned (.int .i64 ((n + 63) / 64 : Nat)) ∧ w = w' := by
  subst hx
  go_enter Tryd.func56, Tryd.ntmps56
  go_wp2
  go_ret
  exact ⟨by simp; omega, rfl⟩

/-- The sizes of the levels. -/
def lsz (n : Nat) : Nat → Nat
  | 0 => n
  | k + 1 => (lsz n k + 63) / 64
/-- A level of so many bits, none set; those beyond are. -/
def lvl0 (m : Nat) : List Nat := if m % 64 = 0 then List.replicate ((m + 63) / 64) 0 else (List.replicate ((m + 63) / 64) 0).set ((m + 63) / 64 - 1) (18446744073709551615 * 2 ^ (m % 64) % 18446744073709551616)
theorem lvl0_length (m : Nat) : (lvl0 m).length = (m + 63) / 64 := by unfold lvl0; split <;> simp
theorem lsz_le (n : Nat) (k : Nat) (h : ∀ j, j < k → 64 < lsz n j) : lsz n k * 2 ^ k ≤ n := by
  induction k with
  | zero => simp [lsz]
  | succ k ih =>
    have h1 := ih fun j hj => h j (by omega)
    have h2 := h k (by omega)
    have : lsz n (k + 1) * 2 ≤ lsz n k := by simp only [lsz]; omega
    calc lsz n (k + 1) * 2 ^ (k + 1) = lsz n (k + 1) * 2 * 2 ^ k := by rw [Nat.pow_succ, Nat.mul_comm (2 ^ k) 2, Nat.mul_assoc]
      _ ≤ lsz n k * 2 ^ k := Nat.mul_le_mul_right _ this
      _ ≤ n := h1
theorem lsz_pos (n : Nat) (k : Nat) (h : 1 ≤ n) : 1 ≤ lsz n k := by
  induction k with
  | zero => exact h
  | succ k ih => simp only [lsz]; omega
theorem lsz_few (n : Nat) (k : Nat) (hn : 1 ≤ n) (hf : n ≤ 1048576) (h : ∀ j, j < k → 64 < lsz n j) : k ≤ 20 := by
  have h1 := lsz_le n k h
  have h2 := lsz_pos n k hn
  by_cases hk : k ≤ 20
  · exact hk
  · have h3 : 2 ^ 21 ≤ 2 ^ k := Nat.pow_le_pow_right (by decide) (by omega)
    have h4 : 2 ^ k ≤ lsz n k * 2 ^ k := Nat.le_mul_of_pos_left _ (by omega)
    have : (2 : Nat) ^ 21 = 2097152 := by decide
    omega
theorem lsz_bound (n k : Nat) (hf : n ≤ 1048576) : lsz n k ≤ 1048576 := by
  induction k with
  | zero => exact hf
  | succ k ih => simp only [lsz]; omega

def slv (n : Nat) (bk : Nat → Nat) (j : Nat) : Value := .slice (some ⟨bk j, 0, none⟩) (lvl0 (lsz n j)).length (lvl0 (lsz n j)).length

structure NewRel (n : Nat) (w : World) (b k : Nat) (bk : Nat → Nat) (v : Value) (wr : World) : Prop where
  head : Blk wr b #[.int .i64 n, .int .i64 0, v] 100
  own : wr.ownsRow w.heap.size 103 1 v k ((List.range k).map (slv n bk))
  row : ∀ j, j < k → Blk wr (bk j) (u64s (lvl0 (lsz n j))).toArray 104
  hb : w.heap.size ≤ b
  d : ∀ j, j < k → b ≠ bk j ∧ v.ownBlock ≠ some (bk j) ∧ w.heap.size ≤ bk j
  dv : v.ownBlock ≠ some b
  d3 : ∀ i j, i < k → j < k → i ≠ j → bk i ≠ bk j
  keep : Keeps (fun _ => False) w wr
  big : ∀ j, j < k → 64 < lsz n j

theorem NewRel.step {n : Nat} {w : World} {b k : Nat} {bk : Nat → Nat} {v v1 : Value} {wr w1 : World} (h : NewRel n w b k bk v wr) 
    (ho : w1.ownsRow w.heap.size 103 1 v1 (k + 1) ((List.range k).map (slv n bk) ++ [.slice (some ⟨wr.heap.size, 0, none⟩) (lvl0 (lsz n k)).length (lvl0 (lsz n k)).length]))
    (hk : Keeps (fun g => v.ownBlock = some g) (wr.alloc (.cells (u64s (lvl0 (lsz n k))).toArray 104)) w1)
    (hnew : ∀ g, v1.ownBlock = some g → v.ownBlock = some g ∨ (wr.alloc (.cells (u64s (lvl0 (lsz n k))).toArray 104)).heap.size < g) :
    let bk' := fun j => if j = k then wr.heap.size else bk j
    let w2 := w1.setCell ⟨b, 2, none⟩ v1
    Blk w2 b #[.int .i64 n, .int .i64 0, v1] 100 ∧ w2.ownsRow w.heap.size 103 1 v1 (k + 1) ((List.range (k + 1)).map (slv n bk')) ∧
    (∀ j, j < k + 1 → Blk w2 (bk' j) (u64s (lvl0 (lsz n j))).toArray 104) ∧ (∀ j, j < k + 1 → b ≠ bk' j ∧ v1.ownBlock ≠ some (bk' j) ∧ w.heap.size ≤ bk' j) ∧
    v1.ownBlock ≠ some b ∧ (∀ i j, i < k + 1 → j < k + 1 → i ≠ j → bk' i ≠ bk' j) ∧ Keeps (fun _ => False) w w2 := by
  intro bk' w2
  have hsz : (wr.alloc (.cells (u64s (lvl0 (lsz n k))).toArray 104)).heap.size = wr.heap.size + 1 := by simp
  rw [hsz] at hnew
  have hws := h.keep.size
  have hbl := h.head.lt
  have hrl : ∀ j, j < k → bk j < wr.heap.size := fun j hj => (h.row j hj).lt
  have hvl : ∀ g, v.ownBlock = some g → w.heap.size ≤ g ∧ g < wr.heap.size := fun g hg => h.own.lt g hg
  have hb' : v.ownBlock ≠ some b := h.dv
  have hv1b : v1.ownBlock ≠ some b := fun e => by
    rcases hnew b e with g | g
    · exact hb' g
    · omega
  have hbk : ∀ j, j < k → bk' j = bk j := fun j hj => by simp [bk', Nat.ne_of_lt hj]
  have hbkk : bk' k = wr.heap.size := by simp [bk']
  have hd : ∀ j, j < k + 1 → b ≠ bk' j ∧ v1.ownBlock ≠ some (bk' j) ∧ w.heap.size ≤ bk' j := by
    intro j hj
    by_cases e : j = k
    · subst e
      rw [hbkk]
      refine ⟨by omega, fun e => ?_, hws⟩
      rcases hnew _ e with g | g
      · have := hvl _ g; omega
      · omega
    · have hj' : j < k := by omega
      rw [hbk j hj']
      have := h.d j hj'
      refine ⟨this.1, fun e => ?_, this.2.2⟩
      rcases hnew _ e with g | g
      · exact this.2.1 g
      · have := hrl j hj'; omega
  refine ⟨?_, ?_, ?_, hd, hv1b, ?_, ?_⟩
  · exact ((h.head.alloc _).kept hk hb').set 2 v1
  · have e1 : (List.range (k + 1)).map (slv n bk') = (List.range k).map (slv n bk) ++ [.slice (some ⟨wr.heap.size, 0, none⟩) (lvl0 (lsz n k)).length (lvl0 (lsz n k)).length] := by
      rw [List.range_succ, List.map_append]
      congr 1
      · exact List.map_congr_left fun j hj => by simp only [slv]; rw [hbk j (List.mem_range.1 hj)]
      · simp [slv, hbkk]
    rw [e1]
    exact ownsRow_kept ho ((Keeps.refl (fun g => g = b) _).setCell _ _ fun _ => rfl) (fun g hg e => hv1b (e ▸ hg))
  · intro j hj
    by_cases e : j = k
    · subst e
      rw [hbkk]
      exact (((Blk.new wr _ _).kept hk (fun e => by have := hvl _ e; omega))).set_other _ _ (show wr.heap.size ≠ b by omega)
    · have hj' : j < k := by omega
      rw [hbk j hj']
      exact (((h.row j hj').alloc _).kept hk (fun e => (h.d j hj').2.1 e)).set_other _ _ (h.d j hj').1.symm
  · intro i j hi hj hne
    by_cases ei : i = k
    · by_cases ej : j = k
      · omega
      · rw [ei, hbkk, hbk j (by omega)]; have := hrl j (by omega); omega
    · by_cases ej : j = k
      · rw [ej, hbkk, hbk i (by omega)]; have := hrl i (by omega); omega
      · rw [hbk i (by omega), hbk j (by omega)]; exact h.d3 i j (by omega) (by omega) hne
  · refine ((h.keep.alloc _).trans hk fun i hi e => ?_).setCell _ _ fun hlt => ?_
    · have := (hvl i e).1; omega
    · have := h.hb; simp at hlt; omega

theorem lvl0_word (m i : Nat) (hi : i < (lvl0 m).length) : (lvl0 m).getD i 0 < 18446744073709551616 := by
  unfold lvl0
  split
  · simp [List.getD_eq_getElem?_getD, List.getElem?_replicate]; split <;> decide
  · simp only [List.getD_eq_getElem?_getD, List.getElem?_set, List.getElem?_replicate, List.length_replicate]
    split
    · split
      · exact Nat.mod_lt _ (by decide)
      · decide
    · split <;> decide
theorem lsz_reach (n x : Nat) (hx : x < n) : ∀ j, x / 64 ^ j < lsz n j := by
  intro j
  induction j with
  | zero => simpa [lsz] using hx
  | succ j ih =>
    simp only [lsz]
    rw [Nat.pow_succ, ← Nat.div_div_eq_div_mul]
    generalize x / 64 ^ j = y at *
    omega

theorem new_finish {n : Nat} {w w2 : World} {b k : Nat} {bk : Nat → Nat} {v : Value} (h1 : 1 ≤ n) (hf : n ≤ 1048576) (hb : w.heap.size ≤ b) (hbig : ∀ j, j < k → 64 < lsz n j) (hend : lsz n k ≤ 64)
    (h : Blk w2 b #[.int .i64 n, .int .i64 0, v] 100 ∧ w2.ownsRow w.heap.size 103 1 v (k + 1) ((List.range (k + 1)).map (slv n bk)) ∧
    (∀ j, j < k + 1 → Blk w2 (bk j) (u64s (lvl0 (lsz n j))).toArray 104) ∧ (∀ j, j < k + 1 → b ≠ bk j ∧ v.ownBlock ≠ some (bk j) ∧ w.heap.size ≤ bk j) ∧
    v.ownBlock ≠ some b ∧ (∀ i j, i < k + 1 → j < k + 1 → i ≠ j → bk i ≠ bk j) ∧ Keeps (fun _ => False) w w2) :
    ∃ o : SO, o.b = b ∧ o.At w2 ∧ o.base = w.heap.size ∧ o.n = n ∧ o.tk = 0 ∧ Keeps (fun _ => False) w w2 ∧
    (∀ k, k < o.L.length → o.lv k = lvl0 (lsz n k)) ∧ (∀ j, j + 1 < o.L.length → 64 < lsz n j) ∧ lsz n (o.L.length - 1) ≤ 64 := by
  obtain ⟨hh, ho, hr, hd, hv, h3, hk⟩ := h
  have hfew := lsz_few n k h1 hf hbig
  rcases ho.2 with ⟨_, hz⟩ | ⟨g, cap, cur, rfl, hg, hgg, hnc, hcm, hcs, htake⟩
  · omega
  · have hlen : ((List.range (k + 1)).map fun j => lvl0 (lsz n j)).length = k + 1 := by simp
    have hlv : ∀ j, j < k + 1 → ((List.range (k + 1)).map fun j => lvl0 (lsz n j)).getD j [] = lvl0 (lsz n j) := fun j hj => by
      simp [List.getD_eq_getElem?_getD, List.getElem?_range hj]
    refine ⟨{ base := w.heap.size, b := b, lb := g, cap := cap, cs := cur, bk := bk, n := n, tk := 0, L := (List.range (k + 1)).map fun j => lvl0 (lsz n j) }, rfl, ?_, rfl, rfl, rfl, hk, ?_, ?_, ?_⟩
    · refine ⟨?_, hgg, ?_, ?_, ?_, fun e => hv (by simp [Value.ownBlock]; exact e.symm), ?_, ?_, ?_, ?_, hf, Nat.zero_le _, ?_, ?_, ?_⟩
      · rw [hlen]; exact hh
      · intro j hj
        simp only [hlen] at hj
        simp only [SO.lv, hlv j hj]
        have e : cur.toList[j]? = ((List.range (k + 1)).map (slv n bk))[j]? := by
          rw [← htake, List.getElem?_take, if_pos (by omega)]
        rw [← Array.getElem?_toList, e]
        simp [List.getElem?_range hj, slv]
      · intro j hj
        simp only [hlen] at hj
        simp only [SO.lv, hlv j hj]
        exact hr j hj
      · rintro j (rfl | rfl | ⟨i, hi, rfl⟩)
        · exact hb
        · exact hg
        · simp only [hlen] at hi; exact (hd i hi).2.2
      · intro j hj
        simp only [hlen] at hj
        exact ⟨(hd j hj).1, fun e => (hd j hj).2.1 (by simp [Value.ownBlock]; exact e)⟩
      · simp only [hlen]; exact h3
      · simp only [hlen]; omega
      · intro j hj
        simp only [hlen] at hj
        simp only [SO.lv, hlv j hj, lvl0_length]
        have := lsz_bound n j hf
        omega
      · intro j i hj hi
        simp only [hlen] at hj
        simp only [SO.lv, hlv j hj] at hi ⊢
        exact lvl0_word _ _ hi
      · intro x j hx hj
        simp only [hlen] at hj
        simp only [SO.lv, hlv j hj, lvl0_length]
        have := lsz_reach n x hx (j + 1)
        simpa only [lsz] using this
      · simp only [hlen]; omega
    · intro j hj
      simp only [hlen] at hj
      simp only [SO.lv, hlv j hj]
    · intro j hj
      simp only [hlen] at hj
      exact hbig j (by omega)
    · simp only [hlen]; exact hend

theorem info104 : (Tryd.prog.info? 104).map (fun i => (i.zero, i.size, i.bytes)) = some (some (.int .u64 0), 1, 8) := by kernel_rfl
theorem info103 : (Tryd.prog.info? 103).map (fun i => (i.zero, i.size, i.bytes)) = some (some (.slice none 0 0), 1, 24) := by kernel_rfl

def NewPost (n : Nat) (w : World) (e : Ending) (w' : World) : Prop :=
  ∃ o : SO, e = .returned (.tuple #[.pointer (some ⟨o.b, 0, none⟩), .nilIface]) ∧ o.At w' ∧ o.base = w.heap.size ∧ o.n = n ∧ o.tk = 0 ∧ Keeps (fun _ => False) w w' ∧
    (∀ k, k < o.L.length → o.lv k = lvl0 (lsz n k)) ∧ (∀ j, j + 1 < o.L.length → 64 < lsz n j) ∧ lsz n (o.L.length - 1) ≤ 64

theorem new_bad (x : Int) (w : World) (h : x < 1 ∨ 1048576 < x) :
    Calls Tryd.prog 18 #[.int .i64 x] w fun e w' => e = .returned (.tuple #[.pointer none, errno 1]) ∧ w = w' := by
  rcases h with h | h
  all_goals
    go_enter Tryd.func18, Tryd.ntmps18
    go_wp2_with fail
    go_ret2
    exact ⟨rfl, rfl⟩

set_option maxHeartbeats 1000000 in
set_option maxRecDepth 100000 in
theorem new_any (n : Nat) (w : World) (h1 : 1 ≤ n) (h2 : n ≤ 1048576) :
    Calls Tryd.prog 18 #[.int .i64 (n : Int)] w (NewPost n w) := by
  obtain ⟨i0, hi, hz0, hz1, hz2⟩ := info_parts info104
  obtain ⟨j0, hj, hy0, hy1, hy2⟩ := info_parts info103
  have hdec : (decide ((n : Int) < 1)) = false := by simp; omega
  have hdec2 : (decide ((1048576 : Int) < n)) = false := by simp; omega
  go_enter Tryd.func18, Tryd.ntmps18
  go_wp2_with fail
  clear hdec hdec2
  have hst : Hid (NewRel n w w.heap.size 0 (fun _ => 0) (.slice none 0 0) (w.alloc (.cells #[.int .i64 (n : Int), .int .i64 0, .slice none 0 0] 100))) :=
    ⟨Blk.new w _ _, World.ownsRow_nil _ _ _ _, fun _ h => absurd h (by omega), Nat.le_refl _, fun _ h => absurd h (by omega), by simp [Value.ownBlock], fun _ _ h => absurd h (by omega), (Keeps.refl _ _).alloc _, fun _ h => absurd h (by omega)⟩
  go_loopw [5] (fun m wr => ∃ (k m' : Nat) (bk : Nat → Nat) (v : Value), m = .int .i64 (m' : Int) ∧ Hid (m' = lsz n k) ∧ NewRel n w w.heap.size k bk v wr) (fun m _ => (intOf m).toNat)
  case atStart => exact ⟨0, n, _, _, rfl, rfl, hst.out⟩
  case round =>
    obtain ⟨k, m, bk, v, rfl, HM, hrel⟩ := hrel
    clear hst
    have hfew := lsz_few n k h1 h2 hrel.big
    have hmb : m ≤ 1048576 := by rw [HM.out]; exact lsz_bound n k h2
    have hm1 : 1 ≤ m := by rw [HM.out]; exact lsz_pos n k h1
    have hwd := Lib.hid (fun W => words_any (m : Int) m W rfl hmb)
    have hbl := hrel.head.lt
    have hcell : wr.cell? ⟨w.heap.size, 2, none⟩ = some v := by rw [hrel.head.cell]; rfl
    have hown := hrel.own
    have hws := hrel.keep.size
    have HR := Lib.hid hrel
    clear hrel
    have hlen0 : 0 < (m + 63) / 64 := by omega
    by_cases hrest : m % 64 = 0
    · have hlv : Hid ((Array.replicate ((m + 63) / 64) (Value.int .u64 0)) = (u64s (lvl0 m)).toArray) := by
        show _ = _
        simp [lvl0, hrest, u64s]
      have hdec : decide (0 < (m : Int) % 64) = false := by simp; omega
      go_wp2_with (first | (go_at_call 56; refine (hwd.out _).mono ?_; rintro e w' ⟨rfl, rfl⟩) | (at_make; refine wpList_mk1 rfl _ _ 103 rfl 104 i0 (.int .u64 0) 8 Tryd.underlying103 hi hz0 hz1 hz2 rfl ((m + 63) / 64) .i64 .i64 _ _ rfl rfl rfl rfl (by omega) (by omega) ?_) | (at_builtin; refine wpList_app1 rfl _ _ 98 rfl w.heap.size 103 j0 (.slice none 0 0) 1 24 Tryd.underlying98 hj hy0 hy1 hy2 rfl (by decide) v k ((List.range k).map (slv n bk)) rfl (hown.alloc _) _ 1 1 [.slice (some ⟨wr.heap.size, 0, none⟩) ((m + 63) / 64) ((m + 63) / 64)] 103 rfl (by simp) rfl ?c1 ?c2 ?c3 ?c4 ?_))
      case c1 => simp [Value.oneCell']
      case c2 => unfold maxLen; omega
      case c3 => omega
      case c4 => simp; omega
      intro v1 w1 ho hk hnew hsz _
      obtain ⟨a1, p1, rfl⟩ := ownsRow_slice ho
      rw [hlv.out] at hk
      have hst := HR.out.step (by rw [← HM.out, lvl0_length]; exact ho) (by rw [← HM.out]; exact hk) (by rw [← HM.out]; simpa using hnew)
      have HST := Lib.hid hst
      have hb1 := (HR.out.head.alloc (Obj.cells (u64s (lvl0 m)).toArray 104)).kept hk HR.out.dv
      have hc2 : w1.cell? ⟨w.heap.size, 2, none⟩ = some v := by rw [hb1.cell]; rfl
      have hf2 := hb1.free 2
      clear ho hk hnew hst hb1 hcell hown
      by_cases hm : m ≤ 64
      · go_wp2_with fail
        go_ret2
        obtain ⟨o, e, rest⟩ := new_finish h1 h2 (Nat.le_refl _) HR.out.big (by rw [← HM.out]; exact hm) HST.out
        exact ⟨o, by rw [e]; rfl, rest⟩
      · go_wp2_with (go_at_call 56; refine (hwd.out _).mono ?_; rintro e w' ⟨rfl, rfl⟩)
        refine ⟨⟨k + 1, (m + 63) / 64, _, _, rfl, by show _ = lsz n (k + 1); rw [lsz, ← HM.out], HST.out.1, HST.out.2.1, HST.out.2.2.1, Nat.le_refl _, HST.out.2.2.2.1, HST.out.2.2.2.2.1, HST.out.2.2.2.2.2.1, HST.out.2.2.2.2.2.2, ?_⟩, by simp [intOf]; omega⟩
        intro j hj
        by_cases e : j = k
        · subst e; rw [← HM.out]; omega
        · exact HR.out.big j (by omega)
    · have hlv : Hid ((Array.replicate ((m + 63) / 64) (Value.int .u64 0)).setIfInBounds ((m + 63) / 64 - 1) (.int .u64 (IntKind.u64.wrap (18446744073709551615 * 2 ^ (m % 64)))) = (u64s (lvl0 m)).toArray) := by
        show _ = _
        have e : (18446744073709551615 : Int) * 2 ^ (m % 64) = ((18446744073709551615 * 2 ^ (m % 64) : Nat) : Int) := by simp
        rw [IntKind.wrap_u64, e, show (18446744073709551616 : Int) = ((18446744073709551616 : Nat) : Int) from rfl, ← Int.natCast_emod]
        apply Array.toList_inj.1
        simp [lvl0, hrest, u64s, List.map_set]
      have hdec : decide (0 < (m : Int) % 64) = true := by simp; omega
      have hget : (Array.replicate ((m + 63) / 64) (Value.int .u64 0))[(m + 63) / 64 - 1]? = some (.int .u64 0) := by
        rw [Array.getElem?_replicate, if_pos (by omega)]
      go_wp2_with (first | (go_at_call 56; refine (hwd.out _).mono ?_; rintro e w' ⟨rfl, rfl⟩) | (at_make; refine wpList_mk1 rfl _ _ 103 rfl 104 i0 (.int .u64 0) 8 Tryd.underlying103 hi hz0 hz1 hz2 rfl ((m + 63) / 64) .i64 .i64 _ _ rfl rfl rfl rfl (by omega) (by omega) ?_) | (at_builtin; refine wpList_app1 rfl _ _ 98 rfl w.heap.size 103 j0 (.slice none 0 0) 1 24 Tryd.underlying98 hj hy0 hy1 hy2 rfl (by decide) v k ((List.range k).map (slv n bk)) rfl (hown.alloc _) _ 1 1 [.slice (some ⟨wr.heap.size, 0, none⟩) ((m + 63) / 64) ((m + 63) / 64)] 103 rfl (by simp) rfl ?c1 ?c2 ?c3 ?c4 ?_))
      case c1 => simp [Value.oneCell']
      case c2 => unfold maxLen; omega
      case c3 => omega
      case c4 => simp; omega
      intro v1 w1 ho hk hnew hsz _
      obtain ⟨a1, p1, rfl⟩ := ownsRow_slice ho
      rw [hlv.out] at hk
      have hst := HR.out.step (by rw [← HM.out, lvl0_length]; exact ho) (by rw [← HM.out]; exact hk) (by rw [← HM.out]; simpa using hnew)
      have HST := Lib.hid hst
      have hb1 := (HR.out.head.alloc (Obj.cells (u64s (lvl0 m)).toArray 104)).kept hk HR.out.dv
      have hc2 : w1.cell? ⟨w.heap.size, 2, none⟩ = some v := by rw [hb1.cell]; rfl
      have hf2 := hb1.free 2
      clear ho hk hnew hst hb1 hcell hown
      by_cases hm : m ≤ 64
      · go_wp2_with fail
        go_ret2
        obtain ⟨o, e, rest⟩ := new_finish h1 h2 (Nat.le_refl _) HR.out.big (by rw [← HM.out]; exact hm) HST.out
        exact ⟨o, by rw [e]; rfl, rest⟩
      · go_wp2_with (go_at_call 56; refine (hwd.out _).mono ?_; rintro e w' ⟨rfl, rfl⟩)
        refine ⟨⟨k + 1, (m + 63) / 64, _, _, rfl, by show _ = lsz n (k + 1); rw [lsz, ← HM.out], HST.out.1, HST.out.2.1, HST.out.2.2.1, Nat.le_refl _, HST.out.2.2.2.1, HST.out.2.2.2.2.1, HST.out.2.2.2.2.2.1, HST.out.2.2.2.2.2.2, ?_⟩, by simp [intOf]; omega⟩
        intro j hj
        by_cases e : j = k
        · subst e; rw [← HM.out]; omega
        · exact HR.out.big j (by omega)
end Go.Proofs.YtiphdlhnoceeiaaDoor
