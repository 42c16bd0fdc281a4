/- Chapter 10's laws: corner. -/
import Derived.Test.YtjmkejkhpdhhbaaDoorRfC
import Derived.Test.YtjmkejkhpdhhbaaDoorLwA
namespace Go.Proofs.YtjmkejkhpdhhbaaDoor
open Go Go.RowKit
set_option linter.unusedVariables false
set_option linter.unusedSimpArgs false
set_option maxRecDepth 100000

/-- A number without its sign, as 64 bits. -/
def unsg (n : Int) : Nat := (n % 18446744073709551616).toNat
theorem unsg_eq (n : Int) : IntKind.u64.wrap n = (unsg n : Int) := by rw [IntKind.wrap_u64]; unfold unsg; omega
theorem mod_val (n : Int) (m : Nat) (h0 : 0 < m) (hm : m ≤ 2097152) : wrap64 ((IntKind.u64.wrap n).tmod m) = ((unsg n % m : Nat) : Int) := by
  rw [unsg_eq, ← Int.ofNat_tmod]
  have := Nat.mod_lt (unsg n) h0
  unfold wrap64
  omega
theorem mod_valK (n : Int) (m : Nat) (h0 : 0 < m) (hm : m ≤ 2097152) : IntKind.i64.wrap ((IntKind.u64.wrap n).tmod m) = ((unsg n % m : Nat) : Int) := by
  rw [unsg_eq, ← Int.ofNat_tmod, IntKind.wrap_i64]
  have := Nat.mod_lt (unsg n) h0
  omega
/-- What the laws take for a size. -/
def kof (n : Int) (m : Nat) : Nat := 1 + unsg n % m
theorem kof_val (n : Int) (m : Nat) (h0 : 0 < m) (hm : m ≤ 100000) : wrap64 (1 + wrap64 ((IntKind.u64.wrap n).tmod m)) = (kof n m : Int) := by
  rw [mod_val n m h0 (by omega)]
  have := Nat.mod_lt (unsg n) h0
  unfold wrap64 kof
  omega
theorem kof_le (n : Int) (m : Nat) (h0 : 0 < m) : 1 ≤ kof n m ∧ kof n m ≤ m := by
  have := Nat.mod_lt (unsg n) h0
  unfold kof
  omega
/-- A corner that is meant. -/
def crn (L : List (List Nat)) (c : Int × Int) : Int × Int :=
  if L.getD (unsg c.1 % L.length) [] = [] then (((unsg c.1 % L.length : Nat) : Int), -1)
  else (((unsg c.1 % L.length : Nat) : Int), (((L.getD (unsg c.1 % L.length) []).getD (unsg c.2 % (L.getD (unsg c.1 % L.length) []).length) 0 : Nat) : Int))
def crnR (L : List (List Nat)) (c : Int × Int) (raw : Bool) : Int × Int := if raw = true then c else crn L c
theorem crn_ok {L : List (List Nat)} (h0 : 0 < L.length) (c : Int × Int) : chkErr L (crn L c).1 (crn L c).2 = 0 := by
  have hv := Nat.mod_lt (unsg c.1) h0
  unfold crn
  generalize unsg c.1 % L.length = v at *
  split
  · rename_i hl
    unfold chkErr
    rw [if_neg (by simp only; omega), if_pos ⟨rfl, by simpa using hl⟩]
  · rename_i hl
    have hlp : 0 < (L.getD v []).length := by
      rcases Nat.eq_zero_or_pos (L.getD v []).length with h | h
      · exact absurd (List.eq_nil_of_length_eq_zero h) hl
      · exact h
    have hk := Nat.mod_lt (unsg c.2) hlp
    unfold chkErr
    simp only
    rw [if_neg (by omega), if_neg (by omega), Int.toNat_natCast, Int.toNat_natCast, if_neg]
    rintro (h | h)
    · omega
    · exact h (getD_mem hk)
section
variable {w : World} {B E : Nat} {v : Value} {L : List (List Nat)}
def cArr (c : Int × Int) : Value := .agg #[.int .i64 c.1, .int .i64 c.2]
theorem corner10 (h : LsRow w B v L) (hw : WF E L) (h0 : 0 < L.length) (hV : L.length ≤ 1048576) (hE : E ≤ 1048576) (c : Int × Int) (raw : Bool) :
    Calls Tryd.prog 26 #[rval E v, cArr c, .bool raw] w (RetPost (cArr (crnR L c raw)) w) := by
  obtain ⟨c1, c2⟩ := c
  have hnd := hw
  obtain ⟨g, cc, rfl, hc, hB, hat⟩ := h.at_ h0
  generalize hW : ((w.alloc (.cells #[.int .i64 (E : Int), .slice (some ⟨g, 0, none⟩) L.length cc] 32)).alloc (.cells #[.int .i64 c1, .int .i64 c2] 23)).alloc (.cells #[.int .i64 0, .int .i64 0] 23) = w0
  have hK0 : Keeps (fun _ => False) w w0 := by rw [← hW]; exact (((Keeps.refl _ _).alloc _).alloc _).alloc _
  have HBT : Hid (Blk w0 w.heap.size #[.int .i64 (E : Int), .slice (some ⟨g, 0, none⟩) L.length cc] 32) := by rw [← hW]; exact ((Blk.new w _ _).alloc _).alloc _
  have HBC : Hid (Blk w0 (w.heap.size + 1) #[.int .i64 c1, .int .i64 c2] 23) := by rw [← hW]; exact (Blk.newAt _ _ _ (by simp)).alloc _
  have HBR : Hid (Blk w0 (w.heap.size + 1 + 1) #[.int .i64 0, .int .i64 0] 23) := by rw [← hW]; exact Blk.newAt _ _ _ (by simp)
  have HK0 := Lib.hid hK0
  have t1 := HBT.out.cell (i := 1)
  have d0 := HBC.out.cell (i := 0)
  have d1 := HBC.out.cell (i := 1)
  have r0 := HBR.out.cell (i := 0)
  have r1 := HBR.out.cell (i := 1)
  have q0 := HBR.out.free 0
  have q1 := HBR.out.free 1
  have hrl := HBR.out.lt
  simp only [List.getElem?_toArray, List.getElem?_cons_zero, List.getElem?_cons_succ] at t1 d0 d1 r0 r1
  have HEND : Hid (∀ (W : World), Keeps (fun _ => False) w0 W → ∀ x y : Int, Blk ((W.setCell ⟨w.heap.size + 1 + 1, 0, none⟩ (.int .i64 x)).setCell ⟨w.heap.size + 1 + 1, 1, none⟩ (.int .i64 y)) (w.heap.size + 1 + 1) #[.int .i64 x, .int .i64 y] 23 ∧
      Keeps (fun _ => False) w ((W.setCell ⟨w.heap.size + 1 + 1, 0, none⟩ (.int .i64 x)).setCell ⟨w.heap.size + 1 + 1, 1, none⟩ (.int .i64 y))) := fun W hk x y =>
    ⟨((HBR.out.kept hk id).set 0 (.int .i64 x)).set 1 (.int .i64 y), ((HK0.out.trans' hk).setNew (by omega) 0 _).setNew (by omega) 1 _⟩
  unfold rval cArr RetPost
  cases raw with
  | true =>
    have e : crnR L (c1, c2) true = (c1, c2) := rfl
    rw [e]
    clear h hat
    have HE := Lib.hid (HEND.out w0 (Keeps.refl _ _) c1 c2)
    go_enter Tryd.func26, Tryd.ntmps26
    go_upto_region 1 with fail
    clear hW
    go_wp2_with fail
    generalize (World.setCell _ _ _).setCell _ _ = WW at *
    have k0 := HE.out.1.cell (i := 0)
    have k1 := HE.out.1.cell (i := 1)
    refine bodyPost_ret (v := .agg #[.int .i64 c1, .int .i64 c2]) (by simp at k0 k1; simp [results, Tryd.results26, go_sem, k0, k1]) rfl ?_
    exact ⟨rfl, HE.out.2⟩
  | false =>
    have e : crnR L (c1, c2) false = crn L (c1, c2) := rfl
    rw [e]
    have hv := Nat.mod_lt (unsg c1) h0
    have HM := Lib.hid (mod_val c1 L.length h0 (by omega))
    obtain ⟨u, hu, hrow⟩ := hat (unsg c1 % L.length) _ (some_getD hv)
    obtain ⟨a, c3, rfl, hrd⟩ := hrow.rd
    have hu0 := HK0.out.cellF hu
    have hll : (L.getD (unsg c1 % L.length) []).length ≤ 2 * E := by
      have h1 : (L.getD (unsg c1 % L.length) []).length ≤ (List.range (2 * E)).length := List.Nodup.length_le_of_subset (hw.nd (some_getD hv)) (fun x hx => List.mem_range.2 (hw.bd (some_getD hv) hx))
      simpa using h1
    unfold crn
    clear h hat e hrow
    simp only at *
    generalize L.getD (unsg c1 % L.length) [] = l at *
    generalize unsg c1 % L.length = n at *
    have hl0 : ((l.length : Int) == 0) = decide (l = []) := by
      cases l with
      | nil => rfl
      | cons a l => simp; omega
    by_cases hl : l = []
    · rw [if_pos hl]
      rw [decide_eq_true hl] at hl0
      have HE := Lib.hid (HEND.out w0 (Keeps.refl _ _) (n : Int) (-1))
      go_enter Tryd.func26, Tryd.ntmps26
      go_upto_region 4 with fail
      clear hW
      rw [HM.out]
      go_wp2_with fail
      generalize (World.setCell _ _ _).setCell _ _ = WW at *
      have k0 := HE.out.1.cell (i := 0)
      have k1 := HE.out.1.cell (i := 1)
      refine bodyPost_ret (v := .agg #[.int .i64 (n : Int), .int .i64 (-1)]) (by simp at k0 k1; simp [results, Tryd.results26, go_sem, k0, k1]) rfl ?_
      exact ⟨rfl, HE.out.2⟩
    · rw [if_neg hl]
      rw [decide_eq_false hl] at hl0
      have hlp : 0 < l.length := by
        rcases Nat.eq_zero_or_pos l.length with h | h
        · exact absurd (List.eq_nil_of_length_eq_zero h) hl
        · exact h
      have hk := Nat.mod_lt (unsg c2) hlp
      have HM2 := mod_valK c2 l.length hlp (by omega)
      have hl1 : (l.length : Int) ≠ 0 := by omega
      have hl2 : ((l.length : Int) == 0) = false := by rw [beq_eq_false_iff_ne]; exact hl1
      obtain ⟨b, off, rfl, hcell⟩ := hrd.nat hk
      have hc0 := HK0.out.cellF hcell
      generalize l.getD (unsg c2 % l.length) 0 = x at *
      generalize unsg c2 % l.length = m at *
      have hml : (m : Int) < (l.length : Int) := by omega
      have HE0 := HEND.out w0 (Keeps.refl _ _) (n : Int) (x : Int)
      have HE := Lib.hid (And.intro HE0.1.drew HE0.2.drew)
      clear HE0
      go_enter Tryd.func26, Tryd.ntmps26
      go_upto_region 4 with fail
      clear hW
      rw [HM.out]
      go_wp2_with fail
      go_region
      go_wp2_with fail
      generalize ((World.setCell _ _ _).setCell _ _).drew = WW at *
      have k0 := HE.out.1.cell (i := 0)
      have k1 := HE.out.1.cell (i := 1)
      refine bodyPost_ret (v := .agg #[.int .i64 (n : Int), .int .i64 (x : Int)]) (by simp at k0 k1; simp [results, Tryd.results26, go_sem, k0, k1]) rfl ?_
      exact ⟨rfl, HE.out.2⟩
end
end Go.Proofs.YtjmkejkhpdhhbaaDoor
