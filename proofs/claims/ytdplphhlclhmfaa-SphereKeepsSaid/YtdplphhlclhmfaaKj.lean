/- Chapter 11's laws: ints. Chapter 11's laws: corner. Chapter 11's laws: an edge lifted from both. Chapter 11's laws: an act done to both. Chapter 11's laws: both turns, made by acts. -/
import Derived.Test.YtdplphhlclhmfaaKi
namespace Go.Proofs.Ytdplphhlclhmfaa
open Go Go.RowKit
set_option linter.unusedVariables false
set_option linter.unusedSimpArgs false
set_option maxRecDepth 100000

section
variable {w : World} {B E : Nat} {v : Value} {L : List (List Nat)}
theorem corner12 (h : LsRow w B v L) (hw : WF E L) (h0 : 0 < L.length) (hV : L.length ≤ 1048576) (hE : E ≤ 1048576) (c : Int × Int) (raw : Bool) :
    Calls Try.prog 15 #[rval E v, cArr c, .bool raw] w (RetPost (cArr (crnR L c raw)) w) := by
  obtain ⟨c1, c2⟩ := c
  have hnd := hw
  obtain ⟨g, cc, rfl, hc, hB, hat⟩ := h.at_ h0
  generalize hW : ((w.alloc (.cells #[.int .i64 (E : Int), .slice (some ⟨g, 0, none⟩) L.length cc] 47)).alloc (.cells #[.int .i64 c1, .int .i64 c2] 42)).alloc (.cells #[.int .i64 0, .int .i64 0] 42) = w0
  have hK0 : Keeps (fun _ => False) w w0 := by rw [← hW]; exact (((Keeps.refl _ _).alloc _).alloc _).alloc _
  have HBT : Hid (Blk w0 w.heap.size #[.int .i64 (E : Int), .slice (some ⟨g, 0, none⟩) L.length cc] 47) := by rw [← hW]; exact ((Blk.new w _ _).alloc _).alloc _
  have HBC : Hid (Blk w0 (w.heap.size + 1) #[.int .i64 c1, .int .i64 c2] 42) := by rw [← hW]; exact (Blk.newAt _ _ _ (by simp)).alloc _
  have HBR : Hid (Blk w0 (w.heap.size + 1 + 1) #[.int .i64 0, .int .i64 0] 42) := by rw [← hW]; exact Blk.newAt _ _ _ (by simp)
  have HK0 := Lib.hid hK0
  have t1 := HBT.out.cell (i := 1)
  have d0 := HBC.out.cell (i := 0)
  have d1 := HBC.out.cell (i := 1)
  have r0 := HBR.out.cell (i := 0)
  have r1 := HBR.out.cell (i := 1)
  have q0 := HBR.out.free 0
  have q1 := HBR.out.free 1
  have hrl := HBR.out.lt
  simp only [List.getElem?_toArray, List.getElem?_cons_zero, List.getElem?_cons_succ] at t1 d0 d1 r0 r1
  have HEND : Hid (∀ (W : World), Keeps (fun _ => False) w0 W → ∀ x y : Int, Blk ((W.setCell ⟨w.heap.size + 1 + 1, 0, none⟩ (.int .i64 x)).setCell ⟨w.heap.size + 1 + 1, 1, none⟩ (.int .i64 y)) (w.heap.size + 1 + 1) #[.int .i64 x, .int .i64 y] 42 ∧
      Keeps (fun _ => False) w ((W.setCell ⟨w.heap.size + 1 + 1, 0, none⟩ (.int .i64 x)).setCell ⟨w.heap.size + 1 + 1, 1, none⟩ (.int .i64 y))) := fun W hk x y =>
    ⟨((HBR.out.kept hk id).set 0 (.int .i64 x)).set 1 (.int .i64 y), ((HK0.out.trans' hk).setNew (by omega) 0 _).setNew (by omega) 1 _⟩
  unfold rval cArr RetPost
  cases raw with
  | true =>
    have e : crnR L (c1, c2) true = (c1, c2) := rfl
    rw [e]
    clear h hat
    have HE := Lib.hid (HEND.out w0 (Keeps.refl _ _) c1 c2)
    go_enter Try.func15, Try.ntmps15
    go_upto_region 1 with fail
    clear hW
    go_wp2_with fail
    generalize (World.setCell _ _ _).setCell _ _ = WW at *
    have k0 := HE.out.1.cell (i := 0)
    have k1 := HE.out.1.cell (i := 1)
    refine bodyPost_ret (v := .agg #[.int .i64 c1, .int .i64 c2]) (by simp at k0 k1; simp [results, Try.results15, go_sem, k0, k1]) rfl ?_
    exact ⟨rfl, HE.out.2⟩
  | false =>
    have e : crnR L (c1, c2) false = crn L (c1, c2) := rfl
    rw [e]
    have hv := Nat.mod_lt (unsg c1) h0
    have HM := Lib.hid (mod_val c1 L.length h0 (by omega))
    obtain ⟨u, hu, hrow⟩ := hat (unsg c1 % L.length) _ (some_getD hv)
    obtain ⟨a, c3, rfl, hrd⟩ := hrow.rd
    have hu0 := HK0.out.cellF hu
    have hll : (L.getD (unsg c1 % L.length) []).length ≤ 2 * E := by
      have h1 : (L.getD (unsg c1 % L.length) []).length ≤ (List.range (2 * E)).length := List.Nodup.length_le_of_subset (hw.nd (some_getD hv)) (fun x hx => List.mem_range.2 (hw.bd (some_getD hv) hx))
      simpa using h1
    unfold crn
    clear h hat e hrow
    simp only at *
    generalize L.getD (unsg c1 % L.length) [] = l at *
    generalize unsg c1 % L.length = n at *
    have hl0 : ((l.length : Int) == 0) = decide (l = []) := by
      cases l with
      | nil => rfl
      | cons a l => simp; omega
    by_cases hl : l = []
    · rw [if_pos hl]
      rw [decide_eq_true hl] at hl0
      have HE := Lib.hid (HEND.out w0 (Keeps.refl _ _) (n : Int) (-1))
      go_enter Try.func15, Try.ntmps15
      go_upto_region 4 with fail
      clear hW
      rw [HM.out]
      go_wp2_with fail
      generalize (World.setCell _ _ _).setCell _ _ = WW at *
      have k0 := HE.out.1.cell (i := 0)
      have k1 := HE.out.1.cell (i := 1)
      refine bodyPost_ret (v := .agg #[.int .i64 (n : Int), .int .i64 (-1)]) (by simp at k0 k1; simp [results, Try.results15, go_sem, k0, k1]) rfl ?_
      exact ⟨rfl, HE.out.2⟩
    · rw [if_neg hl]
      rw [decide_eq_false hl] at hl0
      have hlp : 0 < l.length := by
        rcases Nat.eq_zero_or_pos l.length with h | h
        · exact absurd (List.eq_nil_of_length_eq_zero h) hl
        · exact h
      have hk := Nat.mod_lt (unsg c2) hlp
      have HM2 := mod_valK c2 l.length hlp (by omega)
      have hl1 : (l.length : Int) ≠ 0 := by omega
      have hl2 : ((l.length : Int) == 0) = false := by rw [beq_eq_false_iff_ne]; exact hl1
      obtain ⟨b, off, rfl, hcell⟩ := hrd.nat hk
      have hc0 := HK0.out.cellF hcell
      generalize l.getD (unsg c2 % l.length) 0 = x at *
      generalize unsg c2 % l.length = m at *
      have hml : (m : Int) < (l.length : Int) := by omega
      have HE0 := HEND.out w0 (Keeps.refl _ _) (n : Int) (x : Int)
      have HE := Lib.hid (And.intro HE0.1.drew HE0.2.drew)
      clear HE0
      go_enter Try.func15, Try.ntmps15
      go_upto_region 4 with fail
      clear hW
      rw [HM.out]
      go_wp2_with fail
      go_region
      go_wp2_with fail
      generalize ((World.setCell _ _ _).setCell _ _).drew = WW at *
      have k0 := HE.out.1.cell (i := 0)
      have k1 := HE.out.1.cell (i := 1)
      refine bodyPost_ret (v := .agg #[.int .i64 (n : Int), .int .i64 (x : Int)]) (by simp at k0 k1; simp [results, Try.results15, go_sem, k0, k1]) rfl ?_
      exact ⟨rfl, HE.out.2⟩
end
/-- Both turns tell the same lists. -/
structure BothAt (w : World) (own : Nat → Prop) (p E B : Nat) (L : List (List Nat)) (v : Value) (wr : World) : Prop where
  good : Good E L
  tu : Tu wr own p E L
  ls : LsRow wr B v L
  kp : Keeps (fun _ => False) w wr
  low : ∀ k, own k → w.heap.size ≤ k ∧ k < B
  bB : w.heap.size ≤ B
theorem BothAt.keep {w wr w1 : World} {own : Nat → Prop} {p E B : Nat} {L : List (List Nat)} {v : Value} (h : BothAt w own p E B L v wr) (hk : Keeps (fun _ => False) wr w1) : BothAt w own p E B L v w1 :=
  ⟨h.good, h.tu.keep hk, h.ls.keep hk, h.kp.trans' hk, h.low, h.bB⟩
def MadePost (w : World) (e : Ending) (w' : World) : Prop := ∃ L p own B a c, e = .returned (.tuple #[tptr p, rval 8 (.slice a L.length c), .bool true]) ∧ 1 ≤ L.length ∧ L.length ≤ 6 ∧ BothAt w own p 8 B L (.slice a L.length c) w'
theorem made_end {w w0 wc w1 : World} {own : Nat → Prop} {p B V bx rb n c : Nat} {L : List (List Nat)} {a : Option Addr} {cs : Array Value} (h : LawAt w0 own p 8 8 B V bx L (.slice a n c) wc) (hk0 : Keeps (fun _ => False) w w0) (hrb : w.heap.size ≤ rb) (hr0 : rb < w0.heap.size) (hb : Blk wc rb cs 47) (hcs : cs.size = 2) (hk : Keeps (fun _ => False) wc w1) :
    Hid (Blk ((w1.setCell ⟨rb, 0, none⟩ (.int .i64 8)).setCell ⟨rb, 1, none⟩ (.slice a n c)) rb #[.int .i64 8, .slice a n c] 47 ∧ BothAt w own p 8 B L (.slice a n c) ((w1.setCell ⟨rb, 0, none⟩ (.int .i64 8)).setCell ⟨rb, 1, none⟩ (.slice a n c))) := by
  have hkb : Keeps (fun k => k = rb) w1 ((w1.setCell ⟨rb, 0, none⟩ (.int .i64 8)).setCell ⟨rb, 1, none⟩ (.slice a n c)) := ((Keeps.refl (fun k => k = rb) w1).setIn rb 0 _ rfl).setIn rb 1 _ rfl
  have hb1 := hb.kept hk id
  have hn : ¬ own rb := fun q => by have := (h.low rb q).1; omega
  refine Lib.hid ⟨?_, h.good, (h.tu.keep hk).kept hkb fun k q e => hn (e ▸ q), (h.ls.keep hk).setOther hb1 (by decide) (by decide) hkb, ?_, fun k q => ⟨?_, (h.low k q).2⟩, Nat.le_trans hk0.size h.bB⟩
  · have h1 := (hb1.set 0 (.int .i64 8)).set 1 (.slice a n c)
    match cs, hcs with
    | ⟨[x, y]⟩, _ => simpa using h1
  · exact (((hk0.trans' h.kp).trans' hk).setCell _ _ fun q => absurd q (Nat.not_lt.2 hrb)).setCell _ _ fun q => absurd q (Nat.not_lt.2 hrb)
  · exact Nat.le_trans hk0.size (h.low k q).1
end Go.Proofs.Ytdplphhlclhmfaa
