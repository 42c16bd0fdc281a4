/- The document's turns in memory; New, Find, Check. The document's turns: New, Check, With, Next. Appends of slices that may be nil; the document's With, Next. The document's put. The document's Next, Round, Darts. The document's Lay, Lift. The document's Lift. The document's Lift. -/
import Derived.Deep.RegionHeld3
import Derived.Deep.AppendLies
import Derived.Test.YtdplphhlclhmfaaDoorKc
namespace Go.Proofs.YtdplphhlclhmfaaDoor
open Go Go.RowKit
set_option linter.unusedVariables false
set_option linter.unusedSimpArgs false
set_option maxRecDepth 100000

/-- A list of darts. -/
def LRow (w : World) (B : Nat) (u : Value) (l : List Nat) : Prop := w.ownsRow B 3 1 u l.length (nats l) ∧ (l = [] → u = .slice none 0 0)
/-- The lists of all vertices. -/
def LsRow (w : World) (B : Nat) (v : Value) (L : List (List Nat)) : Prop :=
  ∃ cells, w.ownsRow B 23 1 v L.length cells ∧ ∀ (i : Nat) (l : List Nat), L[i]? = some l → ∃ u, cells[i]? = some u ∧ LRow w B u l
/-- The document's turns. -/
def rval (E : Nat) (v : Value) : Value := .agg #[.int .i64 (E : Int), v]
section
variable {w w' : World} {B : Nat} {u v : Value} {l : List Nat} {L : List (List Nat)}
theorem LRow.kept {fp : Nat → Prop} (h : LRow w B u l) (hk : Keeps fp w w') (hn : ∀ k, fp k → k < B) : LRow w' B u l :=
  ⟨ownsRow_kept h.1 hk fun k e q => by have := (h.1.lt k e).1; have := hn k q; omega, h.2⟩
theorem LRow.keep (h : LRow w B u l) (hk : Keeps (fun _ => False) w w') : LRow w' B u l := h.kept hk fun _ q => q.elim
theorem LsRow.kept {fp : Nat → Prop} (h : LsRow w B v L) (hk : Keeps fp w w') (hn : ∀ k, fp k → k < B) : LsRow w' B v L := by
  obtain ⟨cells, h1, h2⟩ := h
  refine ⟨cells, ownsRow_kept h1 hk fun k e q => by have := (h1.lt k e).1; have := hn k q; omega, fun i l hl => ?_⟩
  obtain ⟨u, hu, hr⟩ := h2 i l hl
  exact ⟨u, hu, hr.kept hk hn⟩
theorem LsRow.keep (h : LsRow w B v L) (hk : Keeps (fun _ => False) w w') : LsRow w' B v L := h.kept hk fun _ q => q.elim
theorem LRow.rd (h : LRow w B u l) : ∃ a c, u = .slice a l.length c ∧ Rd w a (nats l) := by
  obtain ⟨a, c, e, hr, _⟩ := Rd.of_own h.1
  exact ⟨a, c, e, hr⟩
theorem Rd.nat {a : Option Addr} (h : Rd w a (nats l)) {i : Nat} (hi : i < l.length) : ∃ b off, a = some ⟨b, off, none⟩ ∧ w.cell? ⟨b, off + i, none⟩ = some (.int .i64 ((l.getD i 0 : Nat) : Int)) := by
  obtain ⟨b, off, e, hc⟩ := h.at_ i (by rw [nats_length]; exact hi)
  exact ⟨b, off, e, by rw [hc i (by rw [nats_length]; exact hi), nats_get hi]⟩
/-- The head, and of each vertex its list. -/
theorem LsRow.at_ (h : LsRow w B v L) (h0 : 0 < L.length) : ∃ g c, v = .slice (some ⟨g, 0, none⟩) L.length c ∧ L.length ≤ c ∧ B ≤ g ∧ ∀ (i : Nat) (l : List Nat), L[i]? = some l → ∃ u, w.cell? ⟨g, i, none⟩ = some u ∧ LRow w B u l := by
  obtain ⟨cells, h1, h2⟩ := h
  rcases h1.2 with ⟨_, e⟩ | ⟨g, c, cur, rfl, hb, hg, hc, _⟩
  · omega
  · refine ⟨g, c, rfl, hc, hb, fun i l hl => ?_⟩
    obtain ⟨u, hu, hr⟩ := h2 i l hl
    have hi := (List.getElem?_eq_some_iff.1 hl).1
    exact ⟨u, by rw [h1.cellAt i (by omega)]; exact hu, hr⟩
end
/-- Where a dart is found: its vertex, its place; or -1. -/
def fndV (L : List (List Nat)) (d : Int) : Int := if 0 ≤ d ∧ Stands L d.toNat then (vtx L d.toNat : Int) else -1
def fndI (L : List (List Nat)) (d : Int) : Int := if 0 ≤ d ∧ Stands L d.toNat then (pos L d.toNat : Int) else -1
theorem fnd_hit {E : Nat} {L : List (List Nat)} (h : WF E L) {v i : Nat} {l : List Nat} (hv : L[v]? = some l) (hi : i < l.length) :
    fndV L ((l.getD i 0 : Nat) : Int) = v ∧ fndI L ((l.getD i 0 : Nat) : Int) = i := by
  have hs := stands_at hv (getD_mem hi)
  obtain ⟨e1, e2, _⟩ := h.at_ hv hi
  unfold fndV fndI
  rw [Int.toNat_natCast, if_pos ⟨by omega, hs⟩, if_pos ⟨by omega, hs⟩, e1, e2]
  exact ⟨rfl, rfl⟩
theorem fnd_no {L : List (List Nat)} {d : Int} (h : ∀ (v : Nat) (l : List Nat), L[v]? = some l → ∀ x ∈ l, (x : Int) ≠ d) : fndV L d = -1 ∧ fndI L d = -1 := by
  have hn : ¬ (0 ≤ d ∧ Stands L d.toNat) := fun ⟨h0, hs⟩ => by
    obtain ⟨v, l, hv, hm⟩ := stands_iff.1 hs
    exact h v l hv _ hm (by omega)
  exact ⟨if_neg hn, if_neg hn⟩
section
variable {w : World} {B E : Nat} {v : Value} {L : List (List Nat)}
set_option maxHeartbeats 1000000 in
theorem rfind (h : LsRow w B v L) (hw : WF E L) (h0 : 0 < L.length) (hV : L.length ≤ 1048576) (hE : E ≤ 1048576) (d : Int) :
    Calls Tryd.prog 32 #[rval E v, .int .i64 d] w (RetPost (.tuple #[.int .i64 (fndV L d), .int .i64 (fndI L d)]) w) := by
  obtain ⟨g, c, rfl, hc, hB, hat⟩ := h.at_ h0
  have hgb : g < w.heap.size := by
    obtain ⟨u, hu, _⟩ := hat 0 _ (List.getElem?_eq_getElem h0)
    exact World.block_lt_of_cell? w _ hu
  have HW := Lib.hid hw
  have HAT : Hid (∀ (i : Nat) (l : List Nat), L[i]? = some l → ∃ u, (w.alloc (.cells #[.int .i64 (E : Int), .slice (some ⟨g, 0, none⟩) L.length c] 27)).cell? ⟨g, i, none⟩ = some u ∧ LRow (w.alloc (.cells #[.int .i64 (E : Int), .slice (some ⟨g, 0, none⟩) L.length c] 27)) B u l) := fun i l hl => by
    obtain ⟨u, hu, hr⟩ := hat i l hl
    exact ⟨u, by rw [World.cell?_alloc_lt _ _ _ hgb]; exact hu, hr.keep ((Keeps.refl _ _).alloc _)⟩
  have HB : Hid (Blk (w.alloc (.cells #[.int .i64 (E : Int), .slice (some ⟨g, 0, none⟩) L.length c] 27)) w.heap.size #[.int .i64 (E : Int), .slice (some ⟨g, 0, none⟩) L.length c] 27) := Blk.new w _ _
  have HK := Lib.hid ((Keeps.refl (fun _ => False) w).alloc (.cells #[.int .i64 (E : Int), .slice (some ⟨g, 0, none⟩) L.length c] 27))
  clear h hw hat
  unfold rval RetPost
  go_enter Tryd.func32, Tryd.ntmps32
  go_upto_region 1 with fail
  generalize w.alloc _ = w0 at *
  have b1 := HB.out.cell (i := 1)
  simp only [List.getElem?_toArray, List.getElem?_cons_zero, List.getElem?_cons_succ] at b1
  go_wp2_with fail
  go_loopw [6] (fun i wr => w0 = wr ∧ ∃ j : Nat, j ≤ L.length ∧ i = .int .i64 (j : Int) ∧ Hid (∀ (u : Nat) (l : List Nat), L[u]? = some l → u < j → ∀ x ∈ l, (x : Int) ≠ d)) (fun i _ => L.length - (intOf i).toNat)
  case atStart => exact ⟨rfl, 0, Nat.zero_le _, rfl, fun u l _ h => absurd h (Nat.not_lt_zero _)⟩
  case round =>
    obtain ⟨rfl, j, hj, rfl, HN⟩ := hrel
    by_cases hlt : j < L.length
    · obtain ⟨l, hl⟩ : ∃ l, L[j]? = some l := ⟨_, List.getElem?_eq_getElem hlt⟩
      obtain ⟨u, hu, hr⟩ := HAT.out j l hl
      obtain ⟨a, c2, rfl, hrd⟩ := hr.rd
      have HRD := Lib.hid hrd
      have HL := Lib.hid hl
      have hll : l.length ≤ 2 * E := by
        have h1 : l.length ≤ (List.range (2 * E)).length := List.Nodup.length_le_of_subset (HW.out.nd hl) (fun x hx => List.mem_range.2 (HW.out.bd hl hx))
        simpa using h1
      have HMEM : Hid (∀ i, i < l.length → l.getD i 0 ∈ l) := fun i hi => getD_mem hi
      have HIDX : Hid (∀ x ∈ l, ∃ i, i < l.length ∧ l.getD i 0 = x) := fun x hx => mem_getD hx
      clear hr hrd hl
      go_wp2_with fail
      go_loopw [7] (fun i wr => w0 = wr ∧ ∃ k : Nat, k ≤ l.length ∧ i = .int .i64 (k : Int) ∧ Hid (∀ i, i < k → ((l.getD i 0 : Nat) : Int) ≠ d)) (fun i _ => l.length - (intOf i).toNat)
      case atStart => exact ⟨rfl, 0, Nat.zero_le _, rfl, fun i h => absurd h (Nat.not_lt_zero _)⟩
      case round =>
        obtain ⟨rfl, k, hk, rfl, HM⟩ := hrel
        by_cases hkl : k < l.length
        · obtain ⟨b, off, rfl, hcell⟩ := HRD.out.nat hkl
          have hfnd := Lib.hid (fnd_hit HW.out HL.out hkl)
          have HLG : Hid (∀ i, i < k + 1 → ((l.getD k 0 : Nat) : Int) ≠ d → ((l.getD i 0 : Nat) : Int) ≠ d) := fun i hi hne => by
            by_cases e : i = k
            · subst e; exact hne
            · exact HM.out i (by omega)
          generalize hx : l.getD k 0 = x at *
          clear hx
          by_cases hxd : (x : Int) = d
          · subst hxd
            have hb : ((x : Int) == (x : Int)) = true := by simp
            go_wp2_with fail
            go_ret2
            exact ⟨by rw [hfnd.out.1, hfnd.out.2]; rfl, HK.out⟩
          · have hb : ((x : Int) == d) = false := by rw [beq_eq_false_iff_ne]; exact hxd
            go_wp2_with fail
            refine ⟨⟨trivial, k + 1, hkl, by go_num, fun i hi => HLG.out i hi hxd⟩, by simp [intOf]; omega⟩
        · obtain rfl : k = l.length := by omega
          go_wp2_with fail
          refine ⟨⟨trivial, j + 1, hlt, by go_num, fun u' l' hl' hu' x hx => ?_⟩, by simp [intOf]; omega⟩
          by_cases e : u' = j
          · subst e
            have hll' := HL.out
            rw [hl'] at hll'
            cases hll'
            obtain ⟨i, hi, rfl⟩ := HIDX.out x hx
            exact HM.out i hi
          · exact HN.out u' l' hl' (by omega) x hx
    · obtain rfl : j = L.length := by omega
      have hfnd := Lib.hid (fnd_no (L := L) (d := d) fun u l hl => HN.out u l hl (List.getElem?_eq_some_iff.1 hl).1)
      go_wp2_with fail
      go_ret2
      exact ⟨by rw [hfnd.out.1, hfnd.out.2]; rfl, HK.out⟩
end
theorem infoS : (Tryd.prog.info? 23).map (fun i => (i.zero, i.size, i.bytes)) = some (some (.slice none 0 0), 1, 24) := by kernel_rfl
theorem LRow.nil (w : World) (B : Nat) : LRow w B (.slice none 0 0) [] := ⟨World.ownsRow_nil _ _ _ _, fun _ => rfl⟩
/-- The document's turns told. -/
def RPost (E B : Nat) (L : List (List Nat)) (w : World) (e : Ending) (w' : World) : Prop :=
  ∃ v, e = .returned (rval E v) ∧ LsRow w' B v L ∧ Keeps (fun _ => False) w w'
theorem rnew (V E : Nat) (w : World) (hV1 : 1 ≤ V) (hV : V ≤ 1048576) : Calls Tryd.prog 40 #[.int .i64 (V : Int), .int .i64 (E : Int)] w (RPost E w.heap.size (List.replicate V []) w) := by
  obtain ⟨i0, hi, hz0, hz1, hz2⟩ := info_parts infoS
  have hmk : ∀ W, (Instr.makeSlice 25 (.int .i64 (V : Int)) (.int .i64 (V : Int))).run Tryd.prog W = .ok (.slice (some ⟨W.heap.size, 0, none⟩) V V) (W.alloc (.cells (List.replicate V (Value.slice none 0 0)).toArray 23)) := fun W => by
    have := run_make (P := Tryd.prog) W 25 23 i0 _ Tryd.underlying25 hi hz0 .i64 .i64 (V : Int) (V : Int) (by omega) (Int.le_refl _) (by rw [hz2]; omega) (by omega)
    rw [this, hz1, Int.toNat_natCast, Nat.mul_one, show (Value.slice none 0 0).cells = #[.slice none 0 0] from rfl, madeCells_one]
  clear hi hz0 hz1 hz2 i0
  unfold RPost rval
  go_enter Tryd.func40, Tryd.ntmps40
  go_wp2_with fail
  generalize hcs : List.replicate V (Value.slice none 0 0) = cs at *
  refine bodyPost_ret (v := rval E (.slice (some ⟨w.heap.size + 1, 0, none⟩) V V)) (by simp [results, Tryd.results40, go_sem, rval]) rfl ?_
  refine ⟨_, rfl, ⟨cs, ?_, fun i l hl => ?_⟩, ?_⟩
  · rw [List.length_replicate]
    have h1 := World.ownsRow_lit (e := 23) (size := 1) (base := w.heap.size) (w.alloc (.cells #[.int .i64 (E : Int), .slice (some ⟨w.heap.size + 1, 0, none⟩) V V] 27)) (Array.replicate V (Value.slice none 0 0)) V (by simp) (by unfold maxLen; omega) (by simp)
    have e1 : (Array.replicate V (Value.slice none 0 0)).toList = cs := by rw [← hcs]; simp
    rw [e1] at h1
    simpa using h1
  · have hlt := (List.getElem?_eq_some_iff.1 hl).1
    rw [List.length_replicate] at hlt
    rw [List.getElem?_replicate, if_pos hlt] at hl
    cases hl
    exact ⟨_, by rw [← hcs, List.getElem?_replicate, if_pos hlt], LRow.nil _ _⟩
  · exact ((Keeps.refl _ _).alloc _).alloc _
section
variable {w : World} {B E : Nat} {v : Value} {L : List (List Nat)}
theorem chk_fnd {E : Nat} {L : List (List Nat)} (hw : WF E L) {n : Nat} {l : List Nat} (hl : L[n]? = some l) (b : Int) (hb : ¬ (b = -1 ∧ l = [])) :
    chkErr L n b = if b < 0 ∨ fndV L b ≠ n then 13 else 0 := by
  have hn := (List.getElem?_eq_some_iff.1 hl).1
  unfold chkErr
  rw [if_neg (by omega), Int.toNat_natCast, getD_some hl, if_neg hb]
  by_cases h0 : b < 0
  · rw [if_pos (.inl h0), if_pos (.inl h0)]
  · obtain ⟨d, rfl⟩ := Int.eq_ofNat_of_zero_le (show 0 ≤ b by omega)
    rw [Int.toNat_natCast]
    by_cases hm : d ∈ l
    · obtain ⟨i, hi, rfl⟩ := mem_getD hm
      have e1 : ¬ (((l.getD i 0 : Nat) : Int) < 0 ∨ l.getD i 0 ∉ l) := fun q => q.elim (by omega) fun q => q hm
      have e2 : ¬ (((l.getD i 0 : Nat) : Int) < 0 ∨ (n : Int) ≠ n) := fun q => q.elim (by omega) fun q => q rfl
      rw [if_neg e1, (fnd_hit hw hl hi).1, if_neg e2]
    · have hne : fndV L ((d : Nat) : Int) ≠ n := fun e => by
        unfold fndV at e
        split at e
        · rename_i h2
          obtain ⟨v, m, i, hv, hi, hd⟩ := stands_ex h2.2
          rw [Int.toNat_natCast] at hd e
          subst hd
          rw [(hw.at_ hv hi).1] at e
          obtain rfl : v = n := by omega
          rw [hl] at hv
          cases hv
          exact hm (getD_mem hi)
        · omega
      rw [if_pos (.inr hm), if_pos (.inr hne)]
theorem rcheck (h : LsRow w B v L) (hw : WF E L) (h0 : 0 < L.length) (hV : L.length ≤ 1048576) (hE : E ≤ 1048576) (n b : Int) :
    Calls Tryd.prog 20 #[rval E v, .int .i64 n, .int .i64 b] w (RetPost (.int .i64 (chkErr L n b : Nat)) w) := by
  have HF := Lib.hid (fun W (hk : Keeps (fun _ => False) w W) => rfind (h.keep hk) hw h0 hV hE b)
  obtain ⟨g, c, rfl, hc, hB, hat⟩ := h.at_ h0
  have hgb : g < w.heap.size := by
    obtain ⟨u, hu, _⟩ := hat 0 _ (List.getElem?_eq_getElem h0)
    exact World.block_lt_of_cell? w _ hu
  have HB : Hid (Blk (w.alloc (.cells #[.int .i64 (E : Int), .slice (some ⟨g, 0, none⟩) L.length c] 27)) w.heap.size #[.int .i64 (E : Int), .slice (some ⟨g, 0, none⟩) L.length c] 27) := Blk.new w _ _
  have HK := Lib.hid ((Keeps.refl (fun _ => False) w).alloc (.cells #[.int .i64 (E : Int), .slice (some ⟨g, 0, none⟩) L.length c] 27))
  by_cases hr1 : n < 0 ∨ (L.length : Int) ≤ n
  · have he : chkErr L n b = 12 := by unfold chkErr; rw [if_pos hr1]
    rw [he]
    clear h he hat
    unfold rval RetPost at *
    rcases (show n < 0 ∨ 0 ≤ n ∧ (L.length : Int) ≤ n by omega) with h2 | ⟨h2, h3⟩
    · have hd0 : decide (n < 0) = true := by simp; exact h2
      go_enter Tryd.func20, Tryd.ntmps20
      go_wp2_with fail
      go_ret
      exact ⟨rfl, HK.out⟩
    · have hd0 : decide (n < 0) = false := by simp; exact h2
      have hd1 : decide ((L.length : Int) ≤ n) = true := by simp; exact h3
      go_enter Tryd.func20, Tryd.ntmps20
      go_wp2_with fail
      go_ret
      exact ⟨rfl, HK.out⟩
  · obtain ⟨n, rfl⟩ := Int.eq_ofNat_of_zero_le (show 0 ≤ n by omega)
    have hn : n < L.length := by omega
    obtain ⟨l, hl⟩ : ∃ l, L[n]? = some l := ⟨_, List.getElem?_eq_getElem hn⟩
    obtain ⟨u, hu, hrow⟩ := hat n l hl
    obtain ⟨a, c2, rfl, _⟩ := hrow.rd
    have hd0 : decide ((n : Int) < 0) = false := by simp
    have hl0 : ((l.length : Int) == 0) = decide (l = []) := by
      cases l with
      | nil => rfl
      | cons a l => simp; omega
    by_cases hbl : b = -1 ∧ l = []
    · obtain ⟨rfl, rfl⟩ := hbl
      have he : chkErr L n (-1) = 0 := by
        unfold chkErr
        rw [if_neg hr1, Int.toNat_natCast, getD_some hl, if_pos ⟨rfl, rfl⟩]
      rw [he]
      clear h he hat hr1 hl hrow HF hl0
      unfold rval RetPost at *
      go_enter Tryd.func20, Tryd.ntmps20
      go_wp2_with fail
      go_ret
      exact ⟨rfl, HK.out⟩
    · have he := chk_fnd hw hl b hbl
      rw [he]
      have hfb : -1 ≤ fndV L b := by unfold fndV; split <;> omega
      generalize fndV L b = fv at *
      generalize fndI L b = fi at *
      clear h he hat hr1 hl hrow
      have HF2 := Lib.hid (HF.out _ HK.out)
      clear HF
      unfold rval RetPost at *
      have hcs : (b = -1 ∧ decide (l = []) = false) ∨ (b == -1) = false := by
        by_cases hb1 : b = -1
        · exact .inl ⟨hb1, decide_eq_false fun e => hbl ⟨hb1, e⟩⟩
        · exact .inr (by rw [beq_eq_false_iff_ne]; exact hb1)
      have htail : (b < 0) ∨ (0 ≤ b ∧ fv = n) ∨ (0 ≤ b ∧ fv ≠ n) := by omega
      rcases htail with hb0 | ⟨hb0, hfn⟩ | ⟨hb0, hfn⟩
      · rw [if_pos (.inl hb0)]
        have hd2 : decide (b < 0) = true := by simp; exact hb0
        rcases hcs with ⟨rfl, hl1⟩ | hb1
        · rw [hl1] at hl0
          go_enter Tryd.func20, Tryd.ntmps20
          go_wp2_with fail
          refine (HF2.out).mono ?_
          rintro e w2 ⟨rfl, hk2⟩
          have HK2 := Lib.hid (HK.out.trans' hk2)
          clear hk2
          go_wp2_with fail
          go_ret
          exact ⟨rfl, HK2.out⟩
        · go_enter Tryd.func20, Tryd.ntmps20
          go_wp2_with fail
          refine (HF2.out).mono ?_
          rintro e w2 ⟨rfl, hk2⟩
          have HK2 := Lib.hid (HK.out.trans' hk2)
          clear hk2
          go_wp2_with fail
          go_ret
          exact ⟨rfl, HK2.out⟩
      · rw [if_neg (by rintro (h | h); · omega
                       · exact h hfn)]
        have hd2 : decide (b < 0) = false := by simp; exact hb0
        have hb1 : (b == -1) = false := by rw [beq_eq_false_iff_ne]; omega
        subst hfn
        clear hcs hbl
        go_enter Tryd.func20, Tryd.ntmps20
        go_wp2_with fail
        refine (HF2.out).mono ?_
        rintro e w2 ⟨rfl, hk2⟩
        have HK2 := Lib.hid (HK.out.trans' hk2)
        clear hk2
        go_wp2_with fail
        go_ret
        exact ⟨rfl, HK2.out⟩
      · rw [if_pos (.inr hfn)]
        have hd2 : decide (b < 0) = false := by simp; exact hb0
        have hb1 : (b == -1) = false := by rw [beq_eq_false_iff_ne]; omega
        have hd3 : (fv != (n : Int)) = true := by rw [bne_iff_ne]; exact hfn
        clear hcs hbl
        go_enter Tryd.func20, Tryd.ntmps20
        go_wp2_with fail
        refine (HF2.out).mono ?_
        rintro e w2 ⟨rfl, hk2⟩
        have HK2 := Lib.hid (HK.out.trans' hk2)
        clear hk2
        go_wp2_with fail
        go_ret
        exact ⟨rfl, HK2.out⟩
end
theorem ar_len {A n : Nat} (h : A + 1 ≤ n) : min (A + 1) n + 1 + (n - (A + 1)) = 0 + (A + 1) + 1 + (n - (A + 1)) := by omega
theorem ar_mx {A n E : Nat} (h : A + 1 ≤ n) (hn : n ≤ 2 * E) (hE : E ≤ 1048576) : 0 + (A + 1) ≤ maxLen ∧ (0 + (A + 1)) * 8 ≤ 140737488355328 ∧ 0 + (A + 1) + 1 ≤ maxLen ∧ (0 + (A + 1) + 1) * 8 ≤ 140737488355328 ∧ 0 + (A + 1) + 1 + (n - (A + 1)) ≤ maxLen ∧ (0 + (A + 1) + 1 + (n - (A + 1))) * 8 ≤ 140737488355328 := by
  unfold maxLen
  exact ⟨by omega, by omega, by omega, by omega, by omega, by omega⟩
theorem ar_add {a j n E : Nat} (h1 : a < n) (h2 : j < n) (hn : n ≤ 2 * E) (hE : E ≤ 1048576) : wrap64 ((a : Int) + (j : Int)) = (a : Int) + (j : Int) := by unfold wrap64; omega
theorem ar_one {m n E : Nat} (h1 : m < n) (hn : n ≤ 2 * E) (hE : E ≤ 1048576) : wrap64 (m : Int) = (m : Int) := by unfold wrap64; omega
theorem ar_cap {j n E : Nat} (h1 : j < n) (hn : n ≤ 2 * E) (hE : E ≤ 1048576) : j + 1 ≤ maxLen ∧ (j + 1) * 8 ≤ 140737488355328 := by unfold maxLen; omega
theorem ar_less {j n : Nat} (h : j < n) : n - (j + 1) < n - j := by omega
/-- What is appended: nil, or cells that lie there. -/
def Src (w : World) (x : Value) (m size : Nat) (news : List Value) : Prop :=
  (x = .slice none 0 0 ∧ m = 0 ∧ news = []) ∨ ∃ ad c, x = .slice (some ad) m c ∧ news.length = m * size ∧ (∀ j u, news[j]? = some u → w.cell? (ad.add j) = some u) ∧ ∀ u ∈ news, u.oneCell' = true
theorem Src.len {w : World} {x : Value} {m size : Nat} {news : List Value} (h : Src w x m size news) : news.length = m * size := by
  rcases h with ⟨_, rfl, rfl⟩ | ⟨_, _, _, h, _⟩
  · simp
  · exact h
theorem Src.below {w w' : World} {x : Value} {m size : Nat} {news : List Value} (h : Src w x m size news) (hk : ∀ a c, x = .slice (some a) m c → a.block < w.heap.size → w'.heap[a.block]? = w.heap[a.block]?) : Src w' x m size news := by
  rcases h with h | ⟨ad, c, rfl, h1, h2, h3⟩
  · exact .inl h
  · refine .inr ⟨ad, c, rfl, h1, fun j u hu => ?_, h3⟩
    have := h2 j u hu
    rw [← this]
    have hb : (ad.add j).block = ad.block := by unfold Addr.add; split <;> rfl
    have hl := World.block_lt_of_cell? w _ this
    exact World.cell?_of_block (by rw [hb] at hl ⊢; exact hk ad c rfl hl)
theorem Src.keep {w w' : World} {x : Value} {m size : Nat} {news : List Value} (h : Src w x m size news) (hk : Keeps (fun _ => False) w w') : Src w' x m size news := h.below fun _ _ _ hb => hk.block _ hb id
section
variable {P : Program}
theorem run_appS (w : World) (base : Nat) (t ty e : TypeId) (i : TypeInfo) (z : Value) (size bytes : Nat) (ht : P.underlying t = some (.slice e)) (hi : P.info? e = some i) (hz : i.zero = some z)
    (hsize : i.size = size) (hby : i.bytes = bytes) (hzs : z.cells.size = size) (hsz : 0 < size)
    (v : Value) (n : Nat) (xs : List Value) (hown : w.ownsRow base e size v n xs) (x : Value) (m : Nat) (news : List Value) (hsrc : Src w x m size news)
    (h63 : n + m ≤ maxLen) (hbytes : (n + m) * bytes ≤ 140737488355328) (hbase : base ≤ w.heap.size) :
    ∃ v' w', (Builtin.append_ #[t, t] ty #[v, x]).run P w = .ok v' w' ∧ w'.ownsRow base e size v' (n + m) (xs ++ news) ∧ Keeps (fun k => v.ownBlock = some k) w w' ∧
      (∀ k, v'.ownBlock = some k → v.ownBlock = some k ∨ k = w.heap.size) ∧ (v' = .slice none 0 0 ↔ v = .slice none 0 0 ∧ m = 0) := by
  rcases hsrc with ⟨rfl, rfl, rfl⟩ | ⟨ad, c, rfl, hl, hnews, h1⟩
  · refine ⟨v, w, run_append_owned_none (P := P) (w := w) base t ty e i size ht hi v n xs hown, by simpa using hown, Keeps.refl _ _, fun k hk => .inl hk, by simp⟩
  · obtain ⟨v', w', hr, h2, h3, h4, h5⟩ := run_app (P := P) w base t ty e i z size bytes ht hi hz hsize hby hzs hsz v n xs hown ad m c news hl hnews h1 h63 hbytes hbase
    obtain ⟨v2, w2, hr2, _, _, hnil⟩ := run_append_own (P := P) w base t ty e i z size bytes ht hi hz hsize hby hzs hsz v n xs hown ad m c news hl hnews h1 h63 hbytes hbase
    rw [hr] at hr2
    simp only [Result.ok.injEq] at hr2
    obtain ⟨rfl, rfl⟩ := hr2
    exact ⟨v', w', hr, h2, h3, h4, hnil⟩
/-- .. at a step of a plain region. -/
theorem wpList_appS {ops : Array Oper} {rest : List Oper} {o : Oper} {a : Act} {Q : Exit → Act → World → Prop} {w : World} (hgd : o.guard = none) (s x : Operand) (t : TypeId)
    (ho : o.op = .call { callee := .builtin .append, args := #[s, x], argTypes := #[t, t] })
    (base : Nat) (e : TypeId) (i : TypeInfo) (z : Value) (size bytes : Nat) (ht : P.underlying t = some (.slice e)) (hi : P.info? e = some i) (hz : i.zero = some z)
    (hsize : i.size = size) (hby : i.bytes = bytes) (hzs : z.cells.size = size) (hsz : 0 < size)
    (v : Value) (n : Nat) (xs : List Value) (hs : a.eval s = v) (hown : w.ownsRow base e size v n xs)
    (y : Value) (m : Nat) (news : List Value) (hx : a.eval x = y) (hsrc : Src w y m size news)
    (h63 : n + m ≤ maxLen) (hbytes : (n + m) * bytes ≤ 140737488355328) (hbase : base ≤ w.heap.size)
    (h : ∀ v' w', w'.ownsRow base e size v' (n + m) (xs ++ news) → Keeps (fun k => v.ownBlock = some k) w w' → (∀ k, v'.ownBlock = some k → v.ownBlock = some k ∨ k = w.heap.size) →
      (v' = .slice none 0 0 ↔ v = .slice none 0 0 ∧ m = 0) → wpList P ops Q rest (a.put o.dst v') w') : wpList P ops Q (o :: rest) a w := by
  obtain ⟨v', w', hr, h2, h3, h4, h5⟩ := run_appS (P := P) w base t o.type e i z size bytes ht hi hz hsize hby hzs hsz v n xs hown y m news hsrc h63 hbytes hbase
  refine wpList_plain hgd fun K hK => ?_
  unfold Oper.wp execOp
  simp only [ho, resolve, invoke, builtin, Sem.run_bind, Sem.run_pure, Result.andThen_ok, List.map_toArray, List.map_cons, List.map_nil, hs, hx, hr]
  exact hK _ _ (h v' w' h2 h3 h4 h5)
/-- .. at a step of a region that draws its order. -/
theorem step_appS {ops : Array Oper} {o : Oper} {a : Act} {K : Act → World → Prop} {Q : Exit → Act → World → Prop} {E : Prop} {w : World} (hgd : o.guard = none) (s x : Operand) (t : TypeId)
    (ho : o.op = .call { callee := .builtin .append, args := #[s, x], argTypes := #[t, t] })
    (base : Nat) (e : TypeId) (i : TypeInfo) (z : Value) (size bytes : Nat) (ht : P.underlying t = some (.slice e)) (hi : P.info? e = some i) (hz : i.zero = some z)
    (hsize : i.size = size) (hby : i.bytes = bytes) (hzs : z.cells.size = size) (hsz : 0 < size)
    (v : Value) (n : Nat) (xs : List Value) (hs : a.eval s = v) (hown : w.ownsRow base e size v n xs)
    (y : Value) (m : Nat) (news : List Value) (hx : a.eval x = y) (hsrc : Src w y m size news)
    (h63 : n + m ≤ maxLen) (hbytes : (n + m) * bytes ≤ 140737488355328) (hbase : base ≤ w.heap.size)
    (h : ∀ v' w', w'.ownsRow base e size v' (n + m) (xs ++ news) → Keeps (fun k => v.ownBlock = some k) w w' → (∀ k, v'.ownBlock = some k → v.ownBlock = some k ∨ k = w.heap.size) →
      (v' = .slice none 0 0 ↔ v = .slice none 0 0 ∧ m = 0) → K (a.put o.dst v') w') :
    if Region.wanted o (yielded ops a.tmps) = true then Oper.wp P o a w K Q else E := by
  obtain ⟨v', w', hr, h2, h3, h4, h5⟩ := run_appS (P := P) w base t o.type e i z size bytes ht hi hz hsize hby hzs hsz v n xs hown y m news hsrc h63 hbytes hbase
  have hw : Region.wanted o (yielded ops a.tmps) = true := by simp [Region.wanted, hgd]
  rw [if_pos hw]
  unfold Oper.wp execOp
  simp only [ho, resolve, invoke, builtin, Sem.run_bind, Sem.run_pure, Result.andThen_ok, List.map_toArray, List.map_cons, List.map_nil, hs, hx, hr]
  exact h _ _ h2 h3 h4 h5
end
section
variable {w : World} {B E : Nat} {v : Value} {L : List (List Nat)}
theorem LsRow.size_le (h : LsRow w B v L) (h0 : 0 < L.length) : B ≤ w.heap.size := by
  obtain ⟨g, c, _, _, hB, hat⟩ := h.at_ h0
  obtain ⟨u, hu, _⟩ := hat 0 _ (List.getElem?_eq_getElem h0)
  have : g < w.heap.size := World.block_lt_of_cell? w _ hu
  omega
/-- The lists as what is appended. -/
theorem LsRow.src (h : LsRow w B v L) (h0 : 0 < L.length) : ∃ cells, cells.length = L.length ∧ Src w v L.length 1 cells ∧ ∀ (i : Nat) (l : List Nat), L[i]? = some l → ∃ u, cells[i]? = some u ∧ LRow w B u l := by
  obtain ⟨cells, h1, h2⟩ := h
  refine ⟨cells, by have := h1.1; omega, ?_, h2⟩
  have hone : ∀ u ∈ cells, u.oneCell' = true := fun u hu => by
    obtain ⟨i, hi, rfl⟩ := List.mem_iff_getElem.1 hu
    have hiL : i < L.length := by have := h1.1; omega
    obtain ⟨u', hu', hr⟩ := h2 i _ (List.getElem?_eq_getElem hiL)
    obtain ⟨a, c, e, _⟩ := hr.rd
    rw [List.getElem?_eq_getElem hi] at hu'
    cases hu'
    rw [e]; rfl
  rcases h1.2 with ⟨_, e⟩ | ⟨g, c, cur, rfl, _⟩
  · omega
  · exact .inr ⟨⟨g, 0, none⟩, c, rfl, h1.1, h1.cells rfl, hone⟩
theorem rwith (h : LsRow w B v L) (h0 : 0 < L.length) (hV : L.length ≤ 1048576) {n : Nat} (hn : n < L.length) {u : Value} {l : List Nat} (hu : LRow w B u l) (n' : Int) (hn' : n' = n) :
    Calls Tryd.prog 94 #[rval E v, .int .i64 n', u] w (RPost E B (L.set n l) w) := by
  subst hn'
  obtain ⟨i0, hi, hz0, hz1, hz2⟩ := info_parts infoS
  have hBw := h.size_le h0
  obtain ⟨ua, uc, rfl, _⟩ := hu.rd
  generalize hW : (w.alloc (.cells #[.int .i64 (E : Int), v] 27)).alloc (.cells #[.int .i64 0, .slice none 0 0] 27) = w0
  have hK : Keeps (fun _ => False) w w0 := by rw [← hW]; exact ((Keeps.refl _ _).alloc _).alloc _
  have HB1 : Hid (Blk w0 w.heap.size #[.int .i64 (E : Int), v] 27) := by rw [← hW]; exact (Blk.new w _ _).alloc _
  have HB2 : Hid (Blk w0 (w.heap.size + 1) #[.int .i64 0, .slice none 0 0] 27) := by rw [← hW]; exact Blk.newAt _ _ _ (by simp)
  obtain ⟨cells, hcl, hsrc, hrows⟩ := h.src h0
  have HU := Lib.hid hu
  have HROWS := Lib.hid hrows
  have HSRC := Lib.hid (hsrc.keep hK)
  have HK := Lib.hid hK
  have hBs : B ≤ w0.heap.size := Nat.le_trans hBw hK.size
  obtain ⟨va, vc, hv⟩ : ∃ a c, v = .slice a L.length c := by
    obtain ⟨_, h1, _⟩ := h
    exact ownsRow_slice h1
  subst hv
  clear h hu hsrc hrows hK
  unfold RPost rval
  go_enter Tryd.func94, Tryd.ntmps94
  go_upto_region 1 with fail
  clear hW
  have b1 := HB1.out.cell (i := 1)
  simp only [List.getElem?_toArray, List.getElem?_cons_zero, List.getElem?_cons_succ] at b1
  go_wp2_with (first | (at_builtin; refine wpList_appS rfl _ _ 25 rfl B 23 i0 (.slice none 0 0) 1 24 Tryd.underlying25 hi hz0 hz1 hz2 rfl (by decide) _ 0 [] rfl (World.ownsRow_nil _ _ _ _) _ L.length cells rfl HSRC.out ?c2 ?c3 ?c4 ?_))
  case c2 => unfold maxLen; omega
  case c3 => omega
  case c4 => exact hBs
  intro v1 w1 ho hk1 hob hnil
  have hv1 : v1 ≠ .slice none 0 0 := fun e => by have := hnil.1 e; simp [this] at h0
  have hk1' : Keeps (fun _ => False) w0 w1 := hk1.mono fun k _ e => by simp [Value.ownBlock] at e
  rcases ho.2 with ⟨e, _⟩ | ⟨g, c, cur, rfl, hBg, hgg, hnc, hcm, hcs, htk⟩
  · exact absurd e hv1
  · obtain ⟨u0, hu0, _⟩ := HROWS.out n _ (List.getElem?_eq_getElem hn)
    have hgw : w0.heap.size ≤ g := by
      rcases hob g rfl with e | e
      · simp [Value.ownBlock] at e
      · omega
    have hcell : w1.cell? ⟨g, n, none⟩ = some u0 := by rw [ho.cellAt n (by omega)]; exact hu0
    have hfr := ho.frozenAt n
    have hst := ho.stored n (.slice ua l.length uc)
    have HST := Lib.hid hst.1
    have HB1' := Lib.hid (HB1.out.kept hk1' id)
    have HB2' := Lib.hid (HB2.out.kept hk1' id)
    have c0 := HB1'.out.cell (i := 0)
    have e0 := HB2'.out.cell (i := 0)
    have e1 := HB2'.out.cell (i := 1)
    have f0 := HB2'.out.free 0
    have f1 := HB2'.out.free 1
    simp only [List.getElem?_toArray, List.getElem?_cons_zero, List.getElem?_cons_succ] at c0 e0 e1
    have HK1 := Lib.hid hk1'
    have hB1l := HB1.out.lt
    have hB2l := HB2.out.lt
    clear b1 hob hnil hv1 hk1 hk1' hgg hnc hcm hcs htk hst ho
    have hne1 : w.heap.size ≠ g := by omega
    have hne2 : w.heap.size + 1 ≠ g := by omega
    go_wp2_with fail
    have HW : Hid (Blk (((w1.setCell ⟨g, n, none⟩ (.slice ua l.length uc)).setCell ⟨w.heap.size + 1, 0, none⟩ (.int .i64 (E : Int))).setCell ⟨w.heap.size + 1, 1, none⟩ (.slice (some ⟨g, 0, none⟩) L.length c)) (w.heap.size + 1) #[.int .i64 (E : Int), .slice (some ⟨g, 0, none⟩) L.length c] 27) :=
      (((HB2'.out.set_other ⟨g, n, none⟩ (.slice ua l.length uc) hne2).set 0 (.int .i64 (E : Int))).set 1 (.slice (some ⟨g, 0, none⟩) L.length c))
    have HS1 : Hid (Keeps (fun k => k = w.heap.size + 1) (w1.setCell ⟨g, n, none⟩ (.slice ua l.length uc)) (((w1.setCell ⟨g, n, none⟩ (.slice ua l.length uc)).setCell ⟨w.heap.size + 1, 0, none⟩ (.int .i64 (E : Int))).setCell ⟨w.heap.size + 1, 1, none⟩ (.slice (some ⟨g, 0, none⟩) L.length c))) :=
      ((Keeps.refl (fun k => k = w.heap.size + 1) _).setIn (w.heap.size + 1) 0 _ rfl).setIn (w.heap.size + 1) 1 _ rfl
    have HKW : Hid (Keeps (fun _ => False) w (((w1.setCell ⟨g, n, none⟩ (.slice ua l.length uc)).setCell ⟨w.heap.size + 1, 0, none⟩ (.int .i64 (E : Int))).setCell ⟨w.heap.size + 1, 1, none⟩ (.slice (some ⟨g, 0, none⟩) L.length c))) :=
      (((HK.out.trans' HK1.out).setCell _ _ fun q => by simp only at q; omega).setCell _ _ fun q => by simp only at q; omega).setCell _ _ fun q => by simp only at q; omega
    have HKg : Hid (Keeps (fun k => k = g) w1 (w1.setCell ⟨g, n, none⟩ (.slice ua l.length uc))) := (Keeps.refl _ _).setCell _ _ fun _ => rfl
    generalize ((w1.setCell ⟨g, n, none⟩ (.slice ua l.length uc)).setCell ⟨w.heap.size + 1, 0, none⟩ (.int .i64 (E : Int))).setCell ⟨w.heap.size + 1, 1, none⟩ (.slice (some ⟨g, 0, none⟩) L.length c) = W at *
    have k0 := HW.out.cell (i := 0)
    have k1 := HW.out.cell (i := 1)
    refine bodyPost_ret (v := rval E (.slice (some ⟨g, 0, none⟩) L.length c)) (by simp at k0 k1; simp [results, Tryd.results94, go_sem, k0, k1, rval]) rfl ?_
    refine ⟨_, rfl, ⟨_, ownsRow_kept (by rw [List.length_set]; exact HST.out) HS1.out (fun k e q => by simp [Value.ownBlock] at e; omega), fun i l' hl' => ?_⟩, HKW.out⟩
    rw [set_get hn] at hl'
    split at hl'
    · rename_i ei
      subst ei
      cases hl'
      exact ⟨_, by rw [set_get (by omega), if_pos rfl], HU.out.keep HKW.out⟩
    · rename_i ei
      obtain ⟨u1, h1, h2⟩ := HROWS.out i l' hl'
      exact ⟨u1, by rw [set_get (by omega), if_neg ei]; exact h1, h2.keep HKW.out⟩
end
theorem nats_one (l : List Nat) : ∀ u ∈ nats l, u.oneCell' = true := by
  intro u hu
  simp [nats] at hu
  obtain ⟨n, _, rfl⟩ := hu
  rfl
theorem nats_take (l : List Nat) (k : Nat) : nats (l.take k) = (nats l).take k := by simp [nats, List.map_take]
theorem nats_drop (l : List Nat) (k : Nat) : nats (l.drop k) = (nats l).drop k := by simp [nats, List.map_drop]
section
variable {w : World} {B g c : Nat} {l : List Nat}
theorem LRow.head (h : LRow w B (.slice (some ⟨g, 0, none⟩) l.length c) l) (k : Nat) (hk : k ≤ l.length) (W : World) (hW : Keeps (fun _ => False) w W) : Src W (.slice (some ⟨g, 0, none⟩) k c) k 1 (nats (l.take k)) := by
  have h' := h.keep hW
  refine .inr ⟨_, _, rfl, by rw [nats_length, List.length_take]; omega, fun j u hu => ?_, nats_one _⟩
  rw [nats_take, List.getElem?_take] at hu
  split at hu
  · exact h'.1.cells rfl j u hu
  · cases hu
theorem LRow.tail (h : LRow w B (.slice (some ⟨g, 0, none⟩) l.length c) l) (k : Nat) (hk : k ≤ l.length) (W : World) (hW : Keeps (fun _ => False) w W) (AD : Addr) (c' m : Nat) (hm : m = l.length - k) (hA : AD = ⟨g, k, none⟩ ∨ l.length ≤ k) :
    Src W (.slice (some AD) m c') m 1 (nats (l.drop k)) := by
  subst hm
  have h' := h.keep hW
  refine .inr ⟨_, _, rfl, by rw [nats_length, List.length_drop]; omega, fun j u hu => ?_, nats_one _⟩
  rcases hA with rfl | hA
  · rw [nats_drop, List.getElem?_drop] at hu
    have := h'.1.cells (g := g) rfl (k + j) u hu
    have e1 : (⟨g, 0, none⟩ : Addr).add (k + j) = ⟨g, k + j, none⟩ := by unfold Addr.add; split <;> simp_all
    have e2 : (⟨g, k, none⟩ : Addr).add j = ⟨g, k + j, none⟩ := by
      unfold Addr.add; split
      · rename_i e; simp_all
      · rfl
    rw [e1] at this
    rw [e2]; exact this
  · rw [List.drop_of_length_le hA] at hu
    simp [nats] at hu
end
/-- A new dart as what is appended. -/
theorem src_new {w W : World} {b : Nat} {d : Nat} {t : TypeId} (h : Blk w b #[.int .i64 (d : Int)] t) (hW : Keeps (fun _ => False) w W) : Src W (.slice (some ⟨b, 0, none⟩) 1 1) 1 1 (nats [d]) := by
  have h' := h.kept hW id
  refine .inr ⟨_, _, rfl, rfl, fun j u hu => ?_, nats_one _⟩
  have e1 : (⟨b, 0, none⟩ : Addr).add j = ⟨b, j, none⟩ := by unfold Addr.add; split <;> simp_all
  rw [e1, h'.cell]
  simpa [nats] using hu
theorem ins_at {l : List Nat} (hn : l.Nodup) (b : Int) (d : Nat) : ∃ K, K ≤ l.length ∧ (∀ i, i < l.length → (((l.getD i 0 : Nat) : Int) = b ↔ i = K)) ∧
    insB b d l = l.take ((if K < l.length then K else l.length - 1) + 1) ++ d :: l.drop ((if K < l.length then K else l.length - 1) + 1) := by
  by_cases h : ∃ i, i < l.length ∧ ((l.getD i 0 : Nat) : Int) = b
  · obtain ⟨K, hK, rfl⟩ := h
    refine ⟨K, by omega, fun i hi => ⟨fun e => getD_inj hn hi hK (by omega), fun e => by rw [e]⟩, ?_⟩
    rw [if_pos hK, getD_at hK]
    exact insB_at hn hK
  · refine ⟨l.length, Nat.le_refl _, fun i hi => ⟨fun e => absurd ⟨i, hi, e⟩ h, fun e => by omega⟩, ?_⟩
    rw [if_neg (by omega), insB_not fun x hx e => ?_]
    · by_cases h0 : l = []
      · subst h0; simp
      · have : 0 < l.length := by
          cases l with
          | nil => exact absurd rfl h0
          | cons a l => simp
        rw [show l.length - 1 + 1 = l.length by omega, List.take_length, List.drop_length]
    · obtain ⟨i, hi, rfl⟩ := mem_getD hx
      exact h ⟨i, hi, e⟩
section
variable {w : World} {B E : Nat} {v : Value} {L : List (List Nat)}
theorem ownsRow_ne {w : World} {base : Nat} {e t : TypeId} {size : Nat} {v : Value} {n b : Nat} {xs : List Value} {cs : Array Value} (h : w.ownsRow base e size v n xs) (hb : Blk w b cs t) (ht : t ≠ e) : ∀ k, v.ownBlock = some k → ¬ k = b := by
  rintro k hk rfl
  rcases h.2 with ⟨rfl, _⟩ | ⟨g, c, cur, rfl, _, hg, _⟩
  · simp [Value.ownBlock] at hk
  · simp [Value.ownBlock] at hk
    subst hk
    rw [show w.heap[g]? = _ from hb] at hg
    simp at hg
    exact ht hg.2
theorem LRow.setOther {w w' : World} {B b : Nat} {u : Value} {l : List Nat} {cs : Array Value} {t : TypeId} (h : LRow w B u l) (hb : Blk w b cs t) (ht : t ≠ 3) (hk : Keeps (fun k => k = b) w w') : LRow w' B u l :=
  ⟨ownsRow_kept h.1 hk (ownsRow_ne h.1 hb ht), h.2⟩
theorem LsRow.setOther {w w' : World} {B b : Nat} {v : Value} {L : List (List Nat)} {cs : Array Value} {t : TypeId} (h : LsRow w B v L) (hb : Blk w b cs t) (ht : t ≠ 3) (ht2 : t ≠ 23) (hk : Keeps (fun k => k = b) w w') : LsRow w' B v L := by
  obtain ⟨cells, h1, h2⟩ := h
  refine ⟨cells, ownsRow_kept h1 hk (ownsRow_ne h1 hb ht2), fun i l hl => ?_⟩
  obtain ⟨u, hu, hr⟩ := h2 i l hl
  exact ⟨u, hu, hr.setOther hb ht hk⟩
theorem app_chain {w0 W0 w1 W1 w2 w3 : World} {v1 v2 : Value} (k0 : Keeps (fun _ => False) w0 W0) (hk1 : Keeps (fun _ => False) W0 w1) (hb1 : ∀ k, v1.ownBlock = some k → (Value.slice none 0 0).ownBlock = some k ∨ k = W0.heap.size)
    (k1 : Keeps (fun _ => False) w1 W1) (hk2 : Keeps (fun k => v1.ownBlock = some k) W1 w2) (hb2 : ∀ k, v2.ownBlock = some k → v1.ownBlock = some k ∨ k = W1.heap.size) (hk3 : Keeps (fun k => v2.ownBlock = some k) w2 w3) : Keeps (fun _ => False) w0 w3 := by
  have s0 := k0.size
  have s1 := hk1.size
  have s2 := k1.size
  have e1 : ∀ k, v1.ownBlock = some k → w0.heap.size ≤ k := fun k e => by
    rcases hb1 k e with h | h
    · simp [Value.ownBlock] at h
    · omega
  have e2 : ∀ k, v2.ownBlock = some k → w0.heap.size ≤ k := fun k e => by
    rcases hb2 k e with h | h
    · exact e1 k h
    · omega
  exact ((((k0.trans' hk1).trans' k1).trans hk2 fun i hi e => by have := e1 i e; omega)).trans hk3 fun i hi e => by have := e2 i e; omega
/-- What the three appends leave. -/
def PutCut (B : Nat) (l : List Nat) (w0 : World) (t : Value) (wc : World) : Prop := LRow wc B t l ∧ Keeps (fun _ => False) w0 wc
theorem putCut {B d : Nat} {l1 l2 : List Nat} {w0 wc : World} {t : Value} {n : Nat} {xs : List Value} (h : wc.ownsRow B 3 1 t n xs) (hn : n = l1.length + 1 + l2.length) (hx : xs = nats l1 ++ nats [d] ++ nats l2) (hk : Keeps (fun _ => False) w0 wc) : PutCut B (l1 ++ d :: l2) w0 t wc := by
  subst hn hx
  refine ⟨⟨?_, fun e => by simp at e⟩, hk⟩
  have e1 : l1.length + 1 + l2.length = (l1 ++ d :: l2).length := by simp; omega
  have e2 : nats l1 ++ nats [d] ++ nats l2 = nats (l1 ++ d :: l2) := by simp [nats]
  rw [e1, e2] at h
  exact h
set_option maxHeartbeats 2000000 in
theorem rput (h : LsRow w B v L) (hw : WF E L) (hV : L.length ≤ 1048576) (hE : E ≤ 1048576) {n d : Nat} {l : List Nat} (hl : L[n]? = some l) (hd : d < 2097152) (b : Int) (d' n' : Int) (hd' : d' = d) (hn' : n' = n) :
    Calls Tryd.prog 96 #[rval E v, .int .i64 d', .int .i64 n', .int .i64 b] w (RPost E B (putL L d n b) w) := by
  subst hd' hn'
  have hn := (List.getElem?_eq_some_iff.1 hl).1
  have h0 : 0 < L.length := by omega
  obtain ⟨i0, hi, hz0, hz1, hz2⟩ := info_parts infoI
  have hBw := h.size_le h0
  have hnd := hw.nd hl
  have hll : l.length ≤ 2 * E := by
    have h1 : l.length ≤ (List.range (2 * E)).length := List.Nodup.length_le_of_subset (hw.nd hl) (fun x hx => List.mem_range.2 (hw.bd hl hx))
    simpa using h1
  obtain ⟨K, hK, hKi, hins⟩ := ins_at hnd b d
  have HWI := Lib.hid (fun W (hk : Keeps (fun _ => False) w W) (u : Value) (hu : LRow W B u (insB b d l)) => rwith (E := E) (h.keep hk) h0 hV hn hu (n : Int) rfl)
  have hput : L.set n (insB b d l) = putL L d n b := by unfold putL; rw [getD_some hl]
  rw [hput] at HWI
  rw [hins] at HWI
  obtain ⟨g, c, rfl, hc, hB, hat⟩ := h.at_ h0
  obtain ⟨u, hu, hrow⟩ := hat n l hl
  have hgb : g < w.heap.size := World.block_lt_of_cell? w _ hu
  generalize hW : (w.alloc (.cells #[.int .i64 (E : Int), .slice (some ⟨g, 0, none⟩) L.length c] 27)).alloc (.cells #[.int .i64 0, .slice none 0 0] 27) = w0
  have hK0 : Keeps (fun _ => False) w w0 := by rw [← hW]; exact ((Keeps.refl _ _).alloc _).alloc _
  have HB1 : Hid (Blk w0 w.heap.size #[.int .i64 (E : Int), .slice (some ⟨g, 0, none⟩) L.length c] 27) := by rw [← hW]; exact (Blk.new w _ _).alloc _
  have HB2 : Hid (Blk w0 (w.heap.size + 1) #[.int .i64 0, .slice none 0 0] 27) := by rw [← hW]; exact Blk.newAt _ _ _ (by simp)
  have HK0 := Lib.hid hK0
  have hu0 := hK0.cellF hu
  have HROW := Lib.hid (hrow.keep hK0)
  have hBs : B ≤ w0.heap.size := Nat.le_trans hBw hK0.size
  have HI := Lib.hid hi
  clear h hat hu hrow hput hins hw hl hnd hK0
  generalize putL L d n b = L2 at *
  unfold RPost rval
  rcases HROW.out.1.2 with ⟨rfl, hlen⟩ | ⟨g2, c2, cur, rfl, hBg, hgg, hnc, _⟩
  · have hnil : l = [] := List.eq_nil_of_length_eq_zero hlen
    subst hnil
    go_enter Tryd.func96, Tryd.ntmps96
    go_upto_region 1 with fail
    clear hW
    have b1 := HB1.out.cell (i := 1)
    simp only [List.getElem?_toArray, List.getElem?_cons_zero, List.getElem?_cons_succ] at b1
    go_wp2_with fail
    go_loopw [10, 11] (fun a i wr => w0 = wr ∧ a = .int .i64 (-1) ∧ i = .int .i64 0) (fun _ _ _ => 0)
    case atStart => exact ⟨rfl, rfl, rfl⟩
    case round =>
      obtain ⟨rfl, rfl, rfl⟩ := hrel
      go_upto_region 9 with fail
      have hw00 : IntKind.i64.wrap 0 = 0 := by decide
      go_cut [12] (fun t wc => Hid (PutCut B ([] ++ d :: []) w0 t wc))
      case first =>
        go_region_held3 (fun _ => True) (trivial)
          (first
            | (refine step_appS rfl _ _ 23 rfl B 3 i0 (.int .i64 0) 1 8 Tryd.underlying23 HI.out hz0 hz1 hz2 rfl (by decide) (.slice none 0 0) 0 [] rfl (World.ownsRow_nil _ _ _ _) _ 0 [] rfl (.inl ⟨rfl, rfl, rfl⟩) (by first | decide | (unfold maxLen; omega) | omega) (by first | decide | (unfold maxLen; omega) | omega) (by first | exact hBs | (simp; omega)) ?_; intro v1 w1 ho1 hk1 hb1 hn1; have hs1 := hk1.size; have hk1' : Keeps (fun _ => False) _ w1 := hk1.mono fun _ _ e => by simp [Value.ownBlock] at e)
            | (refine step_appS rfl _ _ 23 rfl B 3 i0 (.int .i64 0) 1 8 Tryd.underlying23 HI.out hz0 hz1 hz2 rfl (by decide) v1 _ _ rfl (by first | exact ho1 | exact ho1.alloc _) _ 1 (nats [d]) rfl (by first | exact src_new (Blk.new _ _ _) (Keeps.refl _ _) | exact src_new (by exact Blk.new _ _ _) hk1') (by first | decide | (unfold maxLen; omega) | omega) (by first | decide | (unfold maxLen; omega) | omega) (by first | exact Nat.le_trans hBs hs1 | (simp at hs1 ⊢; omega)) ?_; intro v2 w2 ho2 hk2 hb2 hn2; have hs2 := hk2.size)
            | (refine step_appS rfl _ _ 23 rfl B 3 i0 (.int .i64 0) 1 8 Tryd.underlying23 HI.out hz0 hz1 hz2 rfl (by decide) v2 _ _ rfl ho2 _ 0 [] rfl (.inl ⟨rfl, rfl, rfl⟩) (by first | decide | (unfold maxLen; omega) | omega) (by first | decide | (unfold maxLen; omega) | omega) (by simp at hs1 hs2; omega) ?_; intro v3 w3 ho3 hk3 hb3 hn3)
            | fail)
        all_goals
          have HP : Hid (PutCut B ([] ++ d :: []) w0 v3 w3) := putCut ho3 rfl rfl (app_chain (by repeat (first | exact Keeps.refl _ _ | refine Keeps.drew ?_ | refine Keeps.alloc ?_ _)) hk1' hb1 (by first | exact Keeps.refl _ _ | exact (Keeps.refl _ _).alloc _) hk2 hb2 hk3)
          clear ho1 hk1 hb1 hn1 hs1 hk1' ho2 hk2 hb2 hn2 hs2 ho3 hk3 hb3 hn3
          go_wp2_with fail
          go_meet
          exact HP
      case rest =>
        obtain ⟨hrow, hkc⟩ := hcut.out
        have hk2 := HK0.out.trans' hkc
        have hB1' := HB1.out.kept hkc id
        have hB2' := HB2.out.kept hkc id
        have c0 := hB1'.cell (i := 0)
        have c1 := hB1'.cell (i := 1)
        simp only [List.getElem?_toArray, List.getElem?_cons_zero, List.getElem?_cons_succ] at c0 c1
        have hwi := Lib.hid (HWI.out wc hk2 _ (by simpa using hrow))
        have HK2 := Lib.hid hk2
        have HB2' := Lib.hid hB2'
        unfold RPost rval at hwi
        clear hcut hrow hkc hk2 hB1' hB2'
        go_wp2_with fail
        refine hwi.out.mono ?_
        rintro e w4 ⟨v4, rfl, hls, hk4⟩
        obtain ⟨v4a, v4c, rfl⟩ : ∃ a c, v4 = .slice a L2.length c := by
          obtain ⟨_, h1, _⟩ := hls
          exact ownsRow_slice h1
        have hB2'' := HB2'.out.kept hk4 id
        have e0 := hB2''.cell (i := 0)
        have e1 := hB2''.cell (i := 1)
        have f0 := hB2''.free 0
        have f1 := hB2''.free 1
        have hlt := hB2''.lt
        simp only [List.getElem?_toArray, List.getElem?_cons_zero, List.getElem?_cons_succ] at e0 e1
        have HW := Lib.hid ((hB2''.set 0 (.int .i64 (E : Int))).set 1 (.slice v4a L2.length v4c))
        have HKW : Hid (Keeps (fun _ => False) w ((w4.setCell ⟨w.heap.size + 1, 0, none⟩ (.int .i64 (E : Int))).setCell ⟨w.heap.size + 1, 1, none⟩ (.slice v4a L2.length v4c))) :=
          ((HK2.out.trans' hk4).setNew (Nat.le_succ _) 0 _).setNew (Nat.le_succ _) 1 _
        have HLS := Lib.hid (hls.setOther hB2'' (by decide) (by decide) (((Keeps.refl (fun k => k = w.heap.size + 1) w4).setIn (w.heap.size + 1) 0 (.int .i64 (E : Int)) rfl).setIn (w.heap.size + 1) 1 (.slice v4a L2.length v4c) rfl))
        clear hB2'' hls hk4
        go_wp2_with fail
        generalize (w4.setCell ⟨w.heap.size + 1, 0, none⟩ (.int .i64 (E : Int))).setCell ⟨w.heap.size + 1, 1, none⟩ (.slice v4a L2.length v4c) = W at *
        have k0 := HW.out.cell (i := 0)
        have k1 := HW.out.cell (i := 1)
        refine bodyPost_ret (v := rval E (.slice v4a L2.length v4c)) (by simp at k0 k1; simp [results, Tryd.results96, go_sem, k0, k1, rval]) rfl ?_
        exact ⟨_, rfl, HLS.out, HKW.out⟩
  · have hlp : 0 < l.length := by
      rcases Nat.eq_zero_or_pos l.length with h | h
      · have h1 := HROW.out.2 (List.eq_nil_of_length_eq_zero h)
        simp at h1
      · exact h
    have hcell : ∀ i, i < l.length → w0.cell? ⟨g2, i, none⟩ = some (.int .i64 ((l.getD i 0 : Nat) : Int)) := fun i hi => by
      rw [HROW.out.1.cellAt i (by omega), nats_get hi]
    have HC := Lib.hid hcell
    have HKI := Lib.hid hKi
    clear hcell hKi
    obtain ⟨A, hA⟩ : ∃ A, A = if K < l.length then K else l.length - 1 := ⟨_, rfl⟩
    have HAA := Lib.hid hA.symm
    have hAl : A + 1 ≤ l.length := by rw [hA]; split <;> omega
    clear hA
    have hcc : ((c2 = A + 1) = False ∧ True) ∨ ((c2 = A + 1) = True ∧ l.length ≤ A + 1) := by
      by_cases hcap : c2 = A + 1
      · exact .inr ⟨eq_true hcap, by omega⟩
      · exact .inl ⟨eq_false hcap, trivial⟩
    have HCC := Lib.hid hcc
    have hw1 : wrap64 ((l.length : Int) - 1) = (l.length : Int) - 1 := by unfold wrap64; omega
    clear hcc
    go_enter Tryd.func96, Tryd.ntmps96
    go_upto_region 1 with fail
    clear hW
    have b1 := HB1.out.cell (i := 1)
    simp only [List.getElem?_toArray, List.getElem?_cons_zero, List.getElem?_cons_succ] at b1
    go_wp2_with fail
    go_loopw [10, 11] (fun a i wr => w0 = wr ∧ ∃ (k : Nat) (ak : Int), k ≤ l.length ∧ a = .int .i64 ak ∧ i = .int .i64 (k : Int) ∧ Hid (ak = if K < k then (K : Int) else (l.length : Int) - 1)) (fun _ i _ => l.length - (intOf i).toNat)
    case atStart => exact ⟨rfl, 0, _, Nat.zero_le _, rfl, rfl, rfl⟩
    case round =>
      obtain ⟨rfl, k, ak, hk, rfl, rfl, HAK⟩ := hrel
      by_cases hkl : k < l.length
      · have hck := HC.out k hkl
        have hki := HKI.out k hkl
        generalize ((l.getD k 0 : Nat) : Int) = x at *
        by_cases hkK : k = K
        · obtain rfl : x = b := hki.2 hkK
          subst hkK
          have hb : (x == x) = true := by simp
          have HN : Hid ((k : Int) = if k < k + 1 then (k : Int) else (l.length : Int) - 1) := (if_pos (Nat.lt_succ_self k)).symm
          clear hki
          go_wp2_with fail
          refine ⟨⟨trivial, k + 1, _, hkl, rfl, by go_num, HN⟩, by simp [intOf]; omega⟩
        · have hb : (x == b) = false := by rw [beq_eq_false_iff_ne]; exact fun e => hkK (hki.1 e)
          have HN : Hid (ak = if K < k + 1 then (K : Int) else (l.length : Int) - 1) := by
            show ak = _
            rw [HAK.out]
            by_cases h : K < k
            · rw [if_pos h, if_pos (by omega)]
            · rw [if_neg h, if_neg (by omega)]
          clear hki
          go_wp2_with fail
          refine ⟨⟨trivial, k + 1, _, hkl, rfl, by go_num, HN⟩, by simp [intOf]; omega⟩
      · obtain rfl : k = l.length := by omega
        obtain rfl : ak = (A : Int) := by
          rw [HAK.out, ← HAA.out]; split <;> omega
        clear HAK
        go_upto_region 9 with fail
        have hb1 : (0 : Int) ≤ (A : Int) + 1 := by omega
        have hb2 : (A : Int) + 1 ≤ (c2 : Int) := by omega
        have hb3 : (A : Int) + 1 ≤ (l.length : Int) := by omega
        have hb5 : (l.length : Int) ≤ (c2 : Int) := by omega
        have hb6 : IntKind.i64.wrap ((A : Int) + 1) = (A : Int) + 1 := by rw [IntKind.wrap_i64]; omega
        have hb7 : wrap64 ((A : Int) + 1) = (A : Int) + 1 := by unfold wrap64; omega
        have HLL : Hid ((l.take (A + 1)).length + 1 + (l.drop (A + 1)).length = 0 + (A + 1) + 1 + (l.length - (A + 1))) := by
          show (l.take (A + 1)).length + 1 + (l.drop (A + 1)).length = _
          rw [List.length_take, List.length_drop]; exact ar_len hAl
        have HMX := Lib.hid (ar_mx hAl hll hE)
        go_cut [12] (fun t wc => Hid (PutCut B (l.take (A + 1) ++ d :: l.drop (A + 1)) w0 t wc))
        case first =>
          have hkd : Keeps (fun _ => False) w0 w0.drew := (Keeps.refl _ _).drew
          have hka : Keeps (fun _ => False) w0 (w0.alloc (.cells #[.int .i64 (d : Int)] 3)).drew := ((Keeps.refl _ _).alloc _).drew
          have HKD := Lib.hid hkd
          have HKA := Lib.hid hka
          have HHD := Lib.hid (HROW.out.head (A + 1) hAl)
          have HTL := Lib.hid (HROW.out.tail (A + 1) hAl)
          have HBD := Lib.hid (Nat.le_trans hBs hkd.size)
          have HBA := Lib.hid (Nat.le_trans hBs hka.size)
          clear hkd hka
          rcases HCC.out with ⟨hcap1, HCL⟩ | ⟨hcap1, hcl⟩
          case' inr => have HCL := Lib.hid hcl; clear hcl
          all_goals
            go_region_held3 (fun _ => True) (trivial)
              (first
                | (refine step_appS rfl _ _ 23 rfl B 3 i0 (.int .i64 0) 1 8 Tryd.underlying23 HI.out hz0 hz1 hz2 rfl (by decide) (.slice none 0 0) 0 [] rfl (World.ownsRow_nil _ _ _ _) _ (A + 1) (nats (l.take (A + 1))) rfl (HHD.out _ HKD.out) HMX.out.1 HMX.out.2.1 HBD.out ?_; intro v1 w1 ho1 hk1 hb1 hn1; have hk1' : Keeps (fun _ => False) _ w1 := hk1.mono fun _ _ e => by simp [Value.ownBlock] at e)
                | (refine step_appS rfl _ _ 23 rfl B 3 i0 (.int .i64 0) 1 8 Tryd.underlying23 HI.out hz0 hz1 hz2 rfl (by decide) (.slice none 0 0) 0 [] rfl (World.ownsRow_nil _ _ _ _) _ (A + 1) (nats (l.take (A + 1))) rfl (HHD.out _ HKA.out) HMX.out.1 HMX.out.2.1 HBA.out ?_; intro v1 w1 ho1 hk1 hb1 hn1; have hk1' : Keeps (fun _ => False) _ w1 := hk1.mono fun _ _ e => by simp [Value.ownBlock] at e)
                | (refine step_appS rfl _ _ 23 rfl B 3 i0 (.int .i64 0) 1 8 Tryd.underlying23 HI.out hz0 hz1 hz2 rfl (by decide) v1 _ _ rfl ho1 _ 1 (nats [d]) rfl (src_new (by exact Blk.new _ _ _) hk1') HMX.out.2.2.1 HMX.out.2.2.2.1 (Nat.le_trans HBA.out hk1'.size) ?_; intro v2 w2 ho2 hk2 hb2 hn2; have hc3 := app_chain HKA.out hk1' hb1 (Keeps.refl _ _) hk2 hb2 (Keeps.refl _ _))
                | (refine step_appS rfl _ _ 23 rfl B 3 i0 (.int .i64 0) 1 8 Tryd.underlying23 HI.out hz0 hz1 hz2 rfl (by decide) v1 _ _ rfl (ho1.alloc _) _ 1 (nats [d]) rfl (src_new (Blk.new w1 _ _) (Keeps.refl _ _)) HMX.out.2.2.1 HMX.out.2.2.2.1 (Nat.le_trans HBD.out (Nat.le_trans hk1'.size ((Keeps.refl (fun _ => False) _).alloc _).size)) ?_; intro v2 w2 ho2 hk2 hb2 hn2; have hc3 := app_chain HKD.out hk1' hb1 ((Keeps.refl _ _).alloc _) hk2 hb2 (Keeps.refl _ _))
                | (refine step_appS rfl _ _ 23 rfl B 3 i0 (.int .i64 0) 1 8 Tryd.underlying23 HI.out hz0 hz1 hz2 rfl (by decide) v2 _ _ rfl ho2 _ (l.length - (A + 1)) (nats (l.drop (A + 1))) rfl (HTL.out _ hc3 _ _ _ rfl (by first | exact .inl rfl | exact .inr HCL.out)) HMX.out.2.2.2.2.1 HMX.out.2.2.2.2.2 (Nat.le_trans hBs hc3.size) ?_; intro v3 w3 ho3 hk3 hb3 hn3)
                | fail)
            all_goals
              have HP : Hid (PutCut B (l.take (A + 1) ++ d :: l.drop (A + 1)) w0 v3 w3) := putCut ho3 HLL.out.symm (by simp only [List.nil_append]) (hc3.trans hk3 fun i hi e => by
                rcases hb2 i e with h | h
                · rcases hb1 i h with h2 | h2
                  · simp [Value.ownBlock] at h2
                  · exact absurd hi (Nat.not_lt.2 (by rw [h2]; first | exact HKD.out.size | exact HKA.out.size))
                · exact absurd hi (Nat.not_lt.2 (by rw [h]; first | exact Nat.le_trans HKA.out.size hk1'.size | exact Nat.le_trans HKD.out.size (Nat.le_trans hk1'.size ((Keeps.refl (fun _ => False) _).alloc _).size))))
              clear ho1 hk1 hb1 hn1 hk1' ho2 hk2 hb2 hn2 hc3 ho3 hk3 hb3 hn3
              go_wp2_with fail
              go_meet
              exact HP
        case rest =>
          obtain ⟨hrow, hkc⟩ := hcut.out
          have hk2 := HK0.out.trans' hkc
          have hB1' := HB1.out.kept hkc id
          have hB2' := HB2.out.kept hkc id
          have c0 := hB1'.cell (i := 0)
          have c1 := hB1'.cell (i := 1)
          simp only [List.getElem?_toArray, List.getElem?_cons_zero, List.getElem?_cons_succ] at c0 c1
          have hwi := Lib.hid (HWI.out wc hk2 _ (by have := hrow; rw [← HAA.out] at this; exact this))
          have HK2 := Lib.hid hk2
          have HB2' := Lib.hid hB2'
          unfold RPost rval at hwi
          clear hcut hrow hkc hk2 hB1' hB2'
          go_wp2_with fail
          refine hwi.out.mono ?_
          rintro e w4 ⟨v4, rfl, hls, hk4⟩
          obtain ⟨v4a, v4c, rfl⟩ : ∃ a c, v4 = .slice a L2.length c := by
            obtain ⟨_, h1, _⟩ := hls
            exact ownsRow_slice h1
          have hB2'' := HB2'.out.kept hk4 id
          have e0 := hB2''.cell (i := 0)
          have e1 := hB2''.cell (i := 1)
          have f0 := hB2''.free 0
          have f1 := hB2''.free 1
          have hlt := hB2''.lt
          simp only [List.getElem?_toArray, List.getElem?_cons_zero, List.getElem?_cons_succ] at e0 e1
          have HW := Lib.hid ((hB2''.set 0 (.int .i64 (E : Int))).set 1 (.slice v4a L2.length v4c))
          have HKW : Hid (Keeps (fun _ => False) w ((w4.setCell ⟨w.heap.size + 1, 0, none⟩ (.int .i64 (E : Int))).setCell ⟨w.heap.size + 1, 1, none⟩ (.slice v4a L2.length v4c))) :=
            ((HK2.out.trans' hk4).setNew (Nat.le_succ _) 0 _).setNew (Nat.le_succ _) 1 _
          have HLS := Lib.hid (hls.setOther hB2'' (by decide) (by decide) (((Keeps.refl (fun k => k = w.heap.size + 1) w4).setIn (w.heap.size + 1) 0 (.int .i64 (E : Int)) rfl).setIn (w.heap.size + 1) 1 (.slice v4a L2.length v4c) rfl))
          clear hB2'' hls hk4
          go_wp2_with fail
          generalize (w4.setCell ⟨w.heap.size + 1, 0, none⟩ (.int .i64 (E : Int))).setCell ⟨w.heap.size + 1, 1, none⟩ (.slice v4a L2.length v4c) = W at *
          have k0 := HW.out.cell (i := 0)
          have k1 := HW.out.cell (i := 1)
          refine bodyPost_ret (v := rval E (.slice v4a L2.length v4c)) (by simp at k0 k1; simp [results, Tryd.results96, go_sem, k0, k1, rval]) rfl ?_
          exact ⟨_, rfl, HLS.out, HKW.out⟩
end
theorem ne_zero_of {j k : Nat} (h : j < k) : (k : Int) ≠ 0 ∧ ((k : Int) == 0) = false := ⟨by omega, by rw [beq_eq_false_iff_ne]; omega⟩
theorem add_tmod (a j k : Nat) : (((a : Nat) : Int) + (j : Int)).tmod (k : Int) = (((a + j) % k : Nat) : Int) := by
  rw [show ((a : Nat) : Int) + (j : Int) = ((a + j : Nat) : Int) by omega, ← Int.ofNat_tmod]
theorem fndV_at {E : Nat} {L : List (List Nat)} (h : WF E L) {d : Nat} (hd : Stands L d) : fndV L d = vtx L d ∧ fndI L d = pos L d := by
  unfold fndV fndI
  rw [Int.toNat_natCast, if_pos ⟨by omega, hd⟩, if_pos ⟨by omega, hd⟩]
  exact ⟨rfl, rfl⟩
section
variable {w : World} {B E : Nat} {v : Value} {L : List (List Nat)}
/-- The place so many steps on. -/
theorem step_at {n i : Nat} (hi : i < n) (hn : n ≤ 2097152) (by_ : Int) (hb : by_ = 1 ∨ by_ = -1) :
    ((i : Int) + by_ + n).tmod n = ((if by_ = 1 then sc n i else pc n i : Nat) : Int) := by
  rcases hb with rfl | rfl
  · rw [if_pos rfl, sc_mod hi, show (i : Int) + 1 + n = ((i + 1 + n : Nat) : Int) by omega, ← Int.ofNat_tmod, Nat.add_mod_right]
  · rw [if_neg (by decide), pc_mod hi, show (i : Int) + -1 + n = ((i + n - 1 : Nat) : Int) by omega, ← Int.ofNat_tmod]
theorem rnext (h : LsRow w B v L) (hw : WF E L) (hV : L.length ≤ 1048576) (hE : E ≤ 1048576) {d : Nat} (hd : Stands L d) (by_ : Int) (hb : by_ = 1 ∨ by_ = -1) :
    Calls Tryd.prog 107 #[rval E v, .int .i64 (d : Int), .int .i64 by_] w (RetPost (.int .i64 (if by_ = 1 then nxt L d else prv L d : Nat)) w) := by
  obtain ⟨n, l, i, hl, hi, rfl⟩ := stands_ex hd
  have hn := (List.getElem?_eq_some_iff.1 hl).1
  have h0 : 0 < L.length := by omega
  have HF := Lib.hid (fun W (hk : Keeps (fun _ => False) w W) => rfind (h.keep hk) hw h0 hV hE ((l.getD i 0 : Nat) : Int))
  obtain ⟨e1, e2⟩ := fnd_hit hw hl hi
  obtain ⟨_, _, e3, e4⟩ := hw.at_ hl hi
  rw [e1, e2] at HF
  rw [e3, e4]
  have hll : l.length ≤ 2 * E := by
    have h1 : l.length ≤ (List.range (2 * E)).length := List.Nodup.length_le_of_subset (hw.nd hl) (fun x hx => List.mem_range.2 (hw.bd hl hx))
    simpa using h1
  have hST := Lib.hid (step_at hi (by omega) by_ hb)
  obtain ⟨j, hj, hjl⟩ : ∃ j, j = (if by_ = 1 then sc l.length i else pc l.length i) ∧ j < l.length := ⟨_, rfl, by split; exact sc_lt hi; exact pc_lt hi⟩
  have hval : (if by_ = 1 then l.getD (sc l.length i) 0 else l.getD (pc l.length i) 0) = l.getD j 0 := by rw [hj]; split <;> rfl
  rw [hval]
  rw [← hj] at hST
  obtain ⟨g, c, rfl, hc, hB, hat⟩ := h.at_ h0
  obtain ⟨u, hu, hrow⟩ := hat n l hl
  have hgb : g < w.heap.size := World.block_lt_of_cell? w _ hu
  have HB : Hid (Blk (w.alloc (.cells #[.int .i64 (E : Int), .slice (some ⟨g, 0, none⟩) L.length c] 27)) w.heap.size #[.int .i64 (E : Int), .slice (some ⟨g, 0, none⟩) L.length c] 27) := Blk.new w _ _
  have HK := Lib.hid ((Keeps.refl (fun _ => False) w).alloc (.cells #[.int .i64 (E : Int), .slice (some ⟨g, 0, none⟩) L.length c] 27))
  obtain ⟨a, c2, rfl, hrd⟩ := hrow.rd
  obtain ⟨b, off, rfl, hcell⟩ := hrd.nat hjl
  have HU := Lib.hid hu
  have HC := Lib.hid hcell
  have HF2 := Lib.hid (HF.out _ HK.out)
  generalize ((l.getD i 0 : Nat) : Int) = x at *
  generalize ((l.getD j 0 : Nat) : Int) = y at *
  have hbw : b < w.heap.size := World.block_lt_of_cell? w _ hcell
  clear h hat hu hrow hrd hcell HF hw hd e1 e2 e3 e4 hval hl hj
  unfold rval RetPost at *
  go_enter Tryd.func107, Tryd.ntmps107
  go_wp2_with fail
  refine (HF2.out).mono ?_
  rintro e w2 ⟨rfl, hk2⟩
  have HK2 := Lib.hid (HK.out.trans' hk2)
  have b1 := (HB.out.kept hk2 id).cell (i := 1)
  simp only [List.getElem?_toArray, List.getElem?_cons_zero, List.getElem?_cons_succ] at b1
  have hu := HK2.out.cellF HU.out
  have hcell := HK2.out.cellF HC.out
  have hST' := hST.out
  have w1 : IntKind.i64.wrap ((i : Int) + by_) = (i : Int) + by_ := by rw [IntKind.wrap_i64]; omega
  have w2' : IntKind.i64.wrap ((i : Int) + by_ + (l.length : Int)) = (i : Int) + by_ + (l.length : Int) := by rw [IntKind.wrap_i64]; omega
  have w3 : IntKind.i64.wrap (j : Int) = (j : Int) := by rw [IntKind.wrap_i64]; omega
  have hl0 : ((l.length : Int) == 0) = false := by rw [beq_eq_false_iff_ne]; omega
  have hl1 : (l.length : Int) ≠ 0 := by omega
  have hjl2 : (j : Int) < (l.length : Int) := by omega
  have hj0 : (0 : Int) ≤ (j : Int) := by omega
  clear hk2
  go_wp2_with fail
  go_quiet (fail)
  go_wp2_with fail
  go_ret
  exact ⟨rfl, by first | exact HK2.out.drewN _ | exact HK2.out.drew⟩
/-- A list of darts told. -/
def LsPost (l : List Nat) (w : World) (e : Ending) (w' : World) : Prop := ∃ u, e = .returned u ∧ LRow w' w.heap.size u l ∧ Keeps (fun _ => False) w w'
end
theorem fndV_neg {L : List (List Nat)} {d : Nat} (h : ¬ Stands L d) : fndV L d = -1 := by
  unfold fndV; rw [if_neg fun q => h (by simpa using q.2)]
theorem LsRow.form {w : World} {B : Nat} {v : Value} {L : List (List Nat)} (h : LsRow w B v L) : ∃ a c, v = .slice a L.length c := by
  obtain ⟨_, h1, _⟩ := h
  exact ownsRow_slice h1
theorem cell_set2 {W : World} {r b i : Nat} {x y v : Value} (h : W.cell? ⟨b, i, none⟩ = some v) (hn : b ≠ r) : ((W.setCell ⟨r, 0, none⟩ x).setCell ⟨r, 1, none⟩ y).cell? ⟨b, i, none⟩ = some v := by
  have hk : Keeps (fun k => k = r) W ((W.setCell ⟨r, 0, none⟩ x).setCell ⟨r, 1, none⟩ y) := ((Keeps.refl (fun k => k = r) W).setIn r 0 _ rfl).setIn r 1 _ rfl
  exact (World.cell?_of_block (hk.block _ (World.block_lt_of_cell? W _ h) hn)).trans h
theorem ne_three (n : Nat) : n ≠ n + 1 + 1 + 1 ∧ n + 1 ≠ n + 1 + 1 + 1 ∧ n + 1 + 1 ≠ n + 1 + 1 + 1 := by omega
theorem putL_len (L : List (List Nat)) (d v : Nat) (b : Int) : (putL L d v b).length = L.length := putL_length L d v b
section
variable {w : World} {B E : Nat} {v : Value} {L : List (List Nat)}
/-- The document's turns and a number told. -/
def RLPost (E B : Nat) (L : List (List Nat)) (k : Int) (w : World) (e : Ending) (w' : World) : Prop :=
  ∃ v, e = .returned (.tuple #[rval E v, .int .i64 k]) ∧ LsRow w' B v L ∧ Keeps (fun _ => False) w w'
/-- The end: the box of what is handed back holds it. -/
theorem rl_end {w w4 : World} {B E b n c : Nat} {L : List (List Nat)} {a : Option Addr} {cs : Array Value} (hk : Keeps (fun _ => False) w w4) (hls : LsRow w4 B (.slice a n c) L) (hb : Blk w4 b cs 27) (hbw : w.heap.size ≤ b) (hcs : cs.size = 2) :
    Hid (Blk ((w4.setCell ⟨b, 0, none⟩ (.int .i64 (E : Int))).setCell ⟨b, 1, none⟩ (.slice a n c)) b #[.int .i64 (E : Int), .slice a n c] 27 ∧
      LsRow ((w4.setCell ⟨b, 0, none⟩ (.int .i64 (E : Int))).setCell ⟨b, 1, none⟩ (.slice a n c)) B (.slice a n c) L ∧ Keeps (fun _ => False) w ((w4.setCell ⟨b, 0, none⟩ (.int .i64 (E : Int))).setCell ⟨b, 1, none⟩ (.slice a n c))) := by
  refine ⟨?_, hls.setOther hb (by decide) (by decide) (((Keeps.refl (fun k => k = b) w4).setIn b 0 _ rfl).setIn b 1 _ rfl), (hk.setNew hbw 0 _).setNew hbw 1 _⟩
  have h1 := (hb.set 0 (.int .i64 (E : Int))).set 1 (.slice a n c)
  match cs, hcs with
  | ⟨[x, y]⟩, _ => simpa using h1
set_option maxHeartbeats 2000000 in
theorem rlay (h : LsRow w B v L) (hg : Good E L) (h0 : 0 < L.length) (hV : L.length ≤ 1048576) (hE : E ≤ 1048576) (e : Int) (a b : Int × Int) :
    Calls Tryd.prog 70 #[rval E v, .int .i64 e, .agg #[.int .i64 a.1, .int .i64 a.2], .agg #[.int .i64 b.1, .int .i64 b.2]] w (RLPost E B (lay E L e a b) (layErr E L e a b : Nat) w) := by
  have hw := hg.toWF
  obtain ⟨a1, a2⟩ := a
  obtain ⟨b1, b2⟩ := b
  obtain ⟨va, vc, hv⟩ : ∃ x y, v = .slice x L.length y := by
    obtain ⟨_, h1, _⟩ := h
    exact ownsRow_slice h1
  subst hv
  generalize hW : (((w.alloc (.cells #[.int .i64 (E : Int), .slice va L.length vc] 27)).alloc (.cells #[.int .i64 a1, .int .i64 a2] 45)).alloc (.cells #[.int .i64 b1, .int .i64 b2] 45)).alloc (.cells #[.int .i64 0, .slice none 0 0] 27) = w0
  have hK0 : Keeps (fun _ => False) w w0 := by rw [← hW]; exact ((((Keeps.refl _ _).alloc _).alloc _).alloc _).alloc _
  have HBT : Hid (Blk w0 w.heap.size #[.int .i64 (E : Int), .slice va L.length vc] 27) := by rw [← hW]; exact (((Blk.new w _ _).alloc _).alloc _).alloc _
  have HBA : Hid (Blk w0 (w.heap.size + 1) #[.int .i64 a1, .int .i64 a2] 45) := by rw [← hW]; exact ((Blk.newAt _ _ _ (by simp)).alloc _).alloc _
  have HBB : Hid (Blk w0 (w.heap.size + 1 + 1) #[.int .i64 b1, .int .i64 b2] 45) := by rw [← hW]; exact (Blk.newAt _ _ _ (by simp)).alloc _
  have HBR : Hid (Blk w0 (w.heap.size + 1 + 1 + 1) #[.int .i64 0, .slice none 0 0] 27) := by rw [← hW]; exact Blk.newAt _ _ _ (by simp)
  have hbw : w.heap.size ≤ w.heap.size + 1 + 1 + 1 := by omega
  have HK0 := Lib.hid hK0
  have HL := Lib.hid (h.keep hK0)
  clear hK0
  unfold lay
  by_cases hr1 : e < 0 ∨ (E : Int) ≤ e
  · have hle : layErr E L e (a1, a2) (b1, b2) = 12 := by unfold layErr; rw [if_pos hr1]
    rw [hle, if_neg (by decide)]
    clear hle
    unfold rval RLPost at *
    rcases (show e < 0 ∨ 0 ≤ e ∧ (E : Int) ≤ e by omega) with h2 | ⟨h2, h3⟩
    · have hd0 : decide (e < 0) = true := by simp; exact h2
      go_enter Tryd.func70, Tryd.ntmps70
      go_upto_region 1 with fail
      clear hW
      have t0 := (HBT.out.kept (Keeps.refl (fun _ => False) _) id).cell (i := 0)
      have t1 := (HBT.out.kept (Keeps.refl (fun _ => False) _) id).cell (i := 1)
      have r0 := (HBR.out.kept (Keeps.refl (fun _ => False) _) id).cell (i := 0)
      have r1 := (HBR.out.kept (Keeps.refl (fun _ => False) _) id).cell (i := 1)
      have q0 := (HBR.out.kept (Keeps.refl (fun _ => False) _) id).free 0
      have q1 := (HBR.out.kept (Keeps.refl (fun _ => False) _) id).free 1
      have rl := (HBR.out.kept (Keeps.refl (fun _ => False) _) id).lt
      simp only [List.getElem?_toArray, List.getElem?_cons_zero, List.getElem?_cons_succ] at t0 t1 r0 r1
      have HE := rl_end (E := E) HK0.out HL.out HBR.out hbw rfl
      go_wp2_with fail
      generalize (World.setCell _ _ _).setCell _ (.slice _ _ _) = WW at *
      have k0 := HE.out.1.cell (i := 0)
      have k1 := HE.out.1.cell (i := 1)
      refine bodyPost_ret (v := .tuple #[rval E (.slice va L.length vc), .int .i64 12]) (by simp at k0 k1; simp [results, Tryd.results70, go_sem, k0, k1, rval]) rfl ?_
      exact ⟨_, rfl, HE.out.2⟩
    · have hd0 : decide (e < 0) = false := by simp; exact h2
      have hd1 : decide ((E : Int) ≤ e) = true := by simp; exact h3
      go_enter Tryd.func70, Tryd.ntmps70
      go_upto_region 1 with fail
      clear hW
      have t0 := (HBT.out.kept (Keeps.refl (fun _ => False) _) id).cell (i := 0)
      have t1 := (HBT.out.kept (Keeps.refl (fun _ => False) _) id).cell (i := 1)
      have r0 := (HBR.out.kept (Keeps.refl (fun _ => False) _) id).cell (i := 0)
      have r1 := (HBR.out.kept (Keeps.refl (fun _ => False) _) id).cell (i := 1)
      have q0 := (HBR.out.kept (Keeps.refl (fun _ => False) _) id).free 0
      have q1 := (HBR.out.kept (Keeps.refl (fun _ => False) _) id).free 1
      have rl := (HBR.out.kept (Keeps.refl (fun _ => False) _) id).lt
      simp only [List.getElem?_toArray, List.getElem?_cons_zero, List.getElem?_cons_succ] at t0 t1 r0 r1
      have HE := rl_end (E := E) HK0.out HL.out HBR.out hbw rfl
      go_wp2_with fail
      generalize (World.setCell _ _ _).setCell _ (.slice _ _ _) = WW at *
      have k0 := HE.out.1.cell (i := 0)
      have k1 := HE.out.1.cell (i := 1)
      refine bodyPost_ret (v := .tuple #[rval E (.slice va L.length vc), .int .i64 12]) (by simp at k0 k1; simp [results, Tryd.results70, go_sem, k0, k1, rval]) rfl ?_
      exact ⟨_, rfl, HE.out.2⟩
  · obtain ⟨n, rfl⟩ := Int.eq_ofNat_of_zero_le (show 0 ≤ e by omega)
    have hn : n < E := by omega
    have hd0 : decide ((n : Int) < 0) = false := by simp
    have hd1 : decide ((E : Int) ≤ (n : Int)) = false := by simp; omega
    have hle : layErr E L n (a1, a2) (b1, b2) = if Stands L (2 * n) then 20 else if chkErr L a1 a2 ≠ 0 then chkErr L a1 a2 else chkErr L b1 b2 := by unfold layErr; rw [if_neg hr1, Int.toNat_natCast]
    have HF := Lib.hid (rfind HL.out hw h0 hV hE (2 * (n : Int)))
    have e2n : (2 * (n : Int)) = ((2 * n : Nat) : Int) := by omega
    by_cases hs : Stands L (2 * n)
    · rw [hle, if_pos hs, if_neg (by decide)]
      have hfv : 0 ≤ fndV L (2 * (n : Int)) := by rw [e2n, (fndV_at hw hs).1]; omega
      have hd2 : decide (0 ≤ fndV L (2 * (n : Int))) = true := by simp; exact hfv
      generalize fndV L (2 * (n : Int)) = fv at *
      generalize fndI L (2 * (n : Int)) = fi at *
      clear hle hs hr1 e2n h
      unfold rval RLPost RetPost at *
      go_enter Tryd.func70, Tryd.ntmps70
      go_upto_region 1 with fail
      clear hW
      have t0 := (HBT.out.kept (Keeps.refl (fun _ => False) _) id).cell (i := 0)
      have t1 := (HBT.out.kept (Keeps.refl (fun _ => False) _) id).cell (i := 1)
      have r0 := (HBR.out.kept (Keeps.refl (fun _ => False) _) id).cell (i := 0)
      have r1 := (HBR.out.kept (Keeps.refl (fun _ => False) _) id).cell (i := 1)
      have q0 := (HBR.out.kept (Keeps.refl (fun _ => False) _) id).free 0
      have q1 := (HBR.out.kept (Keeps.refl (fun _ => False) _) id).free 1
      have rl := (HBR.out.kept (Keeps.refl (fun _ => False) _) id).lt
      simp only [List.getElem?_toArray, List.getElem?_cons_zero, List.getElem?_cons_succ] at t0 t1 r0 r1
      go_wp2_with fail
      refine (HF.out).mono ?_
      rintro e w2 ⟨rfl, hk2⟩
      have HK2 := Lib.hid hk2
      have HL2 := Lib.hid (HL.out.keep hk2)
      have HR2 := Lib.hid (HBR.out.kept hk2 id)
      clear t0 t1 r0 r1 q0 q1 rl
      have t0 := (HBT.out.kept hk2 id).cell (i := 0)
      have t1 := (HBT.out.kept hk2 id).cell (i := 1)
      have r0 := (HBR.out.kept hk2 id).cell (i := 0)
      have r1 := (HBR.out.kept hk2 id).cell (i := 1)
      have q0 := (HBR.out.kept hk2 id).free 0
      have q1 := (HBR.out.kept hk2 id).free 1
      have rl := (HBR.out.kept hk2 id).lt
      simp only [List.getElem?_toArray, List.getElem?_cons_zero, List.getElem?_cons_succ] at t0 t1 r0 r1
      clear hk2
      have HE := rl_end (E := E) (HK0.out.trans' HK2.out) HL2.out HR2.out hbw rfl
      go_wp2_with fail
      generalize (World.setCell _ _ _).setCell _ (.slice _ _ _) = WW at *
      have k0 := HE.out.1.cell (i := 0)
      have k1 := HE.out.1.cell (i := 1)
      refine bodyPost_ret (v := .tuple #[rval E (.slice va L.length vc), .int .i64 20]) (by simp at k0 k1; simp [results, Tryd.results70, go_sem, k0, k1, rval]) rfl ?_
      exact ⟨_, rfl, HE.out.2⟩
    · rw [if_neg hs] at hle
      have hfv : fndV L (2 * (n : Int)) = -1 := by rw [e2n]; exact fndV_neg hs
      rw [hfv] at HF
      generalize fndI L (2 * (n : Int)) = fi at *
      have HCA := Lib.hid (fun W (hk : Keeps (fun _ => False) w0 W) => rcheck (HL.out.keep hk) hw h0 hV hE a1 a2)
      have HCB := Lib.hid (fun W (hk : Keeps (fun _ => False) w0 W) => rcheck (HL.out.keep hk) hw h0 hV hE b1 b2)
      by_cases hA : chkErr L a1 a2 = 0
      · rw [if_neg (fun q => q hA)] at hle
        rw [hA] at HCA
        by_cases hBb : chkErr L b1 b2 = 0
        · rw [hBb] at HCB hle
          rw [hle, if_pos rfl, Int.toNat_natCast]
          unfold layL
          have hn0 : ¬ Stands (putL L (2 * n) a1.toNat a2) (2 * n + 1) := fun q => by
            rw [putL_stands (chk_lt hA)] at q
            rcases q with q | q
            · omega
            · exact hs ((hg.pair n).1 q)
          have hw1 : WF E (putL L (2 * n) a1.toNat a2) := putL_wf hw (by omega) hs (chk_lt hA)
          have hl1 : (putL L (2 * n) a1.toNat a2).length = L.length := putL_length _ _ _ _
          obtain ⟨l2, hl2, _⟩ := chk_put (a := (a1, a2)) (b := (b1, b2)) hA hBb hs
          obtain ⟨xa, hva, la, hla, _⟩ := chk_ok hA
          obtain ⟨xb, hvb, lb, hlb, _⟩ := chk_ok hBb
          have HP1 := Lib.hid (fun W (hk : Keeps (fun _ => False) w0 W) => rput (HL.out.keep hk) hw hV hE (n := a1.toNat) (d := 2 * n) (l := la) (by rw [hva, Int.toNat_natCast]; exact hla) (by omega) a2 (2 * (n : Int)) a1 (by omega) (by omega))
          have HP2 := Lib.hid (fun (W : World) (u : Value) (hu : LsRow W B u (putL L (2 * n) a1.toNat a2)) => rput hu hw1 (by rw [hl1]; exact hV) hE (n := b1.toNat) (d := 2 * n + 1) (l := l2) hl2 (by omega) b2 (2 * (n : Int) + 1) b1 (by omega) (by omega))
          generalize hL2 : putL (putL L (2 * n) a1.toNat a2) (2 * n + 1) b1.toNat b2 = L2 at *
          generalize putL L (2 * n) a1.toNat a2 = L1 at *
          clear hle hs hr1 e2n h hg hA hBb hn0 hw1 hl2 hva hvb hla hlb hL2 hfv hl1
          have hm1 : IntKind.i64.wrap (2 * (n : Int)) = 2 * (n : Int) := by rw [IntKind.wrap_i64]; omega
          have hm2 : IntKind.i64.wrap (2 * (n : Int) + 1) = 2 * (n : Int) + 1 := by rw [IntKind.wrap_i64]; omega
          unfold RPost at HP1 HP2
          unfold rval RLPost RetPost at *
          go_enter Tryd.func70, Tryd.ntmps70
          go_upto_region 1 with fail
          clear hW
          have t0 := (HBT.out.kept (Keeps.refl (fun _ => False) _) id).cell (i := 0)
          have t1 := (HBT.out.kept (Keeps.refl (fun _ => False) _) id).cell (i := 1)
          simp only [List.getElem?_toArray, List.getElem?_cons_zero, List.getElem?_cons_succ] at t0 t1
          go_wp2_with fail
          refine (HF.out).mono ?_
          rintro e w2 ⟨rfl, hk2⟩
          have HK2 := Lib.hid hk2
          have HCA' := Lib.hid (HCA.out _ hk2)
          clear t0 t1
          have t0 := (HBT.out.kept hk2 id).cell (i := 0)
          have t1 := (HBT.out.kept hk2 id).cell (i := 1)
          have ca0 := (HBA.out.kept hk2 id).cell (i := 0)
          have ca1 := (HBA.out.kept hk2 id).cell (i := 1)
          simp only [List.getElem?_toArray, List.getElem?_cons_zero, List.getElem?_cons_succ] at t0 t1 ca0 ca1
          clear hk2
          go_wp2_with fail
          refine (HCA'.out).mono ?_
          rintro e w3 ⟨rfl, hk3⟩
          have HK3 := Lib.hid (HK2.out.trans' hk3)
          have HCB' := Lib.hid (HCB.out _ HK3.out)
          clear t0 t1 ca0 ca1
          have t0 := (HBT.out.kept HK3.out id).cell (i := 0)
          have t1 := (HBT.out.kept HK3.out id).cell (i := 1)
          have cb0 := (HBB.out.kept HK3.out id).cell (i := 0)
          have cb1 := (HBB.out.kept HK3.out id).cell (i := 1)
          simp only [List.getElem?_toArray, List.getElem?_cons_zero, List.getElem?_cons_succ] at t0 t1 cb0 cb1
          clear hk3
          go_wp2_with fail
          refine (HCB'.out).mono ?_
          rintro e w4 ⟨rfl, hk4⟩
          have HK4 := Lib.hid (HK3.out.trans' hk4)
          clear t0 t1 cb0 cb1
          have t0 := (HBT.out.kept HK4.out id).cell (i := 0)
          have t1 := (HBT.out.kept HK4.out id).cell (i := 1)
          have ca0 := (HBA.out.kept HK4.out id).cell (i := 0)
          have ca1 := (HBA.out.kept HK4.out id).cell (i := 1)
          have cb0 := (HBB.out.kept HK4.out id).cell (i := 0)
          have cb1 := (HBB.out.kept HK4.out id).cell (i := 1)
          simp only [List.getElem?_toArray, List.getElem?_cons_zero, List.getElem?_cons_succ] at t0 t1 ca0 ca1 cb0 cb1
          clear hk4
          have hK : Keeps (fun _ => False) w4 w4.drew := (Keeps.refl _ _).drew
          go_wp2_with fail
          go_region_held3 (fun w' => w'.cell? ⟨w.heap.size, 0, none⟩ = some (.int .i64 (E : Int)) ∧ w'.cell? ⟨w.heap.size, 1, none⟩ = some (.slice va L.length vc) ∧ w'.cell? ⟨w.heap.size + 1, 0, none⟩ = some (.int .i64 a1) ∧ w'.cell? ⟨w.heap.size + 1, 1, none⟩ = some (.int .i64 a2) ∧ w'.cell? ⟨w.heap.size + 1 + 1, 0, none⟩ = some (.int .i64 b1) ∧ w'.cell? ⟨w.heap.size + 1 + 1, 1, none⟩ = some (.int .i64 b2))
            (first | exact ⟨hK.cellF t0, hK.cellF t1, hK.cellF ca0, hK.cellF ca1, hK.cellF cb0, hK.cellF cb1⟩ | assumption | exact ⟨cell_set2 (hK.cellF t0) (ne_three _).1, cell_set2 (hK.cellF t1) (ne_three _).1, cell_set2 (hK.cellF ca0) (ne_three _).2.1, cell_set2 (hK.cellF ca1) (ne_three _).2.1, cell_set2 (hK.cellF cb0) (ne_three _).2.2, cell_set2 (hK.cellF cb1) (ne_three _).2.2⟩)
            (first
              | (go_at_call 96; with_reducible refine (HP1.out _ (HK4.out.trans' hK)).mono ?_; rintro e w5 ⟨v5, rfl, hls5, hk5⟩; have hK := hK.trans' hk5; obtain ⟨va5, vc5, rfl⟩ := hls5.form)
              | (go_at_call 96; with_reducible refine (HP2.out _ _ hls5).mono ?_; rintro e w6 ⟨v6, rfl, hls6, hk6⟩; have hK := hK.trans' hk6; obtain ⟨va6, vc6, rfl⟩ := hls6.form; have hR6 := HBR.out.kept (HK4.out.trans' hK) id; have r0 := hR6.cell (i := 0); have r1 := hR6.cell (i := 1); have q0 := hR6.free 0; have q1 := hR6.free 1; have rl := hR6.lt; simp only [List.getElem?_toArray, List.getElem?_cons_zero, List.getElem?_cons_succ] at r0 r1)
              | fail)
          all_goals
            have HKN := Lib.hid (HK0.out.trans' (HK4.out.trans' hK))
            have HE := rl_end (E := E) HKN.out hls6 hR6 hbw rfl
            clear r0 r1 q0 q1 hK hls6 hls5 hk5 hk6 hR6
            go_wp2_with fail
            generalize (World.setCell _ _ _).setCell _ (.slice va6 _ _) = WW at *
            have k0 := HE.out.1.cell (i := 0)
            have k1 := HE.out.1.cell (i := 1)
            refine bodyPost_ret (v := .tuple #[rval E (.slice va6 L2.length vc6), .int .i64 0]) (by simp at k0 k1; simp [results, Tryd.results70, go_sem, k0, k1, rval]) rfl ?_
            exact ⟨_, rfl, HE.out.2⟩
        · rw [hle, if_neg hBb]
          have hkb0 : ((chkErr L b1 b2 : Nat) : Int) ≠ 0 := by omega
          generalize ((chkErr L b1 b2 : Nat) : Int) = kb at *
          have hkb : (kb != 0) = true := by rw [bne_iff_ne]; exact hkb0
          clear hle hs hr1 e2n h hg hA hBb hfv hkb0
          unfold rval RLPost RetPost at *
          go_enter Tryd.func70, Tryd.ntmps70
          go_upto_region 1 with fail
          clear hW
          have t0 := (HBT.out.kept (Keeps.refl (fun _ => False) _) id).cell (i := 0)
          have t1 := (HBT.out.kept (Keeps.refl (fun _ => False) _) id).cell (i := 1)
          simp only [List.getElem?_toArray, List.getElem?_cons_zero, List.getElem?_cons_succ] at t0 t1
          go_wp2_with fail
          refine (HF.out).mono ?_
          rintro e w2 ⟨rfl, hk2⟩
          have HK2 := Lib.hid hk2
          have HCA' := Lib.hid (HCA.out _ hk2)
          clear t0 t1
          have t0 := (HBT.out.kept hk2 id).cell (i := 0)
          have t1 := (HBT.out.kept hk2 id).cell (i := 1)
          have ca0 := (HBA.out.kept hk2 id).cell (i := 0)
          have ca1 := (HBA.out.kept hk2 id).cell (i := 1)
          simp only [List.getElem?_toArray, List.getElem?_cons_zero, List.getElem?_cons_succ] at t0 t1 ca0 ca1
          clear hk2
          go_wp2_with fail
          refine (HCA'.out).mono ?_
          rintro e w3 ⟨rfl, hk3⟩
          have HK3 := Lib.hid (HK2.out.trans' hk3)
          have HCB' := Lib.hid (HCB.out _ HK3.out)
          clear t0 t1 ca0 ca1
          have t0 := (HBT.out.kept HK3.out id).cell (i := 0)
          have t1 := (HBT.out.kept HK3.out id).cell (i := 1)
          have cb0 := (HBB.out.kept HK3.out id).cell (i := 0)
          have cb1 := (HBB.out.kept HK3.out id).cell (i := 1)
          simp only [List.getElem?_toArray, List.getElem?_cons_zero, List.getElem?_cons_succ] at t0 t1 cb0 cb1
          clear hk3
          go_wp2_with fail
          refine (HCB'.out).mono ?_
          rintro e w4 ⟨rfl, hk4⟩
          have HK4 := Lib.hid (HK3.out.trans' hk4)
          have HL4 := Lib.hid (HL.out.keep HK4.out)
          have HR4 := Lib.hid (HBR.out.kept HK4.out id)
          clear t0 t1 cb0 cb1
          have t0 := (HBT.out.kept HK4.out id).cell (i := 0)
          have t1 := (HBT.out.kept HK4.out id).cell (i := 1)
          have r0 := (HBR.out.kept HK4.out id).cell (i := 0)
          have r1 := (HBR.out.kept HK4.out id).cell (i := 1)
          have q0 := (HBR.out.kept HK4.out id).free 0
          have q1 := (HBR.out.kept HK4.out id).free 1
          have rl := (HBR.out.kept HK4.out id).lt
          simp only [List.getElem?_toArray, List.getElem?_cons_zero, List.getElem?_cons_succ] at t0 t1 r0 r1
          clear hk4
          have HE := rl_end (E := E) (HK0.out.trans' HK4.out) HL4.out HR4.out hbw rfl
          go_wp2_with fail
          generalize (World.setCell _ _ _).setCell _ (.slice _ _ _) = WW at *
          have k0 := HE.out.1.cell (i := 0)
          have k1 := HE.out.1.cell (i := 1)
          refine bodyPost_ret (v := .tuple #[rval E (.slice va L.length vc), .int .i64 kb]) (by simp at k0 k1; simp [results, Tryd.results70, go_sem, k0, k1, rval]) rfl ?_
          exact ⟨_, rfl, HE.out.2⟩
      · rw [if_pos hA] at hle
        rw [hle, if_neg hA]
        have hkb0 : ((chkErr L a1 a2 : Nat) : Int) ≠ 0 := by omega
        generalize ((chkErr L a1 a2 : Nat) : Int) = kb at *
        have hkb : (kb != 0) = true := by rw [bne_iff_ne]; exact hkb0
        clear hle hs hr1 e2n h hg hA hfv hkb0 HCB
        unfold rval RLPost RetPost at *
        go_enter Tryd.func70, Tryd.ntmps70
        go_upto_region 1 with fail
        clear hW
        have t0 := (HBT.out.kept (Keeps.refl (fun _ => False) _) id).cell (i := 0)
        have t1 := (HBT.out.kept (Keeps.refl (fun _ => False) _) id).cell (i := 1)
        simp only [List.getElem?_toArray, List.getElem?_cons_zero, List.getElem?_cons_succ] at t0 t1
        go_wp2_with fail
        refine (HF.out).mono ?_
        rintro e w2 ⟨rfl, hk2⟩
        have HK2 := Lib.hid hk2
        have HCA' := Lib.hid (HCA.out _ hk2)
        clear t0 t1
        have t0 := (HBT.out.kept hk2 id).cell (i := 0)
        have t1 := (HBT.out.kept hk2 id).cell (i := 1)
        have ca0 := (HBA.out.kept hk2 id).cell (i := 0)
        have ca1 := (HBA.out.kept hk2 id).cell (i := 1)
        simp only [List.getElem?_toArray, List.getElem?_cons_zero, List.getElem?_cons_succ] at t0 t1 ca0 ca1
        clear hk2
        go_wp2_with fail
        refine (HCA'.out).mono ?_
        rintro e w3 ⟨rfl, hk3⟩
        have HK4 := Lib.hid (HK2.out.trans' hk3)
        have HL4 := Lib.hid (HL.out.keep HK4.out)
        have HR4 := Lib.hid (HBR.out.kept HK4.out id)
        clear t0 t1 ca0 ca1
        have t0 := (HBT.out.kept HK4.out id).cell (i := 0)
        have t1 := (HBT.out.kept HK4.out id).cell (i := 1)
        have r0 := (HBR.out.kept HK4.out id).cell (i := 0)
        have r1 := (HBR.out.kept HK4.out id).cell (i := 1)
        have q0 := (HBR.out.kept HK4.out id).free 0
        have q1 := (HBR.out.kept HK4.out id).free 1
        have rl := (HBR.out.kept HK4.out id).lt
        simp only [List.getElem?_toArray, List.getElem?_cons_zero, List.getElem?_cons_succ] at t0 t1 r0 r1
        clear hk3
        have HE := rl_end (E := E) (HK0.out.trans' HK4.out) HL4.out HR4.out hbw rfl
        go_wp2_with fail
        generalize (World.setCell _ _ _).setCell _ (.slice _ _ _) = WW at *
        have k0 := HE.out.1.cell (i := 0)
        have k1 := HE.out.1.cell (i := 1)
        refine bodyPost_ret (v := .tuple #[rval E (.slice va L.length vc), .int .i64 kb]) (by simp at k0 k1; simp [results, Tryd.results70, go_sem, k0, k1, rval]) rfl ?_
        exact ⟨_, rfl, HE.out.2⟩
end
theorem ar_del {i n E : Nat} (h : i < n) (hn : n ≤ 2 * E) (hE : E ≤ 1048576) : 0 + i ≤ maxLen ∧ (0 + i) * 8 ≤ 140737488355328 ∧ 0 + i + (n - (i + 1)) ≤ maxLen ∧ (0 + i + (n - (i + 1))) * 8 ≤ 140737488355328 := by
  unfold maxLen
  exact ⟨by omega, by omega, by omega, by omega⟩
theorem remL_set {E : Nat} {L : List (List Nat)} (h : WF E L) {v i : Nat} {l : List Nat} (hv : L[v]? = some l) (hi : i < l.length) : L.set v (l.take i ++ l.drop (i + 1)) = remL L (l.getD i 0) := by
  have hvl := (List.getElem?_eq_some_iff.1 hv).1
  apply List.ext_getElem?
  intro u
  rw [set_get hvl, remL_get]
  by_cases e : u = v
  · subst e
    rw [if_pos rfl, hv, Option.map_some, getD_at hi, filter_at (h.nd hv) hi]
  · rw [if_neg e]
    cases hu : L[u]? with
    | none => rfl
    | some m =>
      rw [Option.map_some, List.filter_eq_self.2]
      intro x hx
      simp only [bne_iff_ne]
      rintro rfl
      exact e (h.one hu hv hx (getD_mem hi))
/-- What is left behind k darts taken away. -/
def LK (L : List (List Nat)) (n k : Nat) : List (List Nat) := if k = 0 then L else if k = 1 then remL L (2 * n) else liftL L n
theorem LK_wf {E : Nat} {L : List (List Nat)} (h : WF E L) (n k : Nat) : WF E (LK L n k) := by
  unfold LK liftL; split
  · exact h
  · split
    · exact remL_wf h
    · exact remL_wf (remL_wf h)
theorem LK_length (L : List (List Nat)) (n k : Nat) : (LK L n k).length = L.length := by
  unfold LK liftL; split
  · rfl
  · split <;> simp [remL_length]
theorem LK_step (L : List (List Nat)) (n k : Nat) (hk : k < 2) : remL (LK L n k) (2 * n + k) = LK L n (k + 1) := by
  rcases (show k = 0 ∨ k = 1 by omega) with rfl | rfl
  · rfl
  · rfl
theorem LK_stands {E : Nat} {L : List (List Nat)} (h : Good E L) {n k : Nat} (hs : Stands L (2 * n)) (hk : k < 2) : Stands (LK L n k) (2 * n + k) := by
  rcases (show k = 0 ∨ k = 1 by omega) with rfl | rfl
  · exact hs
  · exact remL_stands.2 ⟨by omega, (h.pair n).2 hs⟩
/-- The round's start: the box, the lists, what is handed back. -/
structure LiftAt (w : World) (B E : Nat) (Lk : List (List Nat)) (a : Option Addr) (c : Nat) (wr : World) : Prop where
  t : Blk wr w.heap.size #[.int .i64 (E : Int), .slice a Lk.length c] 27
  r : Blk wr (w.heap.size + 1) #[.int .i64 0, .slice none 0 0] 27
  l : LsRow wr B (.slice a Lk.length c) Lk
  k : Keeps (fun _ => False) w wr
theorem delRow {w : World} {B i : Nat} {l : List Nat} {v v1 : Value} (h : w.ownsRow B 3 1 v (0 + i + (l.length - (i + 1))) ([] ++ nats (l.take i) ++ nats (l.drop (i + 1))))
    (hn1 : v1 = .slice none 0 0 ↔ Value.slice none 0 0 = .slice none 0 0 ∧ i = 0) (hn2 : v = .slice none 0 0 ↔ v1 = .slice none 0 0 ∧ l.length - (i + 1) = 0) (hi : i < l.length) : LRow w B v (l.take i ++ l.drop (i + 1)) := by
  have e1 : (l.take i ++ l.drop (i + 1)).length = 0 + i + (l.length - (i + 1)) := by simp; omega
  refine ⟨?_, fun e => ?_⟩
  · rw [e1, nats_append]
    simpa using h
  · rw [e] at e1
    simp only [List.length_nil] at e1
    exact hn2.2 ⟨hn1.2 ⟨rfl, by omega⟩, by omega⟩
section
variable {w : World} {B E : Nat} {v : Value} {L : List (List Nat)}
set_option maxHeartbeats 2000000 in
theorem rlift (h : LsRow w B v L) (hg : Good E L) (h0 : 0 < L.length) (hV : L.length ≤ 1048576) (hE : E ≤ 1048576) (e : Int) :
    Calls Tryd.prog 60 #[rval E v, .int .i64 e] w (RLPost E B (lift E L e) (liftErr E L e : Nat) w) := by
  have hw := hg.toWF
  obtain ⟨i0, hi, hz0, hz1, hz2⟩ := info_parts infoI
  have HI := Lib.hid hi
  clear hi
  obtain ⟨va, vc, hv⟩ := h.form
  subst hv
  generalize hW : (w.alloc (.cells #[.int .i64 (E : Int), .slice va L.length vc] 27)).alloc (.cells #[.int .i64 0, .slice none 0 0] 27) = w0
  have hK0 : Keeps (fun _ => False) w w0 := by rw [← hW]; exact ((Keeps.refl _ _).alloc _).alloc _
  have HS : Hid (LiftAt w B E L va vc w0) := ⟨by rw [← hW]; exact (Blk.new w _ _).alloc _, by rw [← hW]; exact Blk.newAt _ _ _ (by simp), h.keep hK0, hK0⟩
  have hbw : w.heap.size ≤ w.heap.size + 1 := Nat.le_succ _
  clear hK0
  unfold lift
  by_cases hr1 : e < 0 ∨ (E : Int) ≤ e
  · have hle : liftErr E L e = 12 := by unfold liftErr; rw [if_pos hr1]
    rw [hle, if_neg (by decide)]
    clear hle
    unfold rval RLPost at *
    rcases (show e < 0 ∨ 0 ≤ e ∧ (E : Int) ≤ e by omega) with h2 | ⟨h2, h3⟩
    case' inl => have hd0 : decide (e < 0) = true := by simp; exact h2
    case' inr => (have hd0 : decide (e < 0) = false := by simp; exact h2); have hd1 : decide ((E : Int) ≤ e) = true := by simp; exact h3
    all_goals
      go_enter Tryd.func60, Tryd.ntmps60
      go_upto_region 1 with fail
      clear hW
      have t0 := HS.out.t.cell (i := 0)
      have t1 := HS.out.t.cell (i := 1)
      have r0 := HS.out.r.cell (i := 0)
      have r1 := HS.out.r.cell (i := 1)
      have q0 := HS.out.r.free 0
      have q1 := HS.out.r.free 1
      have rl := HS.out.r.lt
      simp only [List.getElem?_toArray, List.getElem?_cons_zero, List.getElem?_cons_succ] at t0 t1 r0 r1
      have HE := rl_end (E := E) HS.out.k HS.out.l HS.out.r hbw rfl
      go_wp2_with fail
      generalize (World.setCell _ _ _).setCell _ (.slice _ _ _) = WW at *
      have k0 := HE.out.1.cell (i := 0)
      have k1 := HE.out.1.cell (i := 1)
      refine bodyPost_ret (v := .tuple #[rval E (.slice va L.length vc), .int .i64 12]) (by simp at k0 k1; simp [results, Tryd.results60, go_sem, k0, k1, rval]) rfl ?_
      exact ⟨_, rfl, HE.out.2⟩
  · obtain ⟨n, rfl⟩ := Int.eq_ofNat_of_zero_le (show 0 ≤ e by omega)
    have hn : n < E := by omega
    have hd0 : decide ((n : Int) < 0) = false := by simp
    have hd1 : decide ((E : Int) ≤ (n : Int)) = false := by simp; omega
    have hd1n : decide (E ≤ n) = false := by simp; omega
    have hle : liftErr E L n = if Stands L (2 * n) then 0 else 13 := by unfold liftErr; rw [if_neg hr1, Int.toNat_natCast]
    by_cases hs : Stands L (2 * n)
    · rw [hle, if_pos hs, if_pos rfl, Int.toNat_natCast]
      clear hle h
      unfold rval RLPost at *
      go_enter Tryd.func60, Tryd.ntmps60
      go_upto_region 1 with fail
      clear hW
      have t0 := HS.out.t.cell (i := 0)
      have t1 := HS.out.t.cell (i := 1)
      simp only [List.getElem?_toArray, List.getElem?_cons_zero, List.getElem?_cons_succ] at t0 t1
      go_wp2_with fail
      go_loopw [6] (fun i wr => ∃ (k : Nat) (a : Option Addr) (c : Nat), k ≤ 2 ∧ i = .int .i64 (k : Int) ∧ Hid (LiftAt w B E (LK L n k) a c wr)) (fun i _ => 2 - (intOf i).toNat)
      case atStart => exact ⟨0, va, vc, by omega, rfl, HS⟩
      case round =>
        clear t0 t1 HS
        obtain ⟨k, a, c, hk, rfl, HS⟩ := hrel
        by_cases hk2 : k < 2
        · have hwk := LK_wf hw n k
          have hlk := LK_length L n k
          obtain ⟨x, l, i, hlx, hil, hdi⟩ := stands_ex (LK_stands hg hs hk2)
          have HF := Lib.hid (rfind HS.out.l hwk (by rw [hlk]; exact h0) (by rw [hlk]; exact hV) hE (2 * (n : Int) + (k : Int)))
          have ed : (2 * (n : Int) + (k : Int)) = ((l.getD i 0 : Nat) : Int) := by rw [hdi]; omega
          have ef := fnd_hit hwk hlx hil
          rw [← ed] at ef
          rw [ef.1, ef.2] at HF
          have hset := remL_set hwk hlx hil
          rw [hdi, LK_step L n k hk2] at hset
          have hxl := (List.getElem?_eq_some_iff.1 hlx).1
          have HWI := Lib.hid (fun W (hk : Keeps (fun _ => False) wr W) (u : Value) (hu : LRow W B u (l.take i ++ l.drop (i + 1))) => rwith (E := E) (HS.out.l.keep hk) (by rw [hlk]; exact h0) (by rw [hlk]; exact hV) hxl hu (x : Int) rfl)
          rw [hset] at HWI
          have hx1 : x ≤ 1048576 := by rw [hlk] at hxl; omega
          have hll : l.length ≤ 2 * E := by
            have h1 : l.length ≤ (List.range (2 * E)).length := List.Nodup.length_le_of_subset (hwk.nd hlx) (fun x hx => List.mem_range.2 (hwk.bd hlx hx))
            simpa using h1
          obtain ⟨g, gc, hsl, hgc, hBg, hat⟩ := HS.out.l.at_ (by rw [hlk]; exact h0)
          simp only [Value.slice.injEq, true_and] at hsl
          obtain ⟨rfl, rfl⟩ := hsl
          obtain ⟨u, hu, hrow⟩ := hat x l hlx
          have HROW := Lib.hid hrow
          rcases hrow.1.2 with ⟨_, hz⟩ | ⟨g2, c2, cur, rfl, hBg2, hgg, hnc, _⟩
          · omega
          have HBS : Hid (B ≤ wr.heap.size) := HS.out.l.size_le (by rw [hlk]; exact h0)
          have HMX := Lib.hid (ar_del hil hll hE)
          have hcc : ((c2 = i + 1) = False ∧ True) ∨ ((c2 = i + 1) = True ∧ l.length ≤ i + 1) := by
            by_cases hcap : c2 = i + 1
            · exact .inr ⟨eq_true hcap, by omega⟩
            · exact .inl ⟨eq_false hcap, trivial⟩
          have HCC := Lib.hid hcc
          have hx0 : decide ((x : Int) < 0) = false := by simp
          have hb1 : (0 : Int) ≤ (i : Int) := by omega
          have hb2 : (i : Int) ≤ (c2 : Int) := by omega
          have hb3 : (i : Int) + 1 ≤ (l.length : Int) := by omega
          have hb4 : (0 : Int) ≤ (i : Int) + 1 := by omega
          have hb5 : (l.length : Int) ≤ (c2 : Int) := by omega
          have hxl2 : (x : Int) < ((LK L n k).length : Int) := by omega
          have hil2 : i + 1 ≤ l.length := hil
          have hil1 : i ≤ l.length := Nat.le_of_lt hil
          have HB6 : Hid (IntKind.i64.wrap ((i : Int) + 1) = (i : Int) + 1 ∧ wrap64 ((i : Int) + 1) = (i : Int) + 1) := ⟨by rw [IntKind.wrap_i64]; omega, by unfold wrap64; omega⟩
          have HU := Lib.hid hu
          have t0 := HS.out.t.cell (i := 0)
          have t1 := HS.out.t.cell (i := 1)
          simp only [List.getElem?_toArray, List.getElem?_cons_zero, List.getElem?_cons_succ] at t0 t1
          clear hcc hat hu hrow hset hwk hlx ed ef hdi hlk hgg hg hw hs hr1
          generalize LK L n k = Lk at *
          generalize hL2 : LK L n (k + 1) = L2 at *
          have HL2 := Lib.hid hL2
          clear hL2
          unfold rval RetPost at HF
          go_wp2_with fail
          refine HF.out.mono ?_
          rintro e w2 ⟨rfl, hk2'⟩
          have HS2 : Hid (LiftAt w B E Lk (some ⟨g, 0, none⟩) c w2) := ⟨HS.out.t.kept hk2' id, HS.out.r.kept hk2' id, HS.out.l.keep hk2', HS.out.k.trans' hk2'⟩
          have hu := hk2'.cellF HU.out
          have HK2 := Lib.hid hk2'
          have t0 := HS2.out.t.cell (i := 0)
          have t1 := HS2.out.t.cell (i := 1)
          simp only [List.getElem?_toArray, List.getElem?_cons_zero, List.getElem?_cons_succ] at t0 t1
          clear hk2'
          go_upto_region 10 with fail
          go_cut [9] (fun t wc => Hid (LRow wc B t (l.take i ++ l.drop (i + 1)) ∧ Keeps (fun _ => False) w2 wc))
          case first =>
            have HKD : Hid (Keeps (fun _ => False) w2 w2.drew) := (Keeps.refl _ _).drew
            have HHD := Lib.hid ((HROW.out.keep HK2.out).head i hil1)
            have HTL := Lib.hid ((HROW.out.keep HK2.out).tail (i + 1) hil2)
            have HBD := Lib.hid (Nat.le_trans HBS.out (HK2.out.trans' HKD.out).size)
            obtain ⟨hb6, hb7⟩ := HB6.out
            rcases HCC.out with ⟨hcap1, HCL⟩ | ⟨hcap1, hcl⟩
            case' inr => have HCL := Lib.hid hcl; clear hcl
            all_goals
              go_region_held3 (fun w' => w'.cell? ⟨w.heap.size, 1, none⟩ = some (.slice (some ⟨g, 0, none⟩) Lk.length c) ∧ w'.cell? ⟨g, x, none⟩ = some (.slice (some ⟨g2, 0, none⟩) l.length c2))
                (first | exact ⟨HKD.out.cellF t1, HKD.out.cellF hu⟩ | exact ⟨hk1'.cellF (HKD.out.cellF t1), hk1'.cellF (HKD.out.cellF hu)⟩ | exact ⟨hkk.cellF t1, hkk.cellF hu⟩ | assumption)
                (first
                  | (refine step_appS rfl _ _ 23 rfl B 3 i0 (.int .i64 0) 1 8 Tryd.underlying23 HI.out hz0 hz1 hz2 rfl (by decide) (.slice none 0 0) 0 [] rfl (World.ownsRow_nil _ _ _ _) _ i (nats (l.take i)) rfl (HHD.out _ HKD.out) HMX.out.1 HMX.out.2.1 HBD.out ?_; intro v1 w1 ho1 hk1 hb1' hn1; have hk1' : Keeps (fun _ => False) _ w1 := hk1.mono fun _ _ e => by simp [Value.ownBlock] at e)
                  | (refine step_appS rfl _ _ 23 rfl B 3 i0 (.int .i64 0) 1 8 Tryd.underlying23 HI.out hz0 hz1 hz2 rfl (by decide) v1 _ _ rfl ho1 _ (l.length - (i + 1)) (nats (l.drop (i + 1))) rfl (HTL.out _ (HKD.out.trans' hk1') _ _ _ rfl (by first | exact .inl rfl | exact .inr HCL.out)) HMX.out.2.2.1 HMX.out.2.2.2 (Nat.le_trans HBD.out hk1'.size) ?_; intro v2 w3 ho2 hk2 hb2' hn2; have hkk := app_chain HKD.out hk1' hb1' (Keeps.refl _ _) hk2 hb2' (Keeps.refl _ _))
                  | fail)
              have HP : Hid (LRow w3 B v2 (l.take i ++ l.drop (i + 1)) ∧ Keeps (fun _ => False) w2 w3) := ⟨delRow ho2 hn1 hn2 hil, hkk⟩
              clear ho1 hk1 hb1' hn1 hk1' ho2 hk2 hb2' hn2 hkk hb6 hb7
              go_wp2_with fail
              go_meet
              exact HP
          case rest =>
            obtain ⟨hrow, hkc⟩ := hcut.out
            have hwi := Lib.hid (HWI.out wc (HK2.out.trans' hkc) _ hrow)
            have HS3 : Hid (LiftAt w B E Lk (some ⟨g, 0, none⟩) c wc) := ⟨HS2.out.t.kept hkc id, HS2.out.r.kept hkc id, HS2.out.l.keep hkc, HS2.out.k.trans' hkc⟩
            have t0 := HS3.out.t.cell (i := 0)
            have t1 := HS3.out.t.cell (i := 1)
            simp only [List.getElem?_toArray, List.getElem?_cons_zero, List.getElem?_cons_succ] at t0 t1
            unfold RPost at hwi
            unfold rval at hwi
            clear hcut hrow hkc hu
            go_wp2_with fail
            refine hwi.out.mono ?_
            rintro e w4 ⟨v4, rfl, hls, hk4⟩
            obtain ⟨v4a, v4c, rfl⟩ := hls.form
            have hT4 := HS3.out.t.kept hk4 id
            have HR4 := Lib.hid (HS3.out.r.kept hk4 id)
            have HEN := rl_end (E := E) (HS3.out.k.trans' hk4) hls hT4 (Nat.le_refl _) rfl
            have t0 := hT4.cell (i := 0)
            have t1 := hT4.cell (i := 1)
            have q0 := hT4.free 0
            have q1 := hT4.free 1
            have rl := hT4.lt
            simp only [List.getElem?_toArray, List.getElem?_cons_zero, List.getElem?_cons_succ] at t0 t1
            have HNX : Hid (LiftAt w B E L2 v4a v4c ((w4.setCell ⟨w.heap.size, 0, none⟩ (.int .i64 (E : Int))).setCell ⟨w.heap.size, 1, none⟩ (.slice v4a L2.length v4c))) :=
              ⟨HEN.out.1, (HR4.out.set_other _ _ (Nat.succ_ne_self _)).set_other _ _ (Nat.succ_ne_self _), HEN.out.2.1, HEN.out.2.2⟩
            clear hls hk4 hT4 HEN hwi HB6
            go_wp2_with fail
            refine ⟨⟨k + 1, v4a, v4c, by omega, by go_num, ?_⟩, by simp [intOf]; omega⟩
            rw [HL2.out]
            exact HNX
        · obtain rfl : k = 2 := by omega
          have hlk : LK L n 2 = liftL L n := rfl
          rw [hlk] at HS
          have t0 := HS.out.t.cell (i := 0)
          have t1 := HS.out.t.cell (i := 1)
          have r0 := HS.out.r.cell (i := 0)
          have r1 := HS.out.r.cell (i := 1)
          have q0 := HS.out.r.free 0
          have q1 := HS.out.r.free 1
          have rl := HS.out.r.lt
          simp only [List.getElem?_toArray, List.getElem?_cons_zero, List.getElem?_cons_succ] at t0 t1 r0 r1
          have HE := rl_end (E := E) HS.out.k HS.out.l HS.out.r hbw rfl
          go_wp2_with fail
          generalize (World.setCell _ _ _).setCell _ (.slice _ _ _) = WW at *
          have k0 := HE.out.1.cell (i := 0)
          have k1 := HE.out.1.cell (i := 1)
          refine bodyPost_ret (v := .tuple #[rval E (.slice a (liftL L n).length c), .int .i64 0]) (by simp at k0 k1; simp [results, Tryd.results60, go_sem, k0, k1, rval]) rfl ?_
          exact ⟨_, rfl, HE.out.2⟩
    · rw [hle, if_neg hs, if_neg (by decide)]
      have hf := fndV_neg hs
      have HF := Lib.hid (rfind HS.out.l hw h0 hV hE (2 * (n : Int)))
      rw [show (2 * (n : Int)) = ((2 * n : Nat) : Int) by omega, hf] at HF
      generalize fndI L _ = fi at *
      clear hle h hs hf
      rw [show ((2 * n : Nat) : Int) = 2 * (n : Int) by omega] at HF
      unfold rval RLPost RetPost at *
      go_enter Tryd.func60, Tryd.ntmps60
      go_upto_region 1 with fail
      clear hW
      have t0 := HS.out.t.cell (i := 0)
      have t1 := HS.out.t.cell (i := 1)
      have r0 := HS.out.r.cell (i := 0)
      have r1 := HS.out.r.cell (i := 1)
      have q0 := HS.out.r.free 0
      have q1 := HS.out.r.free 1
      have rl := HS.out.r.lt
      simp only [List.getElem?_toArray, List.getElem?_cons_zero, List.getElem?_cons_succ] at t0 t1 r0 r1
      go_wp2_with fail
      go_loopw [6] (fun i wr => i = .int .i64 0 ∧ w0 = wr) (fun _ _ => 0)
      case atStart => exact ⟨rfl, rfl⟩
      case round =>
        obtain ⟨rfl, rfl⟩ := hrel
        go_wp2_with fail
        refine HF.out.mono ?_
        rintro e w2 ⟨rfl, hk2⟩
        have HS2 : Hid (LiftAt w B E L va vc w2) := ⟨HS.out.t.kept hk2 id, HS.out.r.kept hk2 id, HS.out.l.keep hk2, HS.out.k.trans' hk2⟩
        clear hk2 t0 t1 r0 r1 q0 q1 rl
        have t0 := HS2.out.t.cell (i := 0)
        have t1 := HS2.out.t.cell (i := 1)
        have r0 := HS2.out.r.cell (i := 0)
        have r1 := HS2.out.r.cell (i := 1)
        have q0 := HS2.out.r.free 0
        have q1 := HS2.out.r.free 1
        have rl := HS2.out.r.lt
        simp only [List.getElem?_toArray, List.getElem?_cons_zero, List.getElem?_cons_succ] at t0 t1 r0 r1
        have HE := rl_end (E := E) HS2.out.k HS2.out.l HS2.out.r hbw rfl
        go_wp2_with fail
        generalize (World.setCell _ _ _).setCell _ (.slice _ _ _) = WW at *
        have k0 := HE.out.1.cell (i := 0)
        have k1 := HE.out.1.cell (i := 1)
        refine bodyPost_ret (v := .tuple #[rval E (.slice va L.length vc), .int .i64 13]) (by simp at k0 k1; simp [results, Tryd.results60, go_sem, k0, k1, rval]) rfl ?_
        exact ⟨_, rfl, HE.out.2⟩
end
end Go.Proofs.YtdplphhlclhmfaaDoor
