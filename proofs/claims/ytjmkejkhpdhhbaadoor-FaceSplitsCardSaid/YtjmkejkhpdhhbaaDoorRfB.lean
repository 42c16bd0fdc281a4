/- The document's turns: New, Check, With, Next. -/
import Derived.Test.YtjmkejkhpdhhbaaDoorRfA
namespace Go.Proofs.YtjmkejkhpdhhbaaDoor
open Go Go.RowKit
set_option linter.unusedVariables false
set_option linter.unusedSimpArgs false
set_option maxRecDepth 100000

theorem infoS : (Tryd.prog.info? 47).map (fun i => (i.zero, i.size, i.bytes)) = some (some (.slice none 0 0), 1, 24) := by kernel_rfl
theorem LRow.nil (w : World) (B : Nat) : LRow w B (.slice none 0 0) [] := ⟨World.ownsRow_nil _ _ _ _, fun _ => rfl⟩
/-- The document's turns told. -/
def RPost (E B : Nat) (L : List (List Nat)) (w : World) (e : Ending) (w' : World) : Prop :=
  ∃ v, e = .returned (rval E v) ∧ LsRow w' B v L ∧ Keeps (fun _ => False) w w'
theorem rnew (V E : Nat) (w : World) (hV1 : 1 ≤ V) (hV : V ≤ 1048576) : Calls Tryd.prog 17 #[.int .i64 (V : Int), .int .i64 (E : Int)] w (RPost E w.heap.size (List.replicate V []) w) := by
  obtain ⟨i0, hi, hz0, hz1, hz2⟩ := info_parts infoS
  have hmk : ∀ W, (Instr.makeSlice 30 (.int .i64 (V : Int)) (.int .i64 (V : Int))).run Tryd.prog W = .ok (.slice (some ⟨W.heap.size, 0, none⟩) V V) (W.alloc (.cells (List.replicate V (Value.slice none 0 0)).toArray 47)) := fun W => by
    have := run_make (P := Tryd.prog) W 30 47 i0 _ Tryd.underlying30 hi hz0 .i64 .i64 (V : Int) (V : Int) (by omega) (Int.le_refl _) (by rw [hz2]; omega) (by omega)
    rw [this, hz1, Int.toNat_natCast, Nat.mul_one, show (Value.slice none 0 0).cells = #[.slice none 0 0] from rfl, madeCells_one]
  clear hi hz0 hz1 hz2 i0
  unfold RPost rval
  go_enter Tryd.func17, Tryd.ntmps17
  go_wp2_with fail
  generalize hcs : List.replicate V (Value.slice none 0 0) = cs at *
  refine bodyPost_ret (v := rval E (.slice (some ⟨w.heap.size + 1, 0, none⟩) V V)) (by simp [results, Tryd.results17, go_sem, rval]) rfl ?_
  refine ⟨_, rfl, ⟨cs, ?_, fun i l hl => ?_⟩, ?_⟩
  · rw [List.length_replicate]
    have h1 := World.ownsRow_lit (e := 47) (size := 1) (base := w.heap.size) (w.alloc (.cells #[.int .i64 (E : Int), .slice (some ⟨w.heap.size + 1, 0, none⟩) V V] 32)) (Array.replicate V (Value.slice none 0 0)) V (by simp) (by unfold maxLen; omega) (by simp)
    have e1 : (Array.replicate V (Value.slice none 0 0)).toList = cs := by rw [← hcs]; simp
    rw [e1] at h1
    simpa using h1
  · have hlt := (List.getElem?_eq_some_iff.1 hl).1
    rw [List.length_replicate] at hlt
    rw [List.getElem?_replicate, if_pos hlt] at hl
    cases hl
    exact ⟨_, by rw [← hcs, List.getElem?_replicate, if_pos hlt], LRow.nil _ _⟩
  · exact ((Keeps.refl _ _).alloc _).alloc _
section
variable {w : World} {B E : Nat} {v : Value} {L : List (List Nat)}
theorem chk_fnd {E : Nat} {L : List (List Nat)} (hw : WF E L) {n : Nat} {l : List Nat} (hl : L[n]? = some l) (b : Int) (hb : ¬ (b = -1 ∧ l = [])) :
    chkErr L n b = if b < 0 ∨ fndV L b ≠ n then 13 else 0 := by
  have hn := (List.getElem?_eq_some_iff.1 hl).1
  unfold chkErr
  rw [if_neg (by omega), Int.toNat_natCast, getD_some hl, if_neg hb]
  by_cases h0 : b < 0
  · rw [if_pos (.inl h0), if_pos (.inl h0)]
  · obtain ⟨d, rfl⟩ := Int.eq_ofNat_of_zero_le (show 0 ≤ b by omega)
    rw [Int.toNat_natCast]
    by_cases hm : d ∈ l
    · obtain ⟨i, hi, rfl⟩ := mem_getD hm
      have e1 : ¬ (((l.getD i 0 : Nat) : Int) < 0 ∨ l.getD i 0 ∉ l) := fun q => q.elim (by omega) fun q => q hm
      have e2 : ¬ (((l.getD i 0 : Nat) : Int) < 0 ∨ (n : Int) ≠ n) := fun q => q.elim (by omega) fun q => q rfl
      rw [if_neg e1, (fnd_hit hw hl hi).1, if_neg e2]
    · have hne : fndV L ((d : Nat) : Int) ≠ n := fun e => by
        unfold fndV at e
        split at e
        · rename_i h2
          obtain ⟨v, m, i, hv, hi, hd⟩ := stands_ex h2.2
          rw [Int.toNat_natCast] at hd e
          subst hd
          rw [(hw.at_ hv hi).1] at e
          obtain rfl : v = n := by omega
          rw [hl] at hv
          cases hv
          exact hm (getD_mem hi)
        · omega
      rw [if_pos (.inr hm), if_pos (.inr hne)]
theorem rcheck (h : LsRow w B v L) (hw : WF E L) (h0 : 0 < L.length) (hV : L.length ≤ 1048576) (hE : E ≤ 1048576) (n b : Int) :
    Calls Tryd.prog 21 #[rval E v, .int .i64 n, .int .i64 b] w (RetPost (.int .i64 (chkErr L n b : Nat)) w) := by
  have HF := Lib.hid (fun W (hk : Keeps (fun _ => False) w W) => rfind (h.keep hk) hw h0 hV hE b)
  obtain ⟨g, c, rfl, hc, hB, hat⟩ := h.at_ h0
  have hgb : g < w.heap.size := by
    obtain ⟨u, hu, _⟩ := hat 0 _ (List.getElem?_eq_getElem h0)
    exact World.block_lt_of_cell? w _ hu
  have HB : Hid (Blk (w.alloc (.cells #[.int .i64 (E : Int), .slice (some ⟨g, 0, none⟩) L.length c] 32)) w.heap.size #[.int .i64 (E : Int), .slice (some ⟨g, 0, none⟩) L.length c] 32) := Blk.new w _ _
  have HK := Lib.hid ((Keeps.refl (fun _ => False) w).alloc (.cells #[.int .i64 (E : Int), .slice (some ⟨g, 0, none⟩) L.length c] 32))
  by_cases hr1 : n < 0 ∨ (L.length : Int) ≤ n
  · have he : chkErr L n b = 12 := by unfold chkErr; rw [if_pos hr1]
    rw [he]
    clear h he hat
    unfold rval RetPost at *
    rcases (show n < 0 ∨ 0 ≤ n ∧ (L.length : Int) ≤ n by omega) with h2 | ⟨h2, h3⟩
    · have hd0 : decide (n < 0) = true := by simp; exact h2
      go_enter Tryd.func21, Tryd.ntmps21
      go_wp2_with fail
      go_ret
      exact ⟨rfl, HK.out⟩
    · have hd0 : decide (n < 0) = false := by simp; exact h2
      have hd1 : decide ((L.length : Int) ≤ n) = true := by simp; exact h3
      go_enter Tryd.func21, Tryd.ntmps21
      go_wp2_with fail
      go_ret
      exact ⟨rfl, HK.out⟩
  · obtain ⟨n, rfl⟩ := Int.eq_ofNat_of_zero_le (show 0 ≤ n by omega)
    have hn : n < L.length := by omega
    obtain ⟨l, hl⟩ : ∃ l, L[n]? = some l := ⟨_, List.getElem?_eq_getElem hn⟩
    obtain ⟨u, hu, hrow⟩ := hat n l hl
    obtain ⟨a, c2, rfl, _⟩ := hrow.rd
    have hd0 : decide ((n : Int) < 0) = false := by simp
    have hl0 : ((l.length : Int) == 0) = decide (l = []) := by
      cases l with
      | nil => rfl
      | cons a l => simp; omega
    by_cases hbl : b = -1 ∧ l = []
    · obtain ⟨rfl, rfl⟩ := hbl
      have he : chkErr L n (-1) = 0 := by
        unfold chkErr
        rw [if_neg hr1, Int.toNat_natCast, getD_some hl, if_pos ⟨rfl, rfl⟩]
      rw [he]
      clear h he hat hr1 hl hrow HF hl0
      unfold rval RetPost at *
      go_enter Tryd.func21, Tryd.ntmps21
      go_wp2_with fail
      go_ret
      exact ⟨rfl, HK.out⟩
    · have he := chk_fnd hw hl b hbl
      rw [he]
      have hfb : -1 ≤ fndV L b := by unfold fndV; split <;> omega
      generalize fndV L b = fv at *
      generalize fndI L b = fi at *
      clear h he hat hr1 hl hrow
      have HF2 := Lib.hid (HF.out _ HK.out)
      clear HF
      unfold rval RetPost at *
      have hcs : (b = -1 ∧ decide (l = []) = false) ∨ (b == -1) = false := by
        by_cases hb1 : b = -1
        · exact .inl ⟨hb1, decide_eq_false fun e => hbl ⟨hb1, e⟩⟩
        · exact .inr (by rw [beq_eq_false_iff_ne]; exact hb1)
      have htail : (b < 0) ∨ (0 ≤ b ∧ fv = n) ∨ (0 ≤ b ∧ fv ≠ n) := by omega
      rcases htail with hb0 | ⟨hb0, hfn⟩ | ⟨hb0, hfn⟩
      · rw [if_pos (.inl hb0)]
        have hd2 : decide (b < 0) = true := by simp; exact hb0
        rcases hcs with ⟨rfl, hl1⟩ | hb1
        · rw [hl1] at hl0
          go_enter Tryd.func21, Tryd.ntmps21
          go_wp2_with fail
          refine (HF2.out).mono ?_
          rintro e w2 ⟨rfl, hk2⟩
          have HK2 := Lib.hid (HK.out.trans' hk2)
          clear hk2
          go_wp2_with fail
          go_ret
          exact ⟨rfl, HK2.out⟩
        · go_enter Tryd.func21, Tryd.ntmps21
          go_wp2_with fail
          refine (HF2.out).mono ?_
          rintro e w2 ⟨rfl, hk2⟩
          have HK2 := Lib.hid (HK.out.trans' hk2)
          clear hk2
          go_wp2_with fail
          go_ret
          exact ⟨rfl, HK2.out⟩
      · rw [if_neg (by rintro (h | h); · omega
                       · exact h hfn)]
        have hd2 : decide (b < 0) = false := by simp; exact hb0
        have hb1 : (b == -1) = false := by rw [beq_eq_false_iff_ne]; omega
        subst hfn
        clear hcs hbl
        go_enter Tryd.func21, Tryd.ntmps21
        go_wp2_with fail
        refine (HF2.out).mono ?_
        rintro e w2 ⟨rfl, hk2⟩
        have HK2 := Lib.hid (HK.out.trans' hk2)
        clear hk2
        go_wp2_with fail
        go_ret
        exact ⟨rfl, HK2.out⟩
      · rw [if_pos (.inr hfn)]
        have hd2 : decide (b < 0) = false := by simp; exact hb0
        have hb1 : (b == -1) = false := by rw [beq_eq_false_iff_ne]; omega
        have hd3 : (fv != (n : Int)) = true := by rw [bne_iff_ne]; exact hfn
        clear hcs hbl
        go_enter Tryd.func21, Tryd.ntmps21
        go_wp2_with fail
        refine (HF2.out).mono ?_
        rintro e w2 ⟨rfl, hk2⟩
        have HK2 := Lib.hid (HK.out.trans' hk2)
        clear hk2
        go_wp2_with fail
        go_ret
        exact ⟨rfl, HK2.out⟩
end
end Go.Proofs.YtjmkejkhpdhhbaaDoor
