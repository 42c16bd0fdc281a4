/- The turns: whether darts can't stand as it is told. -/
import Derived.Test.YtjmkejkhpdhhbaaDoorLwM
namespace Go.Proofs.YtjmkejkhpdhhbaaDoor
open Go Go.RowKit
set_option linter.unusedVariables false
set_option linter.unusedSimpArgs false
set_option maxRecDepth 100000

def intsV (l : List Int) : List Value := l.map fun z => Value.int .i64 z
theorem intsV_length (l : List Int) : (intsV l).length = l.length := by simp [intsV]
/-- Lists of numbers that lie in memory. -/
def IRows (w : World) (v : Value) (R : List (List Int)) : Prop :=
  ∃ us : List Value, us.length = R.length ∧ (∃ a c, v = .slice a R.length c ∧ Rd w a us) ∧ ∀ (i : Nat) (l : List Int), R[i]? = some l → ∃ A C, us[i]? = some (.slice A l.length C) ∧ Rd w A (intsV l)
theorem IRows.keep {w w' : World} {v : Value} {R : List (List Int)} (h : IRows w v R) (hk : Keeps (fun _ => False) w w') : IRows w' v R := by
  obtain ⟨us, h1, ⟨a, c, e, h2⟩, h3⟩ := h
  refine ⟨us, h1, ⟨a, c, e, h2.keep hk⟩, fun i l hl => ?_⟩
  obtain ⟨A, C, g1, g2⟩ := h3 i l hl
  exact ⟨A, C, g1, g2.keep hk⟩
theorem IRows.form {w : World} {v : Value} {R : List (List Int)} (h : IRows w v R) : ∃ a c, v = .slice a R.length c := by
  obtain ⟨us, h1, ⟨a, c, e, h2⟩, h3⟩ := h
  exact ⟨a, c, e⟩
theorem IRows.at_ {w : World} {a : Option Addr} {c : Nat} {R : List (List Int)} (h : IRows w (.slice a R.length c) R) {i : Nat} {l : List Int} (hl : R[i]? = some l) :
    ∃ b off A C, a = some ⟨b, off, none⟩ ∧ w.cell? ⟨b, off + i, none⟩ = some (.slice A l.length C) ∧ Rd w A (intsV l) := by
  obtain ⟨us, h1, ⟨a', c', e, h2⟩, h3⟩ := h
  simp only [Value.slice.injEq, true_and] at e
  obtain ⟨rfl, rfl⟩ := e
  have hi := (List.getElem?_eq_some_iff.1 hl).1
  obtain ⟨A, C, g1, g2⟩ := h3 i l hl
  obtain ⟨b, off, e, hc⟩ := h2.at_ i (by omega)
  exact ⟨b, off, A, C, e, by rw [hc i (by omega), g1], g2⟩
theorem Rd.int {w : World} {a : Option Addr} {l : List Int} (h : Rd w a (intsV l)) {i : Nat} (hi : i < l.length) : ∃ b off, a = some ⟨b, off, none⟩ ∧ w.cell? ⟨b, off + i, none⟩ = some (.int .i64 l[i]) := by
  obtain ⟨b, off, e, hc⟩ := h.at_ i (by rw [intsV_length]; exact hi)
  exact ⟨b, off, e, by rw [hc i (by rw [intsV_length]; exact hi)]; simp [intsV, hi]⟩
theorem infoBo : (Tryd.prog.info? 4).map (fun i => (i.zero, i.size, i.bytes)) = some (some (.bool false), 1, 1) := by kernel_rfl
def SeenAt (w : World) (sb E : Nat) (P : List Int) (wr : World) : Prop := GoodP E P ∧ Blk wr sb (seenV E P).toArray 4 ∧ w.heap.size ≤ sb ∧ Keeps (fun _ => False) w wr
theorem SeenAt.cell {w wr : World} {sb E : Nat} {P : List Int} (h : SeenAt w sb E P wr) {d : Nat} (hd : d < 2 * E) : wr.cell? ⟨sb, d, none⟩ = some (.bool (decide ((d : Int) ∈ P))) := by
  rw [h.2.1.cell, List.getElem?_toArray, seenV_get hd]
theorem SeenAt.push {w wr : World} {sb E d : Nat} {P : List Int} (h : SeenAt w sb E P wr) (hd : d < 2 * E) (hn : (d : Int) ∉ P) : SeenAt w sb E (P ++ [(d : Int)]) (wr.setCell ⟨sb, d, none⟩ (.bool true)) := by
  refine ⟨h.1.push (by omega) (by omega) hn, ?_, h.2.2.1, h.2.2.2.setNew h.2.2.1 _ _⟩
  have := h.2.1.set d (.bool true)
  rwa [seenV_set] at this
theorem nat_xor_one (d : Nat) : d ^^^ 1 = tw d := by
  have h1 : (d ^^^ 1) / 2 = d / 2 := by rw [Nat.xor_div_two]; simp
  have h2 : (d ^^^ 1) % 2 ^ 1 = d % 2 ^ 1 ^^^ 1 % 2 ^ 1 := Nat.xor_mod_two_pow
  simp only [Nat.pow_one] at h2
  have h3 : d % 2 = 0 ∨ d % 2 = 1 := by omega
  rcases h3 with h3 | h3
  · rw [h3, show (0 ^^^ 1 % 2 : Nat) = 1 by decide] at h2
    unfold tw; rw [if_neg (by omega)]; omega
  · rw [h3, show (1 ^^^ 1 % 2 : Nat) = 0 by decide] at h2
    unfold tw; rw [if_pos h3]; omega
theorem xor_one (d : Nat) (h : d < 4194304) : bits BinOp.xor IntKind.i64 (d : Int) 1 = ((tw d : Nat) : Int) := by
  unfold bits
  simp only []
  have e1 : BitVec.ofInt IntKind.i64.bits (d : Int) = BitVec.ofNat 64 d := by rw [BitVec.ofInt_natCast]; rfl
  have e2 : BitVec.ofInt IntKind.i64.bits 1 = BitVec.ofNat 64 1 := by rfl
  rw [e1, e2]
  have e3 : (BitVec.ofNat 64 d ^^^ BitVec.ofNat 64 1).toNat = tw d := by
    rw [BitVec.toNat_xor, BitVec.toNat_ofNat, BitVec.toNat_ofNat, Nat.mod_eq_of_lt (by omega), Nat.mod_eq_of_lt (by decide), nat_xor_one]
  have h3 : tw d < 4194306 := by unfold tw; split <;> omega
  show IntKind.i64.wrap ((BitVec.ofNat 64 d ^^^ BitVec.ofNat 64 1).toNat : Int) = _
  rw [e3, IntKind.wrap_i64]
  omega
def OddPost (E V : Nat) (R : List (List Int)) (w : World) (e : Ending) (w' : World) : Prop := ∃ b : Bool, e = .returned (.bool b) ∧ (b = true ↔ ¬ OkL E V R) ∧ Keeps (fun _ => False) w w'
section
variable {w : World} {own : Nat → Prop} {p E : Nat} {L : List (List Nat)}
set_option maxHeartbeats 4000000 in
theorem todd (h : Tu w own p E L) {v : Value} {R : List (List Int)} (hv : IRows w v R) (hR : R.length ≤ 1000000) (hr : ∀ l ∈ R, l.length ≤ 1000000) :
    Calls Tryd.prog 65 #[tptr p, v] w (OddPost E L.length R w) := by
  obtain ⟨g1, g2, g3, D, ls, mn, hx, _, _⟩ := h.ex
  have hE1 := h.e1
  have hE2 := h.e2
  have hV2 := h.v2
  obtain ⟨i0, hi, hz0, hz1, hz2⟩ := info_parts infoBo
  have hmkB : ∀ W, (Instr.makeSlice 77 (.int .i64 (2 * (E : Int))) (.int .i64 (2 * (E : Int)))).run Tryd.prog W = .ok (.slice (some ⟨W.heap.size, 0, none⟩) (2 * E) (2 * E)) (W.alloc (.cells (seenV E []).toArray 4)) := fun W => by
    have := run_make (P := Tryd.prog) W 77 4 i0 _ Tryd.underlying77 hi hz0 .i64 .i64 (2 * (E : Int)) (2 * (E : Int)) (by omega) (Int.le_refl _) (by rw [hz2]; omega) (by omega)
    rw [this, hz1, show (2 * (E : Int)).toNat = 2 * E by omega, Nat.mul_one, show (Value.bool false).cells = #[.bool false] from rfl, zeros_B]
  obtain ⟨va, vc, rfl⟩ := hv.form
  have HV := Lib.hid hv
  have HX := Lib.hid hx
  have HRB := Lib.hid hr
  have HS0 : Hid (SeenAt w w.heap.size E (pre R 0 0) (w.alloc (.cells (seenV E []).toArray 4))) := by
    rw [pre_zero]
    exact Lib.hid ⟨⟨fun d hd => by simp at hd, List.nodup_nil⟩, Blk.new _ _ _, Nat.le_refl _, (Keeps.refl _ _).alloc _⟩
  have c0 := hx.c0
  clear hi hz0 hz1 hz2 i0 h hv hx hr
  unfold tptr OddPost
  go_enter Tryd.func65, Tryd.ntmps65
  go_upto_region 2 with fail
  generalize w.alloc _ = w1 at *
  generalize hsb : w.heap.size = sb at *
  clear hsb c0
  go_upto_region 3 with fail
  go_loopw [20] (fun i wr => ∃ (n : Nat), n ≤ R.length ∧ i = .int .i64 (n : Int) ∧ Hid (SeenAt w sb E (pre R n 0) wr)) (fun i _ => R.length - (intOf i).toNat)
  case atStart => exact ⟨0, Nat.zero_le _, rfl, HS0⟩
  case round =>
    obtain ⟨n, hn, rfl, HS⟩ := hrel
    clear HS0
    by_cases hnR : n < R.length
    · as_aux_lemma =>
      obtain ⟨l, hl⟩ : ∃ l, R[n]? = some l := ⟨_, List.getElem?_eq_getElem hnR⟩
      have HLM := Lib.hid hl
      have hlb : l.length ≤ 1000000 := HRB.out l (List.mem_iff_getElem?.2 ⟨n, hl⟩)
      obtain ⟨b, off, A, C, rfl, hc, hrd⟩ := (HV.out.keep HS.out.2.2.2).at_ hl
      have HRW := Lib.hid hrd
      clear hl hrd
      go_upto_region 6 with fail
      go_loopw [26] (fun i wx => ∃ (k : Nat), k ≤ l.length ∧ i = .int .i64 (k : Int) ∧ Hid (SeenAt w sb E (pre R n k) wx ∧ Rd wx A (intsV l))) (fun i _ => l.length - (intOf i).toNat)
      case atStart => exact ⟨0, Nat.zero_le _, rfl, Lib.hid ⟨HS.out, HRW.out⟩⟩
      case round =>
        obtain ⟨k, hk, rfl, HX2⟩ := hrel
        clear HRW
        by_cases hkl : k < l.length
        · as_aux_lemma =>
          obtain ⟨b2, off2, rfl, hd⟩ := HX2.out.2.int hkl
          have hstep := pre_step HLM.out hkl
          have hbad := fun hb => bad_no (E := E) (V := L.length) HLM.out hkl hb
          generalize hdd : l[k] = d at *
          have hKe := Lib.hid HX2.out.1.2.2.2
          rcases (show d < 0 ∨ (0 ≤ d ∧ 2 * (E : Int) ≤ d) ∨ (0 ≤ d ∧ d < 2 * (E : Int)) by omega) with h0 | ⟨h0, h1⟩ | ⟨h0, h1⟩
          · have hd0 : decide (d < 0) = true := by simp; exact h0
            have HB := Lib.hid (hbad (Or.inl h0))
            clear hbad hstep
            go_wp2_with fail
            go_ret
            exact ⟨true, rfl, ⟨fun _ => HB.out, fun _ => rfl⟩, hKe.out⟩
          · have hd0 : decide (d < 0) = false := by simp; exact h0
            have hd1 : decide (2 * (E : Int) ≤ d) = true := by simp; exact h1
            have HB := Lib.hid (hbad (Or.inr (Or.inl h1)))
            clear hbad hstep
            go_wp2_with fail
            go_ret
            exact ⟨true, rfl, ⟨fun _ => HB.out, fun _ => rfl⟩, hKe.out⟩
          · obtain ⟨dn, rfl⟩ := Int.eq_ofNat_of_zero_le h0
            have hdn : dn < 2 * E := by omega
            have hd0 : decide ((dn : Int) < 0) = false := by simp
            have hd1 : decide (2 * (E : Int) ≤ (dn : Int)) = false := by simp; exact h1
            have hsc := HX2.out.1.cell hdn
            by_cases hin : (dn : Int) ∈ pre R n k
            · have HB := Lib.hid (hbad (Or.inr (Or.inr hin)))
              rw [decide_eq_true hin] at hsc
              clear hbad hstep hin
              go_wp2_with fail
              go_ret
              exact ⟨true, rfl, ⟨fun _ => HB.out, fun _ => rfl⟩, hKe.out⟩
            · rw [decide_eq_false hin] at hsc
              have hnx := HX2.out.1.push hdn hin
              rw [← hstep] at hnx
              have hf := HX2.out.1.2.1.free dn
              have hrd2 := (HX2.out.2).kept (((Keeps.refl (fun q => q = sb) wr).setIn sb dn (.bool true) rfl)) (fun b off e q => by
                obtain ⟨b3, off3, e3, hc3⟩ := HX2.out.2.int hkl
                cases e
                cases e3
                have hb2 := HX2.out.1.2.1
                have hcell := hb2.cell (i := off2 + k)
                subst q
                rw [hcell, List.getElem?_toArray] at hc3
                unfold seenV at hc3
                rw [List.getElem?_map] at hc3
                cases hq : (List.range (2 * E))[off2 + k]? with
                | none => rw [hq] at hc3; simp at hc3
                | some z => rw [hq] at hc3; simp at hc3)
              have HN2 := Lib.hid (show SeenAt w sb E (pre R n (k + 1)) _ ∧ Rd _ _ _ from ⟨hnx, hrd2⟩)
              clear hbad hstep hin hnx hrd2
              go_wp2_with fail
              exact ⟨⟨k + 1, by omega, by simp, HN2⟩, by simp [intOf]; omega⟩
        · obtain rfl : k = l.length := by omega
          have HS2 := Lib.hid HX2.out.1
          rw [pre_row HLM.out] at HS2
          go_wp2_with fail
          exact ⟨⟨n + 1, by omega, by simp, HS2⟩, by simp [intOf]; omega⟩
    · obtain rfl : n = R.length := by omega
      rw [pre_all] at HS
      have hGP := HS.out.1
      have hnd : Hid ((∀ d ∈ R.flatten, 0 ≤ d ∧ d < 2 * (E : Int)) ∧ R.flatten.Nodup) := Lib.hid ⟨hGP.1, hGP.2⟩
      clear hGP
      go_upto_region 14 with fail
      go_loopw [51] (fun i wx => ∃ (d : Nat), d ≤ 2 * E ∧ i = .int .i64 (d : Int) ∧ Hid ((∀ x : Nat, x < d → ((x : Int) ∈ R.flatten ↔ ((tw x : Nat) : Int) ∈ R.flatten)) ∧ SeenAt w sb E R.flatten wx)) (fun i _ => 2 * E - (intOf i).toNat)
      case atStart => exact ⟨0, Nat.zero_le _, rfl, Lib.hid ⟨fun x hx => absurd hx (Nat.not_lt_zero _), HS.out⟩⟩
      case round =>
        obtain ⟨d, hd, rfl, HW⟩ := hrel
        clear HS
        by_cases hdE : d < 2 * E
        · as_aux_lemma =>
          have hs1 := HW.out.2.cell hdE
          have htw := tw_lt hdE
          have hs2 := HW.out.2.cell htw
          have hxo := xor_one d (by omega)
          have hdI : (d : Int) < 2 * (E : Int) := by omega
          have htI : ((tw d : Nat) : Int) < 2 * (E : Int) := by omega
          have hno : Hid (¬ ((d : Int) ∈ R.flatten ↔ ((tw d : Nat) : Int) ∈ R.flatten) → ¬ OkL E L.length R) := Lib.hid fun q ok => q (ok.2.2.1 d hdE)
          have hyes : Hid (((d : Int) ∈ R.flatten ↔ ((tw d : Nat) : Int) ∈ R.flatten) → ∀ x : Nat, x < d + 1 → ((x : Int) ∈ R.flatten ↔ ((tw x : Nat) : Int) ∈ R.flatten)) := Lib.hid fun q x hx => by
            by_cases e : x = d
            · subst e; exact q
            · exact HW.out.1 x (by omega)
          have hKe := Lib.hid HW.out.2.2.2.2
          have hSe := Lib.hid HW.out.2
          obtain ⟨b1, hb1⟩ : ∃ b, decide ((d : Int) ∈ R.flatten) = b := ⟨_, rfl⟩
          obtain ⟨b2, hb2⟩ : ∃ b, decide (((tw d : Nat) : Int) ∈ R.flatten) = b := ⟨_, rfl⟩
          rw [hb1] at hs1
          rw [hb2] at hs2
          have hiff : Hid ((b1 = b2) ↔ ((d : Int) ∈ R.flatten ↔ ((tw d : Nat) : Int) ∈ R.flatten)) := Lib.hid (by rw [← hb1, ← hb2, decide_eq_decide])
          clear hb1 hb2 HW
          generalize tw d = td at *
          by_cases hbb : b1 = b2
          · have HN := Lib.hid (hyes.out (hiff.out.1 hbb))
            subst hbb
            go_wp2_with fail
            exact ⟨⟨d + 1, by omega, by simp, Lib.hid ⟨HN.out, hSe.out⟩⟩, by simp [intOf]; omega⟩
          · have HN := Lib.hid (hno.out fun q => hbb (hiff.out.2 q))
            have hne : (b1 != b2) = true := by rw [bne_iff_ne]; exact hbb
            have hbq : b2 = !b1 := by cases b1 <;> cases b2 <;> simp_all
            subst hbq
            clear hbb
            go_wp2_with fail
            go_ret
            exact ⟨true, rfl, ⟨fun _ => HN.out, fun _ => rfl⟩, hKe.out⟩
        · obtain rfl : d = 2 * E := by omega
          have hKe := Lib.hid HW.out.2.2.2.2
          have hc1 := (HX.out.keep hKe.out).c1
          have hfin : Hid ((decide (L.length < R.length) = true) ↔ ¬ OkL E L.length R) := Lib.hid (by
            rw [decide_eq_true_eq]
            constructor
            · intro q ok; have := ok.2.2.2; omega
            · intro q
              by_cases hle : R.length ≤ L.length
              · exact absurd ⟨hnd.out.1, hnd.out.2, HW.out.1, hle⟩ q
              · omega)
          have hlE : decide (2 * (E : Int) < 2 * (E : Int)) = false := by simp
          clear HW
          go_wp2_with fail
          go_ret
          exact ⟨_, rfl, hfin.out, hKe.out⟩
end
end Go.Proofs.YtjmkejkhpdhhbaaDoor
