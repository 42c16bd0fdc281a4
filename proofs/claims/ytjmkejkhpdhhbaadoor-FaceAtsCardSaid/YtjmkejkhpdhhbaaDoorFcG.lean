/- Chapter 11: all faces. -/
import Derived.Test.YtjmkejkhpdhhbaaDoorFcF
import Derived.Test.YtjmkejkhpdhhbaaDoorLwK
namespace Go.Proofs.YtjmkejkhpdhhbaaDoor
open Go Go.RowKit
set_option linter.unusedVariables false
set_option linter.unusedSimpArgs false
set_option maxRecDepth 100000

section
variable {E : Nat} {L : List (List Nat)}
theorem facesN_le (n : Nat) : (facesN L E n).length ≤ n := by
  unfold facesN
  rw [List.length_map]
  have := List.length_filter_le (least L E) (List.range n)
  simpa using this
theorem mem_facesN {n d : Nat} : d ∈ (facesN L E n).flatten ↔ ∃ m, m < n ∧ least L E m = true ∧ d ∈ orb L E m := by
  rw [List.mem_flatten]
  unfold facesN
  constructor
  · rintro ⟨l, hl, hd⟩
    obtain ⟨m, hm, rfl⟩ := List.mem_map.1 hl
    obtain ⟨h1, h2⟩ := List.mem_filter.1 hm
    exact ⟨m, List.mem_range.1 h1, h2, hd⟩
  · rintro ⟨m, h1, h2, h3⟩
    exact ⟨_, List.mem_map.2 ⟨m, List.mem_filter.2 ⟨List.mem_range.2 h1, h2⟩, rfl⟩, h3⟩
theorem seen_least (h : Good E L) {d : Nat} (hd : d ∈ (facesN L E d).flatten) : least L E d = false := by
  obtain ⟨m, h1, h2, h3⟩ := mem_facesN.1 hd
  have hm := (least_iff.1 h2).1
  cases hl : least L E d with
  | false => rfl
  | true =>
    have := (least_iff.1 hl).2 m (orb_symm h hm h3)
    omega
theorem orb_ne (d : Nat) : orb L E d ≠ [] := fun e => by have := orb_self (L := L) (E := E) d; rw [e] at this; cases this
theorem orb_least (h : Good E L) {d : Nat} (hd : Stands L d) : ∃ m, m ∈ orb L E d ∧ m ≤ d ∧ least L E m = true ∧ d ∈ orb L E m := by
  obtain ⟨m, hm, hle⟩ := least_ex (orb_ne (L := L) (E := E) d)
  refine ⟨m, hm, hle d (orb_self d), least_iff.2 ⟨orb_stands h hd hm, fun x hx => hle x (orb_trans h hd hm hx)⟩, orb_symm h hd hm⟩
theorem fresh_least (h : Good E L) {d : Nat} (hs : Stands L d) (hd : d ∉ (facesN L E d).flatten) : least L E d = true := by
  obtain ⟨m, hm, hle, hl, hb⟩ := orb_least h hs
  by_cases e : m = d
  · rw [← e]; exact hl
  · exact absurd (mem_facesN.2 ⟨m, by omega, hl, hb⟩) hd
theorem none_least {d : Nat} (hs : ¬ Stands L d) : least L E d = false := by
  unfold least; rw [decide_eq_false hs]; rfl
end
/-- Numbers without a sign. -/
def intsN (l : List Nat) : List Int := l.map fun (n : Nat) => (n : Int)
theorem mem_intsN {l : List Nat} {d : Nat} : ((d : Int) ∈ intsN l) ↔ d ∈ l := by
  unfold intsN
  rw [List.mem_map]
  exact ⟨fun ⟨x, h1, h2⟩ => by rw [← Int.ofNat.inj h2]; exact h1, fun h => ⟨d, h, rfl⟩⟩
theorem intsN_append (l m : List Nat) : intsN (l ++ m) = intsN l ++ intsN m := by simp [intsN]
/-- Darts that are marked. -/
def MarkAt (w : World) (sb E : Nat) (P : List Int) (wr : World) : Prop := Blk wr sb (seenV E P).toArray 4 ∧ w.heap.size ≤ sb ∧ Keeps (fun _ => False) w wr
section
variable {w wr w1 : World} {sb E d : Nat} {P : List Int}
theorem MarkAt.cell (h : MarkAt w sb E P wr) (hd : d < 2 * E) : wr.cell? ⟨sb, d, none⟩ = some (.bool (decide ((d : Int) ∈ P))) := by
  rw [h.1.cell, List.getElem?_toArray, seenV_get hd]
theorem MarkAt.push (h : MarkAt w sb E P wr) : MarkAt w sb E (P ++ [(d : Int)]) (wr.setCell ⟨sb, d, none⟩ (.bool true)) := by
  refine ⟨?_, h.2.1, h.2.2.setNew h.2.1 _ _⟩
  have := h.1.set d (.bool true)
  rwa [seenV_set] at this
theorem MarkAt.keep (h : MarkAt w sb E P wr) (hk : Keeps (fun _ => False) wr w1) : MarkAt w sb E P w1 := ⟨h.1.kept hk id, h.2.1, h.2.2.trans' hk⟩
theorem RsAt.mono {B C : Nat} {v : Value} {Ls : List (List Nat)} (h : RsAt w B v Ls) (hb : C ≤ B) : RsAt w C v Ls := by
  obtain ⟨us, h1, h2⟩ := h
  refine ⟨us, ⟨h1.1, h1.2.imp id fun ⟨g, cap, cur, q1, q2, q3⟩ => ⟨g, cap, cur, q1, Nat.le_trans hb q2, q3⟩⟩, fun i l hl => ?_⟩
  obtain ⟨u, hu, a, c, e, hr, hx⟩ := h2 i l hl
  exact ⟨u, hu, a, c, e, hr, fun b off q => ⟨(hx b off q).1, by have := (hx b off q).2.1; omega, (hx b off q).2.2⟩⟩
end
theorem MarkAt.kept {w wr w1 : World} {sb E : Nat} {P : List Int} {fp : Nat → Prop} (h : MarkAt w sb E P wr) (hk : Keeps fp wr w1) (hn : ¬ fp sb) (hl : ∀ k, fp k → w.heap.size ≤ k) : MarkAt w sb E P w1 := ⟨h.1.kept hk hn, h.2.1, h.2.2.thin hk hl⟩
/-- Lists told, in memory of their own. -/
def AllPost (Ls : List (List Nat)) (w : World) (e : Ending) (w' : World) : Prop := ∃ v, e = .returned v ∧ RsAt w' w.heap.size v Ls ∧ Keeps (fun _ => False) w w'
section
variable {w : World} {own : Nat → Prop} {p E : Nat} {L : List (List Nat)}
set_option maxHeartbeats 4000000 in
theorem fall (h : Tu w own p E L) (hg : Good E L) : Calls Tryd.prog 42 #[tptr p] w (AllPost (faces L E) w) := by
  have hE1 := h.e1
  have hE2 := h.e2
  obtain ⟨ib, hib, hb0, hb1, hb2⟩ := info_parts infoBo
  obtain ⟨i0, hi, hz0, hz1, hz2⟩ := info_parts infoS
  have hmkB : ∀ W, (Instr.makeSlice 77 (.int .i64 (2 * (E : Int))) (.int .i64 (2 * (E : Int)))).run Tryd.prog W = .ok (.slice (some ⟨W.heap.size, 0, none⟩) (2 * E) (2 * E)) (W.alloc (.cells (seenV E []).toArray 4)) := fun W => by
    have := run_make (P := Tryd.prog) W 77 4 ib _ Tryd.underlying77 hib hb0 .i64 .i64 (2 * (E : Int)) (2 * (E : Int)) (by omega) (Int.le_refl _) (by rw [hb2]; omega) (by omega)
    rw [this, hb1, show (2 * (E : Int)).toNat = 2 * E by omega, Nat.mul_one, show (Value.bool false).cells = #[.bool false] from rfl, zeros_B]
  have HS := Lib.hid (tsizes h)
  have HG := Lib.hid hg
  have HW : Hid (∀ W, Keeps (fun _ => False) w W → ∀ d, d < 2 * E → Stands L d → Calls Tryd.prog 39 #[tptr p, .int .i64 (d : Int)] W (LPost (orb L E d) 0 W)) := Lib.hid fun W hk d _ hs => fwalk (h.keep hk) hg hs
  have HWE : Hid (∀ W, Keeps (fun _ => False) w W → ∀ d, d < 2 * E → ¬ Stands L d → Calls Tryd.prog 39 #[tptr p, .int .i64 (d : Int)] W (RetPost (.tuple #[.slice none 0 0, errno 13]) W)) := Lib.hid fun W hk d hd hs => by
    have h0 := dErr_none hd hs
    have := fwalk_err (h.keep hk) hg d (by rw [h0]; decide)
    rw [h0, errVal_pos (by decide)] at this
    exact this
  clear h hg ib hib hb0 hb1 hb2
  unfold LPost tptr RetPost errno at *
  unfold AllPost
  simp only [errVal_zero] at HW
  go_enter Tryd.func42, Tryd.ntmps42
  go_wp2_with fail
  with_reducible refine HS.out.mono ?_
  rintro e w1 ⟨rfl, hk⟩
  have HM0 : Hid (MarkAt w w1.heap.size E (intsN (facesN L E 0).flatten) (w1.alloc (.cells (seenV E []).toArray 4))) := Lib.hid ⟨Blk.new _ _ _, hk.size, hk.alloc _⟩
  clear hk HS
  go_upto_region 3 with fail
  clear hmkB
  obtain ⟨B, HB, HWB, HST⟩ : ∃ B, Hid (w1.heap.size < B) ∧ Hid (w.heap.size ≤ B) ∧ Hid (MarkAt w w1.heap.size E (intsN (facesN L E 0).flatten) (w1.alloc (.cells (seenV E []).toArray 4)) ∧ RsAt (w1.alloc (.cells (seenV E []).toArray 4)) B (.slice none 0 0) (facesN L E 0) ∧ B ≤ (w1.alloc (.cells (seenV E []).toArray 4)).heap.size) :=
    ⟨_, Lib.hid (by rw [size_alloc]; exact Nat.lt_succ_self _), Lib.hid HM0.out.2.2.size, Lib.hid ⟨HM0.out, RsAt.nil _ _, Nat.le_refl _⟩⟩
  clear HM0
  generalize w1.alloc _ = w2 at *
  generalize hsb : w1.heap.size = sb at *
  clear hsb
  go_wp2_with fail
  go_loopw [6, 22] (fun o i wr => ∃ (n : Nat), n ≤ 2 * E ∧ i = .int .i64 (n : Int) ∧ Hid (MarkAt w sb E (intsN (facesN L E n).flatten) wr ∧ RsAt wr B o (facesN L E n) ∧ B ≤ wr.heap.size)) (fun _ i _ => 2 * E - (intOf i).toNat)
  case atStart => exact ⟨0, Nat.zero_le _, rfl, HST⟩
  case round =>
    obtain ⟨n, hn, rfl, HX⟩ := hrel
    clear HST
    by_cases hnE : n < 2 * E
    · have hsc := HX.out.1.cell hnE
      have hnI : (n : Int) < 2 * (E : Int) := by omega
      by_cases hin : n ∈ (facesN L E n).flatten
      · as_aux_lemma =>
        rw [decide_eq_true (mem_intsN.2 hin)] at hsc
        have hst : facesN L E (n + 1) = facesN L E n := by rw [facesN_step, if_neg (by rw [seen_least HG.out hin]; decide), List.append_nil]
        have HX2 : Hid (MarkAt w sb E (intsN (facesN L E (n + 1)).flatten) wr ∧ RsAt wr B u6 (facesN L E (n + 1)) ∧ B ≤ wr.heap.size) := by rw [hst]; exact HX
        clear hst hin HX
        go_wp2_with fail
        exact ⟨⟨n + 1, by omega, by simp, HX2⟩, by simp [intOf]; omega⟩
      · rw [decide_eq_false (fun q => hin (mem_intsN.1 q))] at hsc
        by_cases hs : Stands L n
        · as_aux_lemma =>
          have hst : facesN L E (n + 1) = facesN L E n ++ [orb L E n] := by rw [facesN_step, if_pos (fresh_least HG.out hs hin)]
          have HWK := Lib.hid (HW.out wr HX.out.1.2.2 n hnE hs)
          have HBD : Hid (∀ k, k < (orb L E n).length → (orb L E n).getD k 0 < 2 * E) := fun k hk => HG.out.toWF.bdS (orb_stands HG.out hs (getD_mem hk))
          have hFl : (facesN L E n).length ≤ n := facesN_le n
          have hRl : (orb L E n).length ≤ 2 * E := by rw [orb_length]; exact (per_le HG.out hs).1
          clear hin hs
          have HSTP := Lib.hid hst
          clear hst
          generalize orb L E n = R at *
          generalize facesN L E n = F at *
          clear HW HWE
          go_wp2_with fail
          with_reducible refine HWK.out.mono ?_
          rintro e w3 ⟨v3, rfl, hro, hk⟩
          have H3 : Hid (∃ a3 c3, v3 = .slice a3 R.length c3 ∧ MarkAt w sb E (intsN F.flatten) w3 ∧ RsAt w3 B u6 F ∧ RowAt w3 B u6 (.slice a3 R.length c3) R ∧ B ≤ w3.heap.size) := by
            obtain ⟨us, hown, hrows⟩ := HX.out.2.1
            have hfr : RowAt w3 B u6 v3 R := RowAt.fresh hown HX.out.2.2 hro
            obtain ⟨a3, c3, rfl, _, _⟩ := Rd.of_own hro
            exact Lib.hid ⟨a3, c3, rfl, HX.out.1.keep hk, HX.out.2.1.keep hk, hfr, Nat.le_trans HX.out.2.2 hk.size⟩
          clear hro hk HX HWK hsc
          obtain ⟨a3, c3, rfl, H3'⟩ := H3.out
          have H4 := Lib.hid H3'
          clear H3 H3'
          go_wp2_with fail
          go_loopw [39] (fun i wx => ∃ (k : Nat), k ≤ R.length ∧ i = .int .i64 (k : Int) ∧ Hid (MarkAt w sb E (intsN (F.flatten ++ R.take k)) wx ∧ Keeps (fun q => q = sb) w3 wx)) (fun i _ => R.length - (intOf i).toNat)
          case atStart => exact ⟨0, Nat.zero_le _, rfl, Lib.hid ⟨by rw [List.take_zero, List.append_nil]; exact H4.out.1, Keeps.refl _ _⟩⟩
          case round =>
            obtain ⟨k, hk, rfl, HY⟩ := hrel
            have HRX : Hid (RowAt wr B u6 (.slice a3 R.length c3) R) := H4.out.2.2.1.kept HY.out.2 fun b e => Or.inl (by rw [e]; exact HB.out)
            by_cases hkR : k < R.length
            · as_aux_lemma =>
              obtain ⟨a', c', e, hrd, _⟩ := HRX.out
              simp only [Value.slice.injEq, true_and] at e
              obtain ⟨rfl, rfl⟩ := e
              obtain ⟨b, off, rfl, hc⟩ := hrd.nat hkR
              have hbd := HBD.out k hkR
              have hf := HY.out.1.1.free (R.getD k 0)
              have hs2 := HY.out.1.cell hbd
              have HY2 : Hid (MarkAt w sb E (intsN (F.flatten ++ R.take (k + 1))) (wr.setCell ⟨sb, R.getD k 0, none⟩ (.bool true)) ∧ Keeps (fun q => q = sb) w3 (wr.setCell ⟨sb, R.getD k 0, none⟩ (.bool true))) := by
                refine Lib.hid ⟨?_, HY.out.2.setIn sb _ _ rfl⟩
                have := HY.out.1.push (d := R.getD k 0)
                rw [take_next hkR, ← List.append_assoc, intsN_append]
                exact this
              clear hrd HRX HY
              generalize R.getD k 0 = x at *
              have hxI : (x : Int) < 2 * (E : Int) := by omega
              go_wp2_with fail
              exact ⟨⟨k + 1, by omega, by simp, HY2⟩, by simp [intOf]; omega⟩
            · as_aux_lemma =>
              obtain rfl : k = R.length := by omega
              have hrs : RsAt wr B u6 F := H4.out.2.1.kept HY.out.2 fun b e => by rw [e]; exact HB.out
              obtain ⟨us, hown, hrows⟩ := hrs
              have hBw : B ≤ wr.heap.size := Nat.le_trans H4.out.2.2.2 HY.out.2.size
              have HRW := Lib.hid hrows
              have HOW := Lib.hid hown
              clear hrows H4
              go_wp2_with (first | (at_builtin; refine wpList_app1 rfl _ _ 30 rfl B 47 i0 (.slice none 0 0) 1 24 Tryd.underlying30 hi hz0 hz1 hz2 rfl (by decide) _ _ _ rfl hown _ 1 1 [.slice a3 R.length c3] 47 rfl rfl rfl ?c1 ?c2 ?c3 ?c4 ?_))
              case c1 => simp [Value.oneCell']
              case c2 => unfold maxLen; omega
              case c3 => omega
              case c4 => exact hBw
              intro v7 w7 ho hk7 hb7 _ _
              have HX2 : Hid (MarkAt w sb E (intsN (facesN L E (n + 1)).flatten) w7 ∧ RsAt w7 B v7 (facesN L E (n + 1)) ∧ B ≤ w7.heap.size) := by
                rw [HSTP.out]
                refine Lib.hid ⟨?_, RsAt.push HOW.out HRW.out HRX.out ho hk7 hb7, Nat.le_trans hBw hk7.size⟩
                rw [List.flatten_append, List.flatten_singleton]
                have h1 := HY.out.1
                rw [List.take_of_length_le (Nat.le_refl _)] at h1
                refine h1.kept hk7 (fun q => ?_) fun q e => ?_
                · have := (HOW.out.lt sb q).1
                  have := HB.out
                  omega
                · have := (HOW.out.lt q e).1
                  have := HWB.out
                  omega
              clear ho hk7 hb7 hown HY HRX HRW HOW
              go_wp2_with fail
              exact ⟨⟨n + 1, by omega, by simp, HX2⟩, by simp [intOf]; omega⟩
        · as_aux_lemma =>
          have hst : facesN L E (n + 1) = facesN L E n := by rw [facesN_step, if_neg (by rw [none_least hs]; decide), List.append_nil]
          have HE := Lib.hid (HWE.out wr HX.out.1.2.2 n hnE hs)
          clear hin hs
          go_wp2_with fail
          with_reducible refine HE.out.mono ?_
          rintro e w3 ⟨rfl, hk⟩
          have HX2 : Hid (MarkAt w sb E (intsN (facesN L E (n + 1)).flatten) w3 ∧ RsAt w3 B u6 (facesN L E (n + 1)) ∧ B ≤ w3.heap.size) := by
            rw [hst]
            exact Lib.hid ⟨HX.out.1.keep hk, HX.out.2.1.keep hk, Nat.le_trans HX.out.2.2 hk.size⟩
          clear hst HX hk HE hsc
          go_wp2_with fail
          exact ⟨⟨n + 1, by omega, by simp, HX2⟩, by simp [intOf]; omega⟩
    · obtain rfl : n = 2 * E := by omega
      have HF : Hid (RsAt wr w.heap.size u6 (faces L E) ∧ Keeps (fun _ => False) w wr) := Lib.hid ⟨HX.out.2.1.mono HWB.out, HX.out.1.2.2⟩
      have hlE : decide (2 * (E : Int) < 2 * (E : Int)) = false := by simp
      clear HX
      go_wp2_with fail
      go_ret
      exact ⟨_, rfl, HF.out⟩
end
end Go.Proofs.YtjmkejkhpdhhbaaDoor
