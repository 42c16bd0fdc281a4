/- Chapter 11: the darts round a face. Chapter 11: all faces. Chapter 11: into which face a corner looks. -/
import Derived.Deep.LoopGhost
import Derived.Test.YtdplphhlclhmfaaDoorKg
namespace Go.Proofs.YtdplphhlclhmfaaDoor
open Go Go.RowKit
set_option linter.unusedVariables false
set_option linter.unusedSimpArgs false
set_option maxRecDepth 100000

theorem orb_take {L : List (List Nat)} {E d k : Nat} (hk : k < per L E d) : (orb L E d).take (k + 1) = (orb L E d).take k ++ [itf L d k] := by
  rw [take_next (by rw [orb_length]; exact hk), orb_get hk]
section
variable {w : World} {own : Nat → Prop} {p E : Nat} {L : List (List Nat)}
set_option maxHeartbeats 2000000 in
theorem fwalk_err (h : Tu w own p E L) (hg : Good E L) (d : Int) (h0 : dErr E L d ≠ 0) : Calls Tryd.prog 81 #[tptr p, .int .i64 d] w (RetPost (.tuple #[.slice none 0 0, errVal (dErr E L d)]) w) := by
  have HN := Lib.hid (fnext h hg d)
  rw [if_neg h0] at HN
  have hne := errVal_pos h0
  rw [hne] at HN ⊢
  generalize dErr E L d = k at *
  unfold RetPost tptr at *
  clear h hg hne
  go_enter Tryd.func81, Tryd.ntmps81
  go_wp2_with fail
  with_reducible refine HN.out.mono ?_
  rintro e w1 ⟨rfl, hk⟩
  have HK := Lib.hid hk
  clear hk
  go_wp2_with fail
  go_ret2
  exact ⟨rfl, HK.out⟩
set_option maxHeartbeats 4000000 in
theorem fwalk (h : Tu w own p E L) (hg : Good E L) {d : Nat} (hd : Stands L d) : Calls Tryd.prog 81 #[tptr p, .int .i64 (d : Int)] w (LPost (orb L E d) 0 w) := by
  obtain ⟨i0', hi, hz0, hz1, hz2⟩ := info_parts infoI
  have hE2 := h.e2
  have hple := (per_le hg hd).1
  have hpback := (per_le hg hd).2
  have hp1 : 1 ≤ per L E d := Nat.succ_pos _
  have HN : Hid (∀ k W, Keeps (fun _ => False) w W → Calls Tryd.prog 105 #[tptr p, .int .i64 ((itf L d k : Nat) : Int)] W (RetPost (.tuple #[.int .i64 ((itf L d (k + 1) : Nat) : Int), .nilIface]) W)) := Lib.hid fun k W hk => by
    have hs := itf_stands hg hd k
    have := fnext (h.keep hk) hg ((itf L d k : Nat) : Int)
    rw [dErr_stands hg.toWF hs, if_pos rfl, Int.toNat_natCast, errVal_zero] at this
    exact this
  have HNE : Hid (∀ k, 1 ≤ k → k < per L E d → itf L d k ≠ d) := fun k h1 h2 => per_least h1 h2
  have HBD : Hid (∀ k, itf L d k < 2 * E) := fun k => hg.toWF.bdS (itf_stands hg hd k)
  have HT : Hid (∀ k, k < per L E d → (orb L E d).take (k + 1) = (orb L E d).take k ++ [itf L d k]) := fun k hk => orb_take hk
  have HRL : Hid ((orb L E d).length = per L E d) := orb_length L E d
  have h00 : itf L d 0 = d := rfl
  have hdE := HBD.out 0
  rw [h00] at hdE
  clear h hg hd
  unfold LPost tptr RetPost at *
  generalize orb L E d = R at *
  generalize per L E d = P at *
  obtain ⟨g, hg⟩ : ∃ g : Nat → Nat, ∀ k, itf L d k = g k := ⟨_, fun _ => rfl⟩
  simp only [hg] at HN HNE HBD HT h00 hpback
  clear hg
  have HN0 := Lib.hid (HN.out 0 w (Keeps.refl _ _))
  rw [h00, Nat.zero_add] at HN0
  have HT0 : Hid (R.take 1 = [d]) := by
    have := HT.out 0 (by omega)
    rw [h00] at this
    exact Lib.hid this
  have HGP := Lib.hid hpback
  clear h00 hpback
  rw [errVal_zero]
  go_enter Tryd.func81, Tryd.ntmps81
  go_wp2_with fail
  with_reducible refine HN0.out.mono ?_
  rintro e w1 ⟨rfl, hk⟩
  have hws := hk.size
  have HS0 : Hid ((w1.alloc (.cells #[.int .i64 (d : Int)] 3)).ownsRow w.heap.size 3 1 (.slice (some ⟨w1.heap.size, 0, none⟩) 1 1) 1 (nats (R.take 1)) ∧ Keeps (fun _ => False) w (w1.alloc (.cells #[.int .i64 (d : Int)] 3))) := by
    refine ⟨?_, hk.alloc _⟩
    rw [HT0.out]
    exact World.ownsRow_lit w1 #[.int .i64 (d : Int)] 1 hws (by decide) rfl
  clear hk HN0
  go_wp2_with fail
  go_loopg [6, 7, 8] (P - 1) (fun q x e o wr => ∃ k, k + q = P ∧ 1 ≤ k ∧ x = .int .i64 ((g k : Nat) : Int) ∧ e = .nilIface ∧ Hid (wr.ownsRow w.heap.size 3 1 o k (nats (R.take k)) ∧ Keeps (fun _ => False) w wr))
  case atStart => exact ⟨1, by omega, Nat.le_refl _, rfl, rfl, HS0⟩
  case round =>
    obtain ⟨k, hkq, hk1, rfl, rfl, HO⟩ := hrel
    clear HS0 hws
    by_cases hkP : k = P
    · have hge : ((g k : Nat) : Int) = (d : Int) := by rw [hkP, HGP.out]
      rw [hge]
      have hneb : (((d : Nat) : Int) != ((d : Nat) : Int)) = false := by simp
      clear hge
      go_wp2_with fail
      go_ret2
      refine ⟨_, rfl, ?_, HO.out.2⟩
      have h1 := HO.out.1
      rw [hkP, List.take_of_length_le (by rw [HRL.out]; exact Nat.le_refl _)] at h1
      rw [HRL.out]
      exact h1
    · have hne := HNE.out k hk1 (by omega)
      have hTN := HT.out k (by omega)
      have hNX := Lib.hid (HN.out k)
      have hgE := HBD.out k
      generalize hx : g k = x at *
      have hneb : (((x : Nat) : Int) != ((d : Nat) : Int)) = true := by rw [bne_iff_ne]; omega
      have hown := HO.out.1
      have hws := HO.out.2.size
      have HTN := Lib.hid hTN
      clear hTN hne hx
      go_wp2_with (first | (at_builtin; refine wpList_app1 rfl _ _ 23 rfl w.heap.size 3 i0' (.int .i64 0) 1 8 Tryd.underlying23 hi hz0 hz1 hz2 rfl (by decide) _ _ _ rfl hown _ 1 1 [.int .i64 ((x : Nat) : Int)] 3 rfl rfl rfl ?c1 ?c2 ?c3 ?c4 ?_))
      case c1 => simp [Value.oneCell']
      case c2 => unfold maxLen; omega
      case c3 => omega
      case c4 => exact hws
      intro v1 w1 ho hk1' _ _ _
      have HO1 : Hid (w1.ownsRow w.heap.size 3 1 v1 (k + 1) (nats (R.take (k + 1))) ∧ Keeps (fun _ => False) w w1) := by
        refine ⟨?_, HO.out.2.trans hk1' fun i hi e => by have := (HO.out.1.lt i e).1; omega⟩
        rw [HTN.out, nats_append]
        exact ho
      clear ho hk1' hown
      go_wp2_with fail
      with_reducible refine (hNX.out _ HO1.out.2).mono ?_
      rintro e w2 ⟨rfl, hk2⟩
      have HO2 : Hid (w2.ownsRow w.heap.size 3 1 v1 (k + 1) (nats (R.take (k + 1))) ∧ Keeps (fun _ => False) w w2) := ⟨ownsRow_kept HO1.out.1 hk2 fun _ _ q => q, HO1.out.2.trans' hk2⟩
      clear hk2
      go_wp2_with fail
      go_roundg (gk - 1)
      case measure => omega
      case rel => exact ⟨k + 1, by omega, by omega, rfl, rfl, HO2⟩
end
section
variable {E : Nat} {L : List (List Nat)}
theorem facesN_le (n : Nat) : (facesN L E n).length ≤ n := by
  unfold facesN
  rw [List.length_map]
  have := List.length_filter_le (least L E) (List.range n)
  simpa using this
theorem mem_facesN {n d : Nat} : d ∈ (facesN L E n).flatten ↔ ∃ m, m < n ∧ least L E m = true ∧ d ∈ orb L E m := by
  rw [List.mem_flatten]
  unfold facesN
  constructor
  · rintro ⟨l, hl, hd⟩
    obtain ⟨m, hm, rfl⟩ := List.mem_map.1 hl
    obtain ⟨h1, h2⟩ := List.mem_filter.1 hm
    exact ⟨m, List.mem_range.1 h1, h2, hd⟩
  · rintro ⟨m, h1, h2, h3⟩
    exact ⟨_, List.mem_map.2 ⟨m, List.mem_filter.2 ⟨List.mem_range.2 h1, h2⟩, rfl⟩, h3⟩
theorem seen_least (h : Good E L) {d : Nat} (hd : d ∈ (facesN L E d).flatten) : least L E d = false := by
  obtain ⟨m, h1, h2, h3⟩ := mem_facesN.1 hd
  have hm := (least_iff.1 h2).1
  cases hl : least L E d with
  | false => rfl
  | true =>
    have := (least_iff.1 hl).2 m (orb_symm h hm h3)
    omega
theorem orb_ne (d : Nat) : orb L E d ≠ [] := fun e => by have := orb_self (L := L) (E := E) d; rw [e] at this; cases this
theorem orb_least (h : Good E L) {d : Nat} (hd : Stands L d) : ∃ m, m ∈ orb L E d ∧ m ≤ d ∧ least L E m = true ∧ d ∈ orb L E m := by
  obtain ⟨m, hm, hle⟩ := least_ex (orb_ne (L := L) (E := E) d)
  refine ⟨m, hm, hle d (orb_self d), least_iff.2 ⟨orb_stands h hd hm, fun x hx => hle x (orb_trans h hd hm hx)⟩, orb_symm h hd hm⟩
theorem fresh_least (h : Good E L) {d : Nat} (hs : Stands L d) (hd : d ∉ (facesN L E d).flatten) : least L E d = true := by
  obtain ⟨m, hm, hle, hl, hb⟩ := orb_least h hs
  by_cases e : m = d
  · rw [← e]; exact hl
  · exact absurd (mem_facesN.2 ⟨m, by omega, hl, hb⟩) hd
theorem none_least {d : Nat} (hs : ¬ Stands L d) : least L E d = false := by
  unfold least; rw [decide_eq_false hs]; rfl
end
/-- Numbers without a sign. -/
def intsN (l : List Nat) : List Int := l.map fun (n : Nat) => (n : Int)
theorem mem_intsN {l : List Nat} {d : Nat} : ((d : Int) ∈ intsN l) ↔ d ∈ l := by
  unfold intsN
  rw [List.mem_map]
  exact ⟨fun ⟨x, h1, h2⟩ => by rw [← Int.ofNat.inj h2]; exact h1, fun h => ⟨d, h, rfl⟩⟩
theorem intsN_append (l m : List Nat) : intsN (l ++ m) = intsN l ++ intsN m := by simp [intsN]
/-- Darts that are marked. -/
def MarkAt (w : World) (sb E : Nat) (P : List Int) (wr : World) : Prop := Blk wr sb (seenV E P).toArray 4 ∧ w.heap.size ≤ sb ∧ Keeps (fun _ => False) w wr
section
variable {w wr w1 : World} {sb E d : Nat} {P : List Int}
theorem MarkAt.cell (h : MarkAt w sb E P wr) (hd : d < 2 * E) : wr.cell? ⟨sb, d, none⟩ = some (.bool (decide ((d : Int) ∈ P))) := by
  rw [h.1.cell, List.getElem?_toArray, seenV_get hd]
theorem MarkAt.push (h : MarkAt w sb E P wr) : MarkAt w sb E (P ++ [(d : Int)]) (wr.setCell ⟨sb, d, none⟩ (.bool true)) := by
  refine ⟨?_, h.2.1, h.2.2.setNew h.2.1 _ _⟩
  have := h.1.set d (.bool true)
  rwa [seenV_set] at this
theorem MarkAt.keep (h : MarkAt w sb E P wr) (hk : Keeps (fun _ => False) wr w1) : MarkAt w sb E P w1 := ⟨h.1.kept hk id, h.2.1, h.2.2.trans' hk⟩
theorem RsAt.mono {B C : Nat} {v : Value} {Ls : List (List Nat)} (h : RsAt w B v Ls) (hb : C ≤ B) : RsAt w C v Ls := by
  obtain ⟨us, h1, h2⟩ := h
  refine ⟨us, ⟨h1.1, h1.2.imp id fun ⟨g, cap, cur, q1, q2, q3⟩ => ⟨g, cap, cur, q1, Nat.le_trans hb q2, q3⟩⟩, fun i l hl => ?_⟩
  obtain ⟨u, hu, a, c, e, hr, hx⟩ := h2 i l hl
  exact ⟨u, hu, a, c, e, hr, fun b off q => ⟨(hx b off q).1, by have := (hx b off q).2.1; omega, (hx b off q).2.2⟩⟩
end
theorem MarkAt.kept {w wr w1 : World} {sb E : Nat} {P : List Int} {fp : Nat → Prop} (h : MarkAt w sb E P wr) (hk : Keeps fp wr w1) (hn : ¬ fp sb) (hl : ∀ k, fp k → w.heap.size ≤ k) : MarkAt w sb E P w1 := ⟨h.1.kept hk hn, h.2.1, h.2.2.thin hk hl⟩
/-- Lists told, in memory of their own. -/
def AllPost (Ls : List (List Nat)) (w : World) (e : Ending) (w' : World) : Prop := ∃ v, e = .returned v ∧ RsAt w' w.heap.size v Ls ∧ Keeps (fun _ => False) w w'
section
variable {w : World} {own : Nat → Prop} {p E : Nat} {L : List (List Nat)}
set_option maxHeartbeats 4000000 in
theorem fall (h : Tu w own p E L) (hg : Good E L) : Calls Tryd.prog 74 #[tptr p] w (AllPost (faces L E) w) := by
  have hE1 := h.e1
  have hE2 := h.e2
  obtain ⟨ib, hib, hb0, hb1, hb2⟩ := info_parts infoBo
  obtain ⟨i0, hi, hz0, hz1, hz2⟩ := info_parts infoS
  have hmkB : ∀ W, (Instr.makeSlice 161 (.int .i64 (2 * (E : Int))) (.int .i64 (2 * (E : Int)))).run Tryd.prog W = .ok (.slice (some ⟨W.heap.size, 0, none⟩) (2 * E) (2 * E)) (W.alloc (.cells (seenV E []).toArray 4)) := fun W => by
    have := run_make (P := Tryd.prog) W 161 4 ib _ Tryd.underlying161 hib hb0 .i64 .i64 (2 * (E : Int)) (2 * (E : Int)) (by omega) (Int.le_refl _) (by rw [hb2]; omega) (by omega)
    rw [this, hb1, show (2 * (E : Int)).toNat = 2 * E by omega, Nat.mul_one, show (Value.bool false).cells = #[.bool false] from rfl, zeros_B]
  have HS := Lib.hid (tsizes h)
  have HG := Lib.hid hg
  have HW : Hid (∀ W, Keeps (fun _ => False) w W → ∀ d, d < 2 * E → Stands L d → Calls Tryd.prog 81 #[tptr p, .int .i64 (d : Int)] W (LPost (orb L E d) 0 W)) := Lib.hid fun W hk d _ hs => fwalk (h.keep hk) hg hs
  have HWE : Hid (∀ W, Keeps (fun _ => False) w W → ∀ d, d < 2 * E → ¬ Stands L d → Calls Tryd.prog 81 #[tptr p, .int .i64 (d : Int)] W (RetPost (.tuple #[.slice none 0 0, errno 13]) W)) := Lib.hid fun W hk d hd hs => by
    have h0 := dErr_none hd hs
    have := fwalk_err (h.keep hk) hg d (by rw [h0]; decide)
    rw [h0, errVal_pos (by decide)] at this
    exact this
  clear h hg ib hib hb0 hb1 hb2
  unfold LPost tptr RetPost errno at *
  unfold AllPost
  simp only [errVal_zero] at HW
  go_enter Tryd.func74, Tryd.ntmps74
  go_wp2_with fail
  with_reducible refine HS.out.mono ?_
  rintro e w1 ⟨rfl, hk⟩
  have HM0 : Hid (MarkAt w w1.heap.size E (intsN (facesN L E 0).flatten) (w1.alloc (.cells (seenV E []).toArray 4))) := Lib.hid ⟨Blk.new _ _ _, hk.size, hk.alloc _⟩
  clear hk HS
  go_upto_region 3 with fail
  clear hmkB
  obtain ⟨B, HB, HWB, HST⟩ : ∃ B, Hid (w1.heap.size < B) ∧ Hid (w.heap.size ≤ B) ∧ Hid (MarkAt w w1.heap.size E (intsN (facesN L E 0).flatten) (w1.alloc (.cells (seenV E []).toArray 4)) ∧ RsAt (w1.alloc (.cells (seenV E []).toArray 4)) B (.slice none 0 0) (facesN L E 0) ∧ B ≤ (w1.alloc (.cells (seenV E []).toArray 4)).heap.size) :=
    ⟨_, Lib.hid (by rw [size_alloc]; exact Nat.lt_succ_self _), Lib.hid HM0.out.2.2.size, Lib.hid ⟨HM0.out, RsAt.nil _ _, Nat.le_refl _⟩⟩
  clear HM0
  generalize w1.alloc _ = w2 at *
  generalize hsb : w1.heap.size = sb at *
  clear hsb
  go_wp2_with fail
  go_loopw [6, 22] (fun o i wr => ∃ (n : Nat), n ≤ 2 * E ∧ i = .int .i64 (n : Int) ∧ Hid (MarkAt w sb E (intsN (facesN L E n).flatten) wr ∧ RsAt wr B o (facesN L E n) ∧ B ≤ wr.heap.size)) (fun _ i _ => 2 * E - (intOf i).toNat)
  case atStart => exact ⟨0, Nat.zero_le _, rfl, HST⟩
  case round =>
    obtain ⟨n, hn, rfl, HX⟩ := hrel
    clear HST
    by_cases hnE : n < 2 * E
    · have hsc := HX.out.1.cell hnE
      have hnI : (n : Int) < 2 * (E : Int) := by omega
      by_cases hin : n ∈ (facesN L E n).flatten
      · as_aux_lemma =>
        rw [decide_eq_true (mem_intsN.2 hin)] at hsc
        have hst : facesN L E (n + 1) = facesN L E n := by rw [facesN_step, if_neg (by rw [seen_least HG.out hin]; decide), List.append_nil]
        have HX2 : Hid (MarkAt w sb E (intsN (facesN L E (n + 1)).flatten) wr ∧ RsAt wr B u6 (facesN L E (n + 1)) ∧ B ≤ wr.heap.size) := by rw [hst]; exact HX
        clear hst hin HX
        go_wp2_with fail
        exact ⟨⟨n + 1, by omega, by simp, HX2⟩, by simp [intOf]; omega⟩
      · rw [decide_eq_false (fun q => hin (mem_intsN.1 q))] at hsc
        by_cases hs : Stands L n
        · as_aux_lemma =>
          have hst : facesN L E (n + 1) = facesN L E n ++ [orb L E n] := by rw [facesN_step, if_pos (fresh_least HG.out hs hin)]
          have HWK := Lib.hid (HW.out wr HX.out.1.2.2 n hnE hs)
          have HBD : Hid (∀ k, k < (orb L E n).length → (orb L E n).getD k 0 < 2 * E) := fun k hk => HG.out.toWF.bdS (orb_stands HG.out hs (getD_mem hk))
          have hFl : (facesN L E n).length ≤ n := facesN_le n
          have hRl : (orb L E n).length ≤ 2 * E := by rw [orb_length]; exact (per_le HG.out hs).1
          clear hin hs
          have HSTP := Lib.hid hst
          clear hst
          generalize orb L E n = R at *
          generalize facesN L E n = F at *
          clear HW HWE
          go_wp2_with fail
          with_reducible refine HWK.out.mono ?_
          rintro e w3 ⟨v3, rfl, hro, hk⟩
          have H3 : Hid (∃ a3 c3, v3 = .slice a3 R.length c3 ∧ MarkAt w sb E (intsN F.flatten) w3 ∧ RsAt w3 B u6 F ∧ RowAt w3 B u6 (.slice a3 R.length c3) R ∧ B ≤ w3.heap.size) := by
            obtain ⟨us, hown, hrows⟩ := HX.out.2.1
            have hfr : RowAt w3 B u6 v3 R := RowAt.fresh hown HX.out.2.2 hro
            obtain ⟨a3, c3, rfl, _, _⟩ := Rd.of_own hro
            exact Lib.hid ⟨a3, c3, rfl, HX.out.1.keep hk, HX.out.2.1.keep hk, hfr, Nat.le_trans HX.out.2.2 hk.size⟩
          clear hro hk HX HWK hsc
          obtain ⟨a3, c3, rfl, H3'⟩ := H3.out
          have H4 := Lib.hid H3'
          clear H3 H3'
          go_wp2_with fail
          go_loopw [39] (fun i wx => ∃ (k : Nat), k ≤ R.length ∧ i = .int .i64 (k : Int) ∧ Hid (MarkAt w sb E (intsN (F.flatten ++ R.take k)) wx ∧ Keeps (fun q => q = sb) w3 wx)) (fun i _ => R.length - (intOf i).toNat)
          case atStart => exact ⟨0, Nat.zero_le _, rfl, Lib.hid ⟨by rw [List.take_zero, List.append_nil]; exact H4.out.1, Keeps.refl _ _⟩⟩
          case round =>
            obtain ⟨k, hk, rfl, HY⟩ := hrel
            have HRX : Hid (RowAt wr B u6 (.slice a3 R.length c3) R) := H4.out.2.2.1.kept HY.out.2 fun b e => Or.inl (by rw [e]; exact HB.out)
            by_cases hkR : k < R.length
            · as_aux_lemma =>
              obtain ⟨a', c', e, hrd, _⟩ := HRX.out
              simp only [Value.slice.injEq, true_and] at e
              obtain ⟨rfl, rfl⟩ := e
              obtain ⟨b, off, rfl, hc⟩ := hrd.nat hkR
              have hbd := HBD.out k hkR
              have hf := HY.out.1.1.free (R.getD k 0)
              have hs2 := HY.out.1.cell hbd
              have HY2 : Hid (MarkAt w sb E (intsN (F.flatten ++ R.take (k + 1))) (wr.setCell ⟨sb, R.getD k 0, none⟩ (.bool true)) ∧ Keeps (fun q => q = sb) w3 (wr.setCell ⟨sb, R.getD k 0, none⟩ (.bool true))) := by
                refine Lib.hid ⟨?_, HY.out.2.setIn sb _ _ rfl⟩
                have := HY.out.1.push (d := R.getD k 0)
                rw [take_next hkR, ← List.append_assoc, intsN_append]
                exact this
              clear hrd HRX HY
              generalize R.getD k 0 = x at *
              have hxI : (x : Int) < 2 * (E : Int) := by omega
              go_wp2_with fail
              exact ⟨⟨k + 1, by omega, by simp, HY2⟩, by simp [intOf]; omega⟩
            · as_aux_lemma =>
              obtain rfl : k = R.length := by omega
              have hrs : RsAt wr B u6 F := H4.out.2.1.kept HY.out.2 fun b e => by rw [e]; exact HB.out
              obtain ⟨us, hown, hrows⟩ := hrs
              have hBw : B ≤ wr.heap.size := Nat.le_trans H4.out.2.2.2 HY.out.2.size
              have HRW := Lib.hid hrows
              have HOW := Lib.hid hown
              clear hrows H4
              go_wp2_with (first | (at_builtin; refine wpList_app1 rfl _ _ 25 rfl B 23 i0 (.slice none 0 0) 1 24 Tryd.underlying25 hi hz0 hz1 hz2 rfl (by decide) _ _ _ rfl hown _ 1 1 [.slice a3 R.length c3] 23 rfl rfl rfl ?c1 ?c2 ?c3 ?c4 ?_))
              case c1 => simp [Value.oneCell']
              case c2 => unfold maxLen; omega
              case c3 => omega
              case c4 => exact hBw
              intro v7 w7 ho hk7 hb7 _ _
              have HX2 : Hid (MarkAt w sb E (intsN (facesN L E (n + 1)).flatten) w7 ∧ RsAt w7 B v7 (facesN L E (n + 1)) ∧ B ≤ w7.heap.size) := by
                rw [HSTP.out]
                refine Lib.hid ⟨?_, RsAt.push HOW.out HRW.out HRX.out ho hk7 hb7, Nat.le_trans hBw hk7.size⟩
                rw [List.flatten_append, List.flatten_singleton]
                have h1 := HY.out.1
                rw [List.take_of_length_le (Nat.le_refl _)] at h1
                refine h1.kept hk7 (fun q => ?_) fun q e => ?_
                · have := (HOW.out.lt sb q).1
                  have := HB.out
                  omega
                · have := (HOW.out.lt q e).1
                  have := HWB.out
                  omega
              clear ho hk7 hb7 hown HY HRX HRW HOW
              go_wp2_with fail
              exact ⟨⟨n + 1, by omega, by simp, HX2⟩, by simp [intOf]; omega⟩
        · as_aux_lemma =>
          have hst : facesN L E (n + 1) = facesN L E n := by rw [facesN_step, if_neg (by rw [none_least hs]; decide), List.append_nil]
          have HE := Lib.hid (HWE.out wr HX.out.1.2.2 n hnE hs)
          clear hin hs
          go_wp2_with fail
          with_reducible refine HE.out.mono ?_
          rintro e w3 ⟨rfl, hk⟩
          have HX2 : Hid (MarkAt w sb E (intsN (facesN L E (n + 1)).flatten) w3 ∧ RsAt w3 B u6 (facesN L E (n + 1)) ∧ B ≤ w3.heap.size) := by
            rw [hst]
            exact Lib.hid ⟨HX.out.1.keep hk, HX.out.2.1.keep hk, Nat.le_trans HX.out.2.2 hk.size⟩
          clear hst HX hk HE hsc
          go_wp2_with fail
          exact ⟨⟨n + 1, by omega, by simp, HX2⟩, by simp [intOf]; omega⟩
    · obtain rfl : n = 2 * E := by omega
      have HF : Hid (RsAt wr w.heap.size u6 (faces L E) ∧ Keeps (fun _ => False) w wr) := Lib.hid ⟨HX.out.2.1.mono HWB.out, HX.out.1.2.2⟩
      have hlE : decide (2 * (E : Int) < 2 * (E : Int)) = false := by simp
      clear HX
      go_wp2_with fail
      go_ret
      exact ⟨_, rfl, HF.out⟩
end
def IdxPost (R : List Nat) (y : Nat) (w : World) (e : Ending) (w' : World) : Prop := ∃ r : Int, e = .returned (.int .i64 r) ∧ decide (r ≥ 0) = decide (y ∈ R) ∧ Keeps (fun _ => False) w w'
section
variable {R : List Nat} {w : World}
theorem sindex (a : Option Addr) (c : Nat) (hr : Rd w a (nats R)) (hl : R.length ≤ 4000000) (y : Nat) :
    Calls Tryd.prog 89 #[.slice a R.length c, .int .i64 (y : Int)] w (IdxPost R y w) := by
  have HR := Lib.hid hr
  clear hr
  unfold IdxPost
  go_enter Tryd.func89, Tryd.ntmps89
  go_wp2_with fail
  go_loopw [8] (fun i wr => ∃ f : Nat, f ≤ R.length ∧ i = .int .i64 (f : Int) ∧ Hid (Keeps (fun _ => False) w wr ∧ y ∉ R.take f)) (fun i _ => R.length - (intOf i).toNat)
  case atStart => exact ⟨0, Nat.zero_le _, rfl, Lib.hid ⟨Keeps.refl _ _, by simp⟩⟩
  case round =>
    obtain ⟨f, hf, rfl, hrel⟩ := hrel
    by_cases hlt : f < R.length
    · obtain ⟨b, off, rfl, e1⟩ := (HR.out.keep hrel.out.1).nat hlt
      have HT := Lib.hid (take_next hlt)
      have hm := Lib.hid (getD_mem hlt)
      generalize R.getD f 0 = x at *
      by_cases hq : y = x
      · subst hq
        have hb : ((y : Int) == (y : Int)) = true := by simp
        have HM : Hid (decide ((f : Int) ≥ 0) = decide (y ∈ R)) := Lib.hid (by rw [decide_eq_true hm.out]; simp)
        have HK := Lib.hid hrel.out.1
        clear hrel HT
        go_wp2_with fail
        go_ret
        exact ⟨_, rfl, HM.out, HK.out⟩
      · have hb : ((y : Int) == (x : Int)) = false := by rw [beq_eq_false_iff_ne]; omega
        have HK : Hid (Keeps (fun _ => False) w wr ∧ y ∉ R.take (f + 1)) := Lib.hid ⟨hrel.out.1, by
          rw [HT.out, List.mem_append]
          rintro (q | q)
          · exact hrel.out.2 q
          · exact hq (List.mem_singleton.1 q)⟩
        clear hrel HT
        go_wp2_with fail
        refine ⟨⟨f + 1, hlt, by go_num, HK⟩, by simp [intOf]; omega⟩
    · obtain rfl : f = R.length := by omega
      have HM : Hid (decide ((-1 : Int) ≥ 0) = decide (y ∈ R)) := Lib.hid (by have := hrel.out.2; rw [List.take_length] at this; rw [decide_eq_false this]; decide)
      have HK := Lib.hid hrel.out.1
      clear hrel
      go_wp2_with fail
      go_ret
      exact ⟨_, rfl, HM.out, HK.out⟩
theorem scontains (a : Option Addr) (c : Nat) (hr : Rd w a (nats R)) (hl : R.length ≤ 4000000) (y : Nat) :
    Calls Tryd.prog 57 #[.slice a R.length c, .int .i64 (y : Int)] w (RetPost (.bool (decide (y ∈ R))) w) := by
  have hi := Lib.hid (sindex a c hr hl y)
  clear hr
  unfold RetPost
  unfold IdxPost at hi
  go_enter Tryd.func57, Tryd.ntmps57
  go_wp2_with fail
  with_reducible refine hi.out.mono ?_
  rintro e w2 ⟨r, rfl, hr, hk⟩
  have HK := Lib.hid (And.intro hr hk)
  clear hr hk
  go_wp2_with fail
  go_ret
  exact ⟨by rw [← HK.out.1]; rfl, HK.out.2⟩
end
section
variable {w : World} {own : Nat → Prop} {p E : Nat} {L : List (List Nat)}
set_option maxHeartbeats 2000000 in
theorem fat (h : Tu w own p E L) (hg : Good E L) (a b : Int) : Calls Tryd.prog 80 #[tptr p, cval a b] w (RetPost (.tuple #[.int .i64 (if chkErr L a b = 0 then atC L (a, b) else 0), errVal (chkErr L a b)]) w) := by
  have hK0 : Keeps (fun _ => False) w (w.alloc (.cells #[.int .i64 a, .int .i64 b] 51)) := (Keeps.refl _ _).alloc _
  have hB0 : Blk (w.alloc (.cells #[.int .i64 a, .int .i64 b] 51)) w.heap.size #[.int .i64 a, .int .i64 b] 51 := Blk.new _ _ _
  have HK0 := Lib.hid hK0
  have HB0 := Lib.hid hB0
  have HC := Lib.hid (tcheck (h.keep hK0) a b)
  obtain ⟨c0, c1, _, _, _⟩ := hB0.cells
  by_cases h0 : chkErr L a b = 0
  · rw [h0, if_pos rfl, errVal_zero]
    rw [h0, errVal_zero] at HC
    by_cases hb : b = -1
    · subst hb
      have he : atC L (a, -1) = -1 := if_pos rfl
      rw [he]
      unfold RetPost tptr cval at *
      clear h hg h0
      generalize hW : w.alloc (.cells #[.int .i64 a, .int .i64 (-1)] 51) = w0 at *
      go_enter Tryd.func80, Tryd.ntmps80
      go_upto_region 1 with fail
      clear hW
      go_wp2_with fail
      with_reducible refine HC.out.mono ?_
      rintro e w1 ⟨rfl, hk⟩
      have d1 := hk.cellF c1
      have HK := Lib.hid (HK0.out.trans' hk)
      clear hk
      go_wp2_with fail
      go_ret2
      exact ⟨rfl, HK.out⟩
    · have hex : ∃ m : Nat, b = m ∧ Stands L m := by
        obtain ⟨n, _, l, hl, q | ⟨m, hm, hml⟩⟩ := chk_ok h0
        · exact absurd q.1 hb
        · exact ⟨m, hm, stands_at hl hml⟩
      obtain ⟨m, rfl, hs⟩ := hex
      rw [atC_nat]
      have HN := Lib.hid (fun W (hk : Keeps (fun _ => False) w W) => tnext (h.keep hk) ((m : Nat) : Int))
      rw [dErr_stands hg.toWF hs, if_pos rfl, Int.toNat_natCast, errVal_zero] at HN
      have hne : ((m : Int) == -1) = false := by rw [beq_eq_false_iff_ne]; omega
      unfold RetPost tptr cval at *
      generalize nxt L m = z at *
      clear h hg h0 hb hs
      generalize hW : w.alloc (.cells #[.int .i64 a, .int .i64 (m : Int)] 51) = w0 at *
      go_enter Tryd.func80, Tryd.ntmps80
      go_upto_region 1 with fail
      clear hW
      go_wp2_with fail
      with_reducible refine HC.out.mono ?_
      rintro e w1 ⟨rfl, hk⟩
      have d1 := hk.cellF c1
      have HK := Lib.hid (HK0.out.trans' hk)
      clear hk
      go_wp2_with fail
      with_reducible refine (HN.out _ HK.out).mono ?_
      rintro e w2 ⟨rfl, hk⟩
      have HK2 := Lib.hid (HK.out.trans' hk)
      clear hk
      go_wp2_with fail
      go_ret2
      exact ⟨rfl, HK2.out⟩
  · rw [if_neg h0]
    have hne := errVal_pos h0
    rw [hne] at HC ⊢
    generalize chkErr L a b = k at *
    unfold RetPost tptr cval at *
    clear h hg hne
    generalize hW : w.alloc (.cells #[.int .i64 a, .int .i64 b] 51) = w0 at *
    go_enter Tryd.func80, Tryd.ntmps80
    go_upto_region 1 with fail
    clear hW
    go_wp2_with fail
    with_reducible refine HC.out.mono ?_
    rintro e w1 ⟨rfl, hk⟩
    have HK := Lib.hid (HK0.out.trans' hk)
    clear hk
    go_wp2_with fail
    go_ret2
    exact ⟨rfl, HK.out⟩
/-- What Same answers for an error. -/
def sameErr (L : List (List Nat)) (a b : Int × Int) : Nat := if chkErr L a.1 a.2 ≠ 0 then chkErr L a.1 a.2 else chkErr L b.1 b.2
theorem chk_dart {L : List (List Nat)} {a b : Int} (h0 : chkErr L a b = 0) (hb : b ≠ -1) : ∃ m : Nat, b = m ∧ Stands L m := by
  obtain ⟨n, _, l, hl, q | ⟨m, hm, hml⟩⟩ := chk_ok h0
  · exact absurd q.1 hb
  · exact ⟨m, hm, stands_at hl hml⟩
set_option maxHeartbeats 4000000 in
theorem fsame (h : Tu w own p E L) (hg : Good E L) (a b : Int × Int) : Calls Tryd.prog 45 #[tptr p, cval a.1 a.2, cval b.1 b.2] w (RetPost (.tuple #[.bool (decide (sameErr L a b = 0 ∧ sameC L E a b)), errVal (sameErr L a b)]) w) := by
  obtain ⟨a1, a2⟩ := a
  obtain ⟨b1, b2⟩ := b
  have hE2 := h.e2
  generalize hW : (w.alloc (.cells #[.int .i64 a1, .int .i64 a2] 51)).alloc (.cells #[.int .i64 b1, .int .i64 b2] 51) = w0
  have hK0 : Keeps (fun _ => False) w w0 := by rw [← hW]; exact ((Keeps.refl _ _).alloc _).alloc _
  have hBA : Blk w0 w.heap.size #[.int .i64 a1, .int .i64 a2] 51 := by rw [← hW]; exact (Blk.new _ _ _).alloc _
  have hBB : Blk w0 (w.heap.size + 1) #[.int .i64 b1, .int .i64 b2] 51 := by rw [← hW]; exact Blk.newAt _ _ _ (by simp)
  have HK0 := Lib.hid hK0
  have HBA := Lib.hid hBA
  have HBB := Lib.hid hBB
  have HA := Lib.hid (fun W (hk : Keeps (fun _ => False) w0 W) => fat ((h.keep hK0).keep hk) hg a1 a2)
  have HB := Lib.hid (fun W (hk : Keeps (fun _ => False) w0 W) => fat ((h.keep hK0).keep hk) hg b1 b2)
  obtain ⟨c0, c1, _, _, _⟩ := hBA.cells
  obtain ⟨d0, d1, _, _, _⟩ := hBB.cells
  simp only [cval] at HA HB ⊢
  by_cases h1 : chkErr L a1 a2 = 0
  · rw [h1, if_pos rfl, errVal_zero] at HA
    have hse : sameErr L (a1, a2) (b1, b2) = chkErr L b1 b2 := by unfold sameErr; rw [if_neg (by simpa using h1)]
    rw [hse]
    by_cases h2 : chkErr L b1 b2 = 0
    · rw [h2, if_pos rfl, errVal_zero] at HB
      rw [h2, errVal_zero]
      have hAN : atC L (a1, a2) = -1 ↔ a2 = -1 := by
        unfold atC; simp only
        by_cases e : a2 = -1
        · simp [e]
        · rw [if_neg e]; constructor
          · intro q; omega
          · intro q; exact absurd q e
      have hBN : atC L (b1, b2) = -1 ↔ b2 = -1 := by
        unfold atC; simp only
        by_cases e : b2 = -1
        · simp [e]
        · rw [if_neg e]; constructor
          · intro q; omega
          · intro q; exact absurd q e
      by_cases hn : a2 = -1 ∨ b2 = -1
      · have hsc : sameC L E (a1, a2) (b1, b2) ↔ a1 = b1 ∧ a2 = b2 := by
          unfold sameC
          rw [if_pos (by rw [hAN, hBN]; exact hn)]
          simp
        have hs : (decide ((0 : Nat) = 0 ∧ sameC L E (a1, a2) (b1, b2)) = true) ↔ a1 = b1 ∧ a2 = b2 := by
          rw [decide_eq_true_iff, hsc]; simp
        have HR := Lib.hid hs
        clear hs hsc
        generalize decide ((0 : Nat) = 0 ∧ sameC L E (a1, a2) (b1, b2)) = r at *
        have hx : (atC L (a1, a2) == -1) = decide (a2 = -1) := by rw [Bool.eq_iff_iff]; simp [hAN]
        have hy : (atC L (b1, b2) == -1) = decide (b2 = -1) := by rw [Bool.eq_iff_iff]; simp [hBN]
        generalize atC L (a1, a2) = xa at *
        generalize atC L (b1, b2) = xb at *
        unfold RetPost tptr at *
        clear h hg h1 h2 hse hAN hBN
        go_enter Tryd.func45, Tryd.ntmps45
        go_upto_region 1 with fail
        clear hW
        go_wp2_with fail
        with_reducible refine (HA.out _ (Keeps.refl _ _)).mono ?_
        rintro e w1 ⟨rfl, hk⟩
        have d0' := hk.cellF d0
        have d1' := hk.cellF d1
        have HK := Lib.hid hk
        clear hk c0 c1 d0 d1
        go_wp2_with fail
        with_reducible refine (HB.out _ HK.out).mono ?_
        rintro e w2 ⟨rfl, hk⟩
        have HK2 := Lib.hid (HK.out.trans' hk)
        obtain ⟨c0, c1, _, _, _⟩ := (HBA.out.kept HK2.out id).cells
        obtain ⟨d0, d1, _, _, _⟩ := (HBB.out.kept HK2.out id).cells
        clear hk d0' d1'
        rcases (show a2 = -1 ∨ ¬ a2 = -1 ∧ b2 = -1 by omega) with q | ⟨q1, q2⟩
        · rw [decide_eq_true q] at hx
          clear hn
          go_wp2_with fail
          all_goals
            go_ret2
            first
              | (have hr : r = true := HR.out.2 ⟨by omega, by omega⟩
                 exact ⟨by rw [hr]; rfl, HK0.out.trans' HK2.out⟩)
              | (have hr : r = false := by
                   cases r with
                   | false => rfl
                   | true => have := HR.out.1 rfl; omega
                 exact ⟨by rw [hr]; rfl, HK0.out.trans' HK2.out⟩)
        · rw [decide_eq_false q1] at hx
          rw [decide_eq_true q2] at hy
          clear hn
          go_wp2_with fail
          all_goals
            go_ret2
            first
              | (have hr : r = true := HR.out.2 ⟨by omega, by omega⟩
                 exact ⟨by rw [hr]; rfl, HK0.out.trans' HK2.out⟩)
              | (have hr : r = false := by
                   cases r with
                   | false => rfl
                   | true => have := HR.out.1 rfl; omega
                 exact ⟨by rw [hr]; rfl, HK0.out.trans' HK2.out⟩)
      · obtain ⟨m1, rfl, hs1⟩ := chk_dart h1 (fun q => hn (Or.inl q))
        obtain ⟨m2, rfl, hs2⟩ := chk_dart h2 (fun q => hn (Or.inr q))
        rw [atC_nat] at HA HB
        have hss : sameC L E (a1, (m1 : Int)) (b1, (m2 : Int)) ↔ nxt L m2 ∈ orb L E (nxt L m1) := by
          unfold sameC
          rw [atC_nat, atC_nat, if_neg (by omega), Int.toNat_natCast, Int.toNat_natCast]
        have hx : (((nxt L m1 : Nat) : Int) == -1) = false := by rw [beq_eq_false_iff_ne]; omega
        have hy : (((nxt L m2 : Nat) : Int) == -1) = false := by rw [beq_eq_false_iff_ne]; omega
        have hst := hg.toWF.nxt_stands hs1
        have HWK := Lib.hid (fun W (hk : Keeps (fun _ => False) w0 W) => fwalk ((h.keep hK0).keep hk) hg hst)
        have hol : (orb L E (nxt L m1)).length ≤ 2 * E := by rw [orb_length]; exact (per_le hg hst).1
        have hr : decide ((0 : Nat) = 0 ∧ sameC L E (a1, (m1 : Int)) (b1, (m2 : Int))) = decide (nxt L m2 ∈ orb L E (nxt L m1)) := by
          rw [Bool.eq_iff_iff, decide_eq_true_iff, decide_eq_true_iff, hss]; simp
        rw [hr]
        unfold RetPost LPost tptr at *
        rw [errVal_zero] at HWK
        clear h hg h1 h2 hse hAN hBN hs1 hs2 hn hst hss hr
        generalize orb L E (nxt L m1) = R at *
        generalize nxt L m1 = x at *
        generalize nxt L m2 = y at *
        go_enter Tryd.func45, Tryd.ntmps45
        go_upto_region 1 with fail
        clear hW
        go_wp2_with fail
        with_reducible refine (HA.out _ (Keeps.refl _ _)).mono ?_
        rintro e w1 ⟨rfl, hk⟩
        have d0' := hk.cellF d0
        have d1' := hk.cellF d1
        have HK := Lib.hid hk
        clear hk c0 c1 d0 d1
        go_wp2_with fail
        with_reducible refine (HB.out _ HK.out).mono ?_
        rintro e w2 ⟨rfl, hk⟩
        have HK2 := Lib.hid (HK.out.trans' hk)
        clear hk d0' d1'
        go_wp2_with fail
        with_reducible refine (HWK.out _ HK2.out).mono ?_
        rintro e w3 ⟨v3, rfl, hro, hk⟩
        obtain ⟨a3, c3, rfl, hrd, _⟩ := Rd.of_own hro
        have HSC := Lib.hid (scontains a3 c3 hrd (by omega) y)
        have HK3 := Lib.hid (HK0.out.trans' (HK2.out.trans' hk))
        unfold RetPost at HSC
        clear hk hro hrd HWK
        go_wp2_with fail
        with_reducible refine HSC.out.mono ?_
        rintro e w4 ⟨rfl, hk⟩
        have HK4 := Lib.hid (HK3.out.trans' hk)
        clear hk
        go_wp2_with fail
        go_ret2
        exact ⟨rfl, HK4.out⟩
    · have hne := errVal_pos h2
      rw [if_neg h2, hne] at HB
      have hd : decide (chkErr L b1 b2 = 0 ∧ sameC L E (a1, a2) (b1, b2)) = false := decide_eq_false fun q => h2 q.1
      rw [hd, hne]
      generalize chkErr L b1 b2 = k at *
      generalize atC L (a1, a2) = xa at *
      unfold RetPost tptr at *
      clear h hg h1 h2 hse hd hne
      go_enter Tryd.func45, Tryd.ntmps45
      go_upto_region 1 with fail
      clear hW
      go_wp2_with fail
      with_reducible refine (HA.out _ (Keeps.refl _ _)).mono ?_
      rintro e w1 ⟨rfl, hk⟩
      have d0' := hk.cellF d0
      have d1' := hk.cellF d1
      have HK := Lib.hid hk
      clear hk c0 c1 d0 d1
      go_wp2_with fail
      with_reducible refine (HB.out _ HK.out).mono ?_
      rintro e w2 ⟨rfl, hk⟩
      have HK2 := Lib.hid (HK0.out.trans' (HK.out.trans' hk))
      clear hk d0' d1'
      go_wp2_with fail
      go_ret2
      exact ⟨rfl, HK2.out⟩
  · have hne := errVal_pos h1
    have hse : sameErr L (a1, a2) (b1, b2) = chkErr L a1 a2 := by unfold sameErr; rw [if_pos (by simpa using h1)]
    rw [if_neg h1, hne] at HA
    have hd : decide (chkErr L a1 a2 = 0 ∧ sameC L E (a1, a2) (b1, b2)) = false := decide_eq_false fun q => h1 q.1
    rw [hse, hd, hne]
    generalize chkErr L a1 a2 = k at *
    unfold RetPost tptr at *
    clear h hg h1 hse hd hne HB
    go_enter Tryd.func45, Tryd.ntmps45
    go_upto_region 1 with fail
    clear hW
    go_wp2_with fail
    with_reducible refine (HA.out _ (Keeps.refl _ _)).mono ?_
    rintro e w1 ⟨rfl, hk⟩
    have HK := Lib.hid (HK0.out.trans' hk)
    clear hk c0 c1 d0 d1
    go_wp2_with fail
    go_ret2
    exact ⟨rfl, HK.out⟩
end
end Go.Proofs.YtdplphhlclhmfaaDoor
