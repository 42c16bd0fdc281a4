/- The document's faces: Next, Walk. The document's faces: All. The document's faces: At, Same. Plain: the groups that edges make. -/
import Derived.Deep.RegionHeld3
import Derived.Test.YtdplphhlclhmfaaDoorKh
namespace Go.Proofs.YtdplphhlclhmfaaDoor
open Go Go.RowKit
set_option linter.unusedVariables false
set_option linter.unusedSimpArgs false
set_option maxRecDepth 100000

section
variable {w : World} {B E : Nat} {v : Value} {L : List (List Nat)}
theorem tmod_two (d : Nat) : ((d : Int).tmod 2) = ((d % 2 : Nat) : Int) := (Int.ofNat_tmod d 2).symm
set_option maxHeartbeats 2000000 in
theorem rfnext (h : LsRow w B v L) (hg : Good E L) (hV : L.length ≤ 1048576) (hE : E ≤ 1048576) {d : Nat} (hs : Stands L d) :
    Calls Tryd.prog 103 #[rval E v, .int .i64 (d : Int)] w (RetPost (.int .i64 ((fnx L d : Nat) : Int)) w) := by
  obtain ⟨va, vc, rfl⟩ := h.form
  generalize hW : w.alloc (.cells #[.int .i64 (E : Int), .slice va L.length vc] 27) = w0
  have hK0 : Keeps (fun _ => False) w w0 := by rw [← hW]; exact (Keeps.refl _ _).alloc _
  have hB : Blk w0 w.heap.size #[.int .i64 (E : Int), .slice va L.length vc] 27 := by rw [← hW]; exact Blk.new _ _ _
  have hd := hg.toWF.bdS hs
  have HN := Lib.hid (rnext (h.keep hK0) hg.toWF hV hE (hg.twin _ hs) 1 (Or.inl rfl))
  rw [if_pos rfl] at HN
  have HK0 := Lib.hid hK0
  obtain ⟨x0, x1, _, _, _⟩ := hB.cells
  have hm2 := tmod_two d
  unfold fnx
  unfold RetPost rval at *
  clear hK0 h hg hs hB
  generalize nxt L (tw d) = z at *
  by_cases ho : d % 2 = 1
  · have ht : ((tw d : Nat) : Int) = (d : Int) - 1 := by unfold tw; rw [if_pos ho]; omega
    rw [ht] at HN
    rw [ho] at hm2
    go_enter Tryd.func103, Tryd.ntmps103
    go_upto_region 1 with fail
    clear hW
    go_wp2_with fail
    with_reducible refine HN.out.mono ?_
    rintro e w2 ⟨rfl, hk⟩
    have HF := Lib.hid (HK0.out.trans' hk)
    clear hk
    go_wp2_with fail
    go_ret
    exact ⟨rfl, HF.out⟩
  · have ht : ((tw d : Nat) : Int) = (d : Int) + 1 := by unfold tw; rw [if_neg ho]; omega
    rw [ht] at HN
    rw [show d % 2 = 0 by omega] at hm2
    go_enter Tryd.func103, Tryd.ntmps103
    go_upto_region 1 with fail
    clear hW
    go_wp2_with fail
    with_reducible refine HN.out.mono ?_
    rintro e w2 ⟨rfl, hk⟩
    have HF := Lib.hid (HK0.out.trans' hk)
    clear hk
    go_wp2_with fail
    go_ret
    exact ⟨rfl, HF.out⟩
theorem len_less {m k : Nat} (h : m = k + 1) (hk : k < 4000000) : IntKind.i64.wrap ((m : Int) - 1) = (k : Int) ∧ wrap64 ((m : Int) - 1) = (k : Int) ∧ (m : Int) - 1 = (k : Int) := by
  subst h
  refine ⟨?_, ?_, by omega⟩
  · rw [IntKind.wrap_i64]; omega
  · unfold wrap64; omega
set_option maxHeartbeats 4000000 in
theorem rwalk (h : LsRow w B v L) (hg : Good E L) (hV : L.length ≤ 1048576) (hE : E ≤ 1048576) {d : Nat} (hs : Stands L d) :
    Calls Tryd.prog 79 #[rval E v, .int .i64 (d : Int)] w (DsPost (orb L E d) w) := by
  obtain ⟨i0, hi, hz0, hz1, hz2⟩ := info_parts infoI
  obtain ⟨va, vc, rfl⟩ := h.form
  generalize hW : w.alloc (.cells #[.int .i64 (E : Int), .slice va L.length vc] 27) = w0
  have hK0 : Keeps (fun _ => False) w w0 := by rw [← hW]; exact (Keeps.refl _ _).alloc _
  have HB : Hid (Blk w0 w.heap.size #[.int .i64 (E : Int), .slice va L.length vc] 27) := by rw [← hW]; exact Lib.hid (Blk.new _ _ _)
  have HK0 := Lib.hid hK0
  have hple := (per_le hg hs).1
  have hpback := (per_le hg hs).2
  have hp1 : 1 ≤ per L E d := Nat.succ_pos _
  have HN : Hid (∀ k W, Keeps (fun _ => False) w0 W → Calls Tryd.prog 103 #[rval E (.slice va L.length vc), .int .i64 ((itf L d k : Nat) : Int)] W (RetPost (.int .i64 ((itf L d (k + 1) : Nat) : Int)) W)) := Lib.hid fun k W hk =>
    rfnext ((h.keep hK0).keep hk) hg hV hE (itf_stands hg hs k)
  have HNE : Hid (∀ k, 1 ≤ k → k < per L E d → itf L d k ≠ d) := fun k h1 h2 => per_least h1 h2
  have HBD : Hid (∀ k, itf L d k < 2 * E) := fun k => hg.toWF.bdS (itf_stands hg hs k)
  have HT : Hid (∀ k, k < per L E d → (orb L E d).take (k + 1) = (orb L E d).take k ++ [itf L d k]) := fun k hk => orb_take hk
  have HRL : Hid ((orb L E d).length = per L E d) := orb_length L E d
  have h00 : itf L d 0 = d := rfl
  have hdE := HBD.out 0
  rw [h00] at hdE
  clear h hg hs hK0
  unfold RetPost rval at HN
  unfold DsPost rval
  generalize orb L E d = R at *
  generalize per L E d = P at *
  obtain ⟨g, hg⟩ : ∃ g : Nat → Nat, ∀ k, itf L d k = g k := ⟨_, fun _ => rfl⟩
  simp only [hg] at HN HNE HBD HT h00 hpback
  clear hg
  have HT0 : Hid (R.take 1 = [d]) := by
    have := HT.out 0 (by omega)
    rw [h00] at this
    exact Lib.hid this
  have HGP := Lib.hid hpback
  have HG0 := Lib.hid h00
  clear h00 hpback
  have HGET : Hid (∀ k, k < P → (nats (R.take (k + 1)))[k]? = some (.int .i64 ((g k : Nat) : Int))) := Lib.hid fun k hk => by
    rw [HT.out k hk, nats_append, List.getElem?_append_right (by simp [nats_length, List.length_take]; omega)]
    have : (nats (R.take k)).length = k := by rw [nats_length, List.length_take, HRL.out]; omega
    rw [this, Nat.sub_self]; rfl
  go_enter Tryd.func79, Tryd.ntmps79
  go_upto_region 1 with fail
  clear hW
  have HS0 : Hid ((w0.alloc (.cells #[.int .i64 (d : Int)] 3)).ownsRow w0.heap.size 3 1 (.slice (some ⟨w0.heap.size, 0, none⟩) 1 1) 1 (nats (R.take 1)) ∧ Keeps (fun _ => False) w0 (w0.alloc (.cells #[.int .i64 (d : Int)] 3))) := by
    refine Lib.hid ⟨?_, (Keeps.refl _ _).alloc _⟩
    rw [HT0.out]
    exact World.ownsRow_lit w0 #[.int .i64 (d : Int)] 1 (Nat.le_refl _) (by decide) rfl
  go_wp2_with fail
  go_loopw [5, 6] (fun o i wr => ∃ (k : Nat), k < P ∧ i = .int .i64 (k : Int) ∧ Hid (wr.ownsRow w0.heap.size 3 1 o (k + 1) (nats (R.take (k + 1))) ∧ Keeps (fun _ => False) w0 wr)) (fun _ i _ => 2 * E - (intOf i).toNat)
  case atStart => exact ⟨0, by omega, rfl, HS0⟩
  case round =>
    obtain ⟨k, hkP, rfl, HO⟩ := hrel
    clear HS0
    obtain ⟨x0, x1, _, _, _⟩ := (HB.out.kept HO.out.2 id).cells
    obtain ⟨gb, cap, hv, _, _⟩ := HO.out.1.form (Nat.succ_pos _)
    subst hv
    have hcell := HO.out.1.cellAt k (by omega)
    rw [HGET.out k hkP] at hcell
    have hNX := Lib.hid (HN.out k)
    have hkE : (k : Int) < 2 * (E : Int) := by omega
    have HTN : Hid (k + 1 < P → R.take (k + 1 + 1) = R.take (k + 1) ++ [g (k + 1)]) := Lib.hid fun q => HT.out (k + 1) q
    have hgE := HBD.out (k + 1)
    have HNE1 : Hid (k + 1 < P → g (k + 1) ≠ d) := Lib.hid fun q => HNE.out (k + 1) (by omega) q
    have HEQ : Hid (k + 1 = P → g (k + 1) = d) := Lib.hid fun q => by rw [q]; exact HGP.out
    generalize g k = y at *
    generalize g (k + 1) = x at *
    obtain ⟨m, hm⟩ : ∃ m, m = k + 1 := ⟨_, rfl⟩
    rw [← hm] at HO HTN
    obtain ⟨hwm1, hwm2, hwm3⟩ : IntKind.i64.wrap ((m : Int) - 1) = (k : Int) ∧ wrap64 ((m : Int) - 1) = (k : Int) ∧ (m : Int) - 1 = (k : Int) := len_less hm (by omega)
    have hkm : (k : Int) < (m : Int) := by omega
    have hk0 : (0 : Int) ≤ (k : Int) := by omega
    have hm1 : (0 : Int) ≤ (m : Int) - 1 := by omega
    have hm2 : (m : Int) - 1 < (m : Int) := by omega
    rw [← hm]
    have HMK := Lib.hid hm
    clear hm hwm3
    have hK0 : Keeps (fun _ => False) wr wr := Keeps.refl _ _
    have hK : Keeps (fun _ => False) wr wr.drew := (Keeps.refl _ _).drew
    go_upto_region 5 with fail
    go_region_held3 (fun w' => w'.cell? ⟨w.heap.size, 0, none⟩ = some (.int .i64 (E : Int)) ∧ w'.cell? ⟨w.heap.size, 1, none⟩ = some (.slice va L.length vc) ∧ w'.cell? ⟨gb, k, none⟩ = some (.int .i64 (y : Int)))
      (first | exact ⟨hK.cellF x0, hK.cellF x1, hK.cellF hcell⟩ | fail)
      (first
        | (go_at_call 103; have hKK := HO.out.2.trans' hK; with_reducible refine (hNX.out _ hKK).mono ?_; rintro e5 w5 ⟨rfl, hk5⟩; have hK : Keeps (fun _ => False) wr w5 := hK.trans' hk5)
        | fail)
    all_goals
      have HO5 : Hid (w5.ownsRow w0.heap.size 3 1 (.slice (some ⟨gb, 0, none⟩) m cap) m (nats (R.take m)) ∧ Keeps (fun _ => False) w0 w5) := Lib.hid ⟨ownsRow_kept HO.out.1 hK fun _ _ q => q, HO.out.2.trans' hK⟩
      clear hwm1 hwm2 hk5 hK0 x0 x1 hcell HO hNX
      clear hK
      by_cases hkq : k + 1 = P
      · have hb : (((x : Nat) : Int) == ((d : Nat) : Int)) = true := by rw [HEQ.out hkq]; simp
        have hmP : m = R.length := by rw [HMK.out, hkq, HRL.out]
        have HF : Hid (w5.ownsRow w.heap.size 3 1 (.slice (some ⟨gb, 0, none⟩) m cap) R.length (nats R) ∧ Keeps (fun _ => False) w w5) := by
          have h1 := HO5.out.1
          rw [hmP, List.take_length, ← hmP] at h1
          exact Lib.hid ⟨owns_low (hmP ▸ h1) HK0.out.size, HK0.out.trans' HO5.out.2⟩
        clear HO5 hmP hkm hm1 hm2
        go_wp2_with fail
        go_ret
        exact ⟨_, rfl, HF.out⟩
      · have hb : (((x : Nat) : Int) == ((d : Nat) : Int)) = false := by
          have := HNE1.out (by omega)
          rw [beq_eq_false_iff_ne]; omega
        have HTK := Lib.hid (HTN.out (by have := HMK.out; omega))
        have hown := HO5.out.1
        have hws : w0.heap.size ≤ w5.heap.size := HO5.out.2.size
        have hmE : m ≤ 2 * E := by have := HMK.out; omega
        clear hkm hm1 hm2
        go_wp2_with (first | (at_builtin; refine wpList_app1 rfl _ _ 23 rfl w0.heap.size 3 i0 (.int .i64 0) 1 8 Tryd.underlying23 hi hz0 hz1 hz2 rfl (by decide) _ _ _ rfl hown _ 1 1 [.int .i64 ((x : Nat) : Int)] 3 rfl rfl rfl ?c1 ?c2 ?c3 ?c4 ?_))
        case c1 => simp [Value.oneCell']
        case c2 => unfold maxLen; omega
        case c3 => omega
        case c4 => exact hws
        intro v1 w6 ho hk1' _ _ _
        have HO1 : Hid (w6.ownsRow w0.heap.size 3 1 v1 (k + 1 + 1) (nats (R.take (k + 1 + 1))) ∧ Keeps (fun _ => False) w0 w6) := by
          refine Lib.hid ⟨?_, HO5.out.2.trans hk1' fun i hi e => ?_⟩
          · rw [← HMK.out, HTK.out, nats_append]
            exact ho
          · have := (HO5.out.1.lt i e).1
            omega
        clear ho hk1' hown
        go_wp2_with fail
        exact ⟨⟨k + 1, by omega, by simp, HO1⟩, by simp [intOf]; omega⟩
end
theorem mn_step {R : List Nat} {d k : Nat} (hk : k < R.length) : (R.take (k + 1)).foldl min d = min ((R.take k).foldl min d) (R.getD k 0) := by
  rw [take_next hk, List.foldl_append]; rfl
theorem mn_le (R : List Nat) : ∀ d, R.foldl min d ≤ d := by
  induction R with
  | nil => intro d; exact Nat.le_refl _
  | cons x R ih => intro d; exact Nat.le_trans (ih _) (Nat.min_le_left _ _)
theorem mn_iff (R : List Nat) : ∀ d, R.foldl min d = d ↔ ∀ x ∈ R, d ≤ x := by
  induction R with
  | nil => intro d; simp
  | cons x R ih =>
    intro d
    simp only [List.foldl_cons, List.mem_cons, forall_eq_or_imp]
    constructor
    · intro h
      have h1 := mn_le R (min d x)
      rw [h] at h1
      have h2 : min d x = d := by omega
      rw [h2] at h
      exact ⟨by omega, (ih d).1 h⟩
    · rintro ⟨h1, h2⟩
      rw [Nat.min_eq_left h1]
      exact (ih d).2 h2
theorem mn_lt {R : List Nat} {N : Nat} (h : ∀ x ∈ R, x < N) : ∀ d, d < N → ∀ k, (R.take k).foldl min d < N := fun d hd k => Nat.lt_of_le_of_lt (mn_le _ d) hd
section
variable {E : Nat} {L : List (List Nat)}
theorem least_mn {d : Nat} (hs : Stands L d) : least L E d = true ↔ (orb L E d).foldl min d = d := by
  rw [least_iff, mn_iff]
  exact ⟨fun h => h.2, fun h => ⟨hs, h⟩⟩
theorem faces_darts : ((dartsN L (2 * E)).filter (least L E)).map (orb L E) = faces L E := by
  unfold faces facesN dartsN
  rw [List.filter_filter]
  congr 2
  funext d
  by_cases h : Stands L d
  · rw [decide_eq_true h, Bool.and_true]
  · rw [decide_eq_false h, none_least h]; rfl
end
section
variable {w : World} {B E : Nat} {v : Value} {L : List (List Nat)}
set_option maxHeartbeats 4000000 in
theorem rall (h : LsRow w B v L) (hg : Good E L) (h0 : 0 < L.length) (hV : L.length ≤ 1048576) (hE : E ≤ 1048576) :
    Calls Tryd.prog 44 #[rval E v] w (AllPost (faces L E) w) := by
  obtain ⟨i0, hi, hz0, hz1, hz2⟩ := info_parts infoS
  obtain ⟨va, vc, rfl⟩ := h.form
  generalize hW : w.alloc (.cells #[.int .i64 (E : Int), .slice va L.length vc] 27) = w0
  have hK0 : Keeps (fun _ => False) w w0 := by rw [← hW]; exact (Keeps.refl _ _).alloc _
  have HB : Hid (Blk w0 w.heap.size #[.int .i64 (E : Int), .slice va L.length vc] 27) := by rw [← hW]; exact Lib.hid (Blk.new _ _ _)
  have HK0 := Lib.hid hK0
  have HD := Lib.hid (rdarts (h.keep hK0) hg.toWF h0 hV hE)
  have HW : Hid (∀ W, Keeps (fun _ => False) w0 W → ∀ d : Nat, Stands L d → Calls Tryd.prog 79 #[rval E (.slice va L.length vc), .int .i64 (d : Int)] W (DsPost (orb L E d) W)) := Lib.hid fun W hk d hs => rwalk ((h.keep hK0).keep hk) hg hV hE hs
  have HMEM : Hid (∀ i, i < (dartsN L (2 * E)).length → (dartsN L (2 * E)).getD i 0 < 2 * E ∧ Stands L ((dartsN L (2 * E)).getD i 0)) := fun i hi => by have := getD_mem hi; simpa [dartsN] using this
  have hDl : (dartsN L (2 * E)).length ≤ 2 * E := dartsN_le L (2 * E)
  have HFA : Hid (((dartsN L (2 * E)).filter (least L E)).map (orb L E) = faces L E) := faces_darts
  have HG := Lib.hid hg
  obtain ⟨x0, x1, _, _, _⟩ := HB.out.cells
  clear h hg hK0
  generalize dartsN L (2 * E) = D at *
  unfold DsPost rval at HD HW
  unfold AllPost rval
  go_enter Tryd.func44, Tryd.ntmps44
  go_upto_region 1 with fail
  clear hW
  go_wp2_with fail
  with_reducible refine HD.out.mono ?_
  rintro e w2 ⟨v2, rfl, hro, hk⟩
  obtain ⟨a2, c2, rfl, hrd, _⟩ := Rd.of_own hro
  have HR2 := Lib.hid hrd
  have HK2 := Lib.hid hk
  clear hro hrd hk HD x0 x1
  go_wp2_with fail
  go_loopw [3, 5] (fun o i wr => ∃ (j : Nat), j ≤ D.length ∧ i = .int .i64 (j : Int) ∧ Hid (Keeps (fun _ => False) w2 wr ∧ RsAt wr w2.heap.size o (((D.take j).filter (least L E)).map (orb L E)))) (fun _ i _ => D.length - (intOf i).toNat)
  case atStart => exact ⟨0, Nat.zero_le _, rfl, Lib.hid ⟨Keeps.refl _ _, RsAt.nil _ _⟩⟩
  case round =>
    obtain ⟨j, hj, rfl, HS⟩ := hrel
    by_cases hlt : j < D.length
    · as_aux_lemma =>
      obtain ⟨x0, x1, _, _, _⟩ := (HB.out.kept (HK2.out.trans' HS.out.1) id).cells
      obtain ⟨b, off, rfl, hc⟩ := (HR2.out.keep HS.out.1).nat hlt
      obtain ⟨hdE, hs⟩ := HMEM.out j hlt
      have HTD := Lib.hid (take_next hlt)
      have HWK := Lib.hid (fun W hk => HW.out W hk _ hs)
      have HLM := Lib.hid (least_mn (E := E) hs)
      have HBD : Hid (∀ k, k < (orb L E (D.getD j 0)).length → (orb L E (D.getD j 0)).getD k 0 < 2 * E) := fun k hk => HG.out.toWF.bdS (orb_stands HG.out hs (getD_mem hk))
      have hRl : (orb L E (D.getD j 0)).length ≤ 2 * E := by rw [orb_length]; exact (per_le HG.out hs).1
      have HFl : Hid ((((D.take j).filter (least L E)).map (orb L E)).length ≤ 2 * E) := by
        rw [List.length_map]
        have h1 := List.length_filter_le (least L E) (D.take j)
        have h2 := List.length_take (i := j) (l := D)
        exact Lib.hid (by omega)
      clear hs HW
      generalize hd : D.getD j 0 = d at *
      clear hd
      generalize hR : orb L E d = R at *
      have HRE := Lib.hid hR
      clear hR
      have hK0 : Keeps (fun _ => False) wr wr := Keeps.refl _ _
      have hK : Keeps (fun _ => False) wr wr.drew := (Keeps.refl _ _).drew
      go_upto_region 6 with fail
      go_region_held3 (fun w' => w'.cell? ⟨w.heap.size, 0, none⟩ = some (.int .i64 (E : Int)) ∧ w'.cell? ⟨w.heap.size, 1, none⟩ = some (.slice va L.length vc) ∧ w'.cell? ⟨b, off + j, none⟩ = some (.int .i64 (d : Int)))
        (first | exact ⟨hK.cellF x0, hK.cellF x1, hK.cellF hc⟩ | fail)
        (first
          | (go_at_call 79; have hKK := HK2.out.trans' (HS.out.1.trans' hK); with_reducible refine (HWK.out _ hKK).mono ?_; rintro e5 w5 ⟨uu, rfl, hro5, hk5⟩; obtain ⟨a5, c5, rfl, _, _⟩ := Rd.of_own hro5; have hK : Keeps (fun _ => False) wr w5 := hK.trans' hk5)
          | fail)
      all_goals
        have H5 : Hid (Keeps (fun _ => False) w2 w5 ∧ RsAt w5 w2.heap.size u3 (((D.take j).filter (least L E)).map (orb L E)) ∧ RowAt w5 w2.heap.size u3 (.slice a5 R.length c5) R) := by
          obtain ⟨us, hown, _⟩ := HS.out.2
          have hfr := RowAt.fresh (w := wr) hown HS.out.1.size hro5
          exact Lib.hid ⟨HS.out.1.trans' hK, HS.out.2.keep hK, hfr⟩
        have hcd := hK.cellF hc
        have hR5 : Rd w5 a5 (nats R) := by
          obtain ⟨a', c', e, hrd, _⟩ := H5.out.2.2
          simp only [Value.slice.injEq, true_and] at e
          obtain ⟨rfl, rfl⟩ := e
          exact hrd
        have HR5 := Lib.hid hR5
        have HC5 := Lib.hid hcd
        clear x0 x1 hc hK hK0 hk5 hro5 HS hR5 hcd HWK
        have hcd := HC5.out
        go_wp2_with fail
        go_loopw [7, 8] (fun m i wx => ∃ (k : Nat), k ≤ R.length ∧ m = .int .i64 (((R.take k).foldl min d : Nat) : Int) ∧ i = .int .i64 (k : Int) ∧ Hid (Keeps (fun _ => False) w5 wx)) (fun _ i _ => R.length - (intOf i).toNat)
        case atStart => exact ⟨0, Nat.zero_le _, by simp, rfl, Lib.hid (Keeps.refl _ _)⟩
        case round =>
          obtain ⟨k, hk, rfl, rfl, HK⟩ := hrel
          have hcd2 := HK.out.cellF HC5.out
          by_cases hkR : k < R.length
          · as_aux_lemma =>
            obtain ⟨b6, o6, rfl, hc6⟩ := (HR5.out.keep HK.out).nat hkR
            have HMS := Lib.hid (mn_step (d := d) hkR)
            have hbd := HBD.out k hkR
            generalize (R.take k).foldl min d = mk at *
            generalize R.getD k 0 = x at *
            go_wp2_with fail
            exact ⟨⟨k + 1, hkR, by rw [HMS.out]; split <;> (congr 1; omega), by simp, HK⟩, by simp [intOf]; omega⟩
          · as_aux_lemma =>
            obtain rfl : k = R.length := by omega
            rw [List.take_length]
            have hn1 : j + 1 ≤ D.length := hlt
            by_cases hl : least L E d = true
            · have hb : (((R.foldl min d : Nat) : Int) == (d : Int)) = true := by rw [HLM.out.1 hl]; simp
              have hst : ((D.take (j + 1)).filter (least L E)).map (orb L E) = ((D.take j).filter (least L E)).map (orb L E) ++ [R] := by
                rw [HTD.out, List.filter_append, List.map_append]
                simp [hl, HRE.out]
              have HST := Lib.hid hst
              have hrs := H5.out.2.1.keep HK.out
              have HRX : Hid (RowAt wr w2.heap.size u3 (.slice a5 R.length c5) R) := Lib.hid (H5.out.2.2.kept HK.out fun b e => e.elim)
              obtain ⟨us, hown, hrows⟩ := hrs
              have hBw : w2.heap.size ≤ wr.heap.size := (H5.out.1.trans' HK.out).size
              have HKA := Lib.hid (H5.out.1.trans' HK.out)
              have HRW := Lib.hid hrows
              have HOW := Lib.hid hown
              have hFl := HFl.out
              clear hrows H5 hst hl HLM HK HTD HRE
              generalize ((D.take j).filter (least L E)).map (orb L E) = F at *
              generalize R.foldl min d = mm at *
              go_wp2_with (first | (at_builtin; refine wpList_app1 rfl _ _ 25 rfl w2.heap.size 23 i0 (.slice none 0 0) 1 24 Tryd.underlying25 hi hz0 hz1 hz2 rfl (by decide) _ _ _ rfl hown _ 1 1 [.slice a5 R.length c5] 23 rfl rfl rfl ?c1 ?c2 ?c3 ?c4 ?_))
              case c1 => simp [Value.oneCell']
              case c2 => unfold maxLen; omega
              case c3 => omega
              case c4 => exact hBw
              intro v7 w7 ho hk7 hb7 _ _
              have HX2 : Hid (Keeps (fun _ => False) w2 w7 ∧ RsAt w7 w2.heap.size v7 (((D.take (j + 1)).filter (least L E)).map (orb L E))) := by
                rw [HST.out]
                exact Lib.hid ⟨HKA.out.thin hk7 fun i e => (HOW.out.lt i e).1, RsAt.push HOW.out HRW.out HRX.out ho hk7 hb7⟩
              clear ho hk7 hb7 hown HRX HRW HOW
              go_wp2_with fail
              exact ⟨⟨j + 1, hn1, by simp, HX2⟩, by simp [intOf]; omega⟩
            · have hb : (((R.foldl min d : Nat) : Int) == (d : Int)) = false := by
                rw [beq_eq_false_iff_ne]
                intro e
                exact hl (HLM.out.2 (Int.ofNat.inj e))
              have hst : ((D.take (j + 1)).filter (least L E)).map (orb L E) = ((D.take j).filter (least L E)).map (orb L E) := by
                rw [HTD.out, List.filter_append, List.map_append]
                simp [hl]
              have HX2 : Hid (Keeps (fun _ => False) w2 wr ∧ RsAt wr w2.heap.size u3 (((D.take (j + 1)).filter (least L E)).map (orb L E))) := by
                rw [hst]
                exact Lib.hid ⟨H5.out.1.trans' HK.out, H5.out.2.1.keep HK.out⟩
              clear H5 hst hl HLM HK HTD HRE
              generalize R.foldl min d = mm at *
              go_wp2_with fail
              exact ⟨⟨j + 1, hn1, by simp, HX2⟩, by simp [intOf]; omega⟩
    · obtain rfl : j = D.length := by omega
      have hrs := HS.out.2
      rw [List.take_length, HFA.out] at hrs
      have HF : Hid (RsAt wr w.heap.size u3 (faces L E) ∧ Keeps (fun _ => False) w wr) := Lib.hid ⟨hrs.mono (HK0.out.trans' HK2.out).size, HK0.out.trans' (HK2.out.trans' HS.out.1)⟩
      clear hrs HS
      go_wp2_with fail
      go_ret
      exact ⟨_, rfl, HF.out⟩
end
section
variable {w : World} {B E : Nat} {v : Value} {L : List (List Nat)}
set_option maxHeartbeats 2000000 in
theorem rat (h : LsRow w B v L) (hg : Good E L) (hV : L.length ≤ 1048576) (hE : E ≤ 1048576) (c : Int × Int) (h0 : chkErr L c.1 c.2 = 0) :
    Calls Tryd.prog 86 #[rval E v, cArr c] w (RetPost (.int .i64 (atC L c)) w) := by
  obtain ⟨c1, c2⟩ := c
  obtain ⟨va, vc, rfl⟩ := h.form
  generalize hW : (w.alloc (.cells #[.int .i64 (E : Int), .slice va L.length vc] 27)).alloc (.cells #[.int .i64 c1, .int .i64 c2] 45) = w0
  have hK0 : Keeps (fun _ => False) w w0 := by rw [← hW]; exact ((Keeps.refl _ _).alloc _).alloc _
  have hB : Blk w0 w.heap.size #[.int .i64 (E : Int), .slice va L.length vc] 27 := by rw [← hW]; exact (Blk.new _ _ _).alloc _
  have hC : Blk w0 (w.heap.size + 1) #[.int .i64 c1, .int .i64 c2] 45 := by rw [← hW]; exact Blk.newAt _ _ _ (by simp)
  have HK0 := Lib.hid hK0
  obtain ⟨x0, x1, _, _, _⟩ := hB.cells
  obtain ⟨y0, y1, _, _, _⟩ := hC.cells
  by_cases hn : c2 = -1
  · have he : atC L (c1, c2) = -1 := if_pos hn
    have hb : (c2 == -1) = true := by rw [beq_iff_eq]; exact hn
    rw [he]
    unfold RetPost rval cArr
    clear h hg h0 hB hC hK0 he hn
    go_enter Tryd.func86, Tryd.ntmps86
    go_upto_region 1 with fail
    clear hW
    go_wp2_with fail
    go_ret
    exact ⟨rfl, HK0.out⟩
  · obtain ⟨m, rfl, hs⟩ := chk_dart h0 hn
    rw [atC_nat]
    have hb : ((m : Int) == -1) = false := by rw [beq_eq_false_iff_ne]; omega
    have HN := Lib.hid (rnext (h.keep hK0) hg.toWF hV hE hs 1 (Or.inl rfl))
    rw [if_pos rfl] at HN
    unfold RetPost rval cArr at *
    clear h hg h0 hB hC hK0 hn hs
    generalize nxt L m = z at *
    go_enter Tryd.func86, Tryd.ntmps86
    go_upto_region 1 with fail
    clear hW
    go_wp2_with fail
    with_reducible refine HN.out.mono ?_
    rintro e w2 ⟨rfl, hk⟩
    have HF := Lib.hid (HK0.out.trans' hk)
    clear hk
    go_wp2_with fail
    go_ret
    exact ⟨rfl, HF.out⟩
theorem atC_none {L : List (List Nat)} (a : Int × Int) : atC L a = -1 ↔ a.2 = -1 := by
  unfold atC
  by_cases e : a.2 = -1
  · simp [e]
  · rw [if_neg e]; constructor
    · intro q; omega
    · intro q; exact absurd q e
theorem atC_neg {L : List (List Nat)} (a : Int × Int) : atC L a < 0 ↔ a.2 = -1 := by
  rw [← atC_none (L := L)]
  unfold atC
  split
  · simp
  · constructor <;> intro q <;> omega
set_option maxHeartbeats 4000000 in
theorem rsame (h : LsRow w B v L) (hg : Good E L) (hV : L.length ≤ 1048576) (hE : E ≤ 1048576) (a b : Int × Int) (ha : chkErr L a.1 a.2 = 0) (hb : chkErr L b.1 b.2 = 0) :
    Calls Tryd.prog 48 #[rval E v, cArr a, cArr b] w (RetPost (.bool (decide (sameC L E a b))) w) := by
  obtain ⟨a1, a2⟩ := a
  obtain ⟨b1, b2⟩ := b
  obtain ⟨va, vc, rfl⟩ := h.form
  generalize hW : ((w.alloc (.cells #[.int .i64 (E : Int), .slice va L.length vc] 27)).alloc (.cells #[.int .i64 a1, .int .i64 a2] 45)).alloc (.cells #[.int .i64 b1, .int .i64 b2] 45) = w0
  have hK0 : Keeps (fun _ => False) w w0 := by rw [← hW]; exact (((Keeps.refl _ _).alloc _).alloc _).alloc _
  have hB : Blk w0 w.heap.size #[.int .i64 (E : Int), .slice va L.length vc] 27 := by rw [← hW]; exact ((Blk.new _ _ _).alloc _).alloc _
  have hA : Blk w0 (w.heap.size + 1) #[.int .i64 a1, .int .i64 a2] 45 := by rw [← hW]; exact (Blk.newAt _ _ _ (by simp)).alloc _
  have hC : Blk w0 (w.heap.size + 1 + 1) #[.int .i64 b1, .int .i64 b2] 45 := by rw [← hW]; exact Blk.newAt _ _ _ (by simp)
  have HK0 := Lib.hid hK0
  have HBT := Lib.hid hB
  have HBA := Lib.hid hA
  have HBC := Lib.hid hC
  have HAA := Lib.hid (fun W (hk : Keeps (fun _ => False) w0 W) => rat ((h.keep hK0).keep hk) hg hV hE (a1, a2) ha)
  have HAB := Lib.hid (fun W (hk : Keeps (fun _ => False) w0 W) => rat ((h.keep hK0).keep hk) hg hV hE (b1, b2) hb)
  obtain ⟨x0, x1, _, _, _⟩ := hB.cells
  obtain ⟨y0, y1, _, _, _⟩ := hA.cells
  obtain ⟨z0, z1, _, _, _⟩ := hC.cells
  have hK : Keeps (fun _ => False) w0 w0.drew := (Keeps.refl _ _).drew
  have HLS := Lib.hid (fun W (hk : Keeps (fun _ => False) w0 W) => (h.keep hK0).keep hk)
  have HA := Lib.hid ha
  have HB := Lib.hid hb
  clear h hA hB hC hK0 ha hb
  unfold RetPost rval cArr at HAA HAB
  unfold RetPost rval cArr
  simp only at HAA HAB
  have hna := atC_neg (L := L) (a1, a2)
  have hnb := atC_neg (L := L) (b1, b2)
  simp only at hna hnb
  obtain ⟨xa, hxa⟩ : ∃ xa, atC L (a1, a2) = xa := ⟨_, rfl⟩
  obtain ⟨xb, hxb⟩ : ∃ xb, atC L (b1, b2) = xb := ⟨_, rfl⟩
  rw [hxa] at HAA hna
  rw [hxb] at HAB hnb
  have HXA := Lib.hid hxa
  have HXB := Lib.hid hxb
  have HNA := Lib.hid hna
  have HNB := Lib.hid hnb
  clear hxa hxb hna hnb
  go_enter Tryd.func48, Tryd.ntmps48
  go_upto_region 1 with fail
  clear hW
  go_region_held3 (fun w' => w'.cell? ⟨w.heap.size, 0, none⟩ = some (.int .i64 (E : Int)) ∧ w'.cell? ⟨w.heap.size, 1, none⟩ = some (.slice va L.length vc) ∧ w'.cell? ⟨w.heap.size + 1, 0, none⟩ = some (.int .i64 a1) ∧ w'.cell? ⟨w.heap.size + 1, 1, none⟩ = some (.int .i64 a2) ∧ w'.cell? ⟨w.heap.size + 1 + 1, 0, none⟩ = some (.int .i64 b1) ∧ w'.cell? ⟨w.heap.size + 1 + 1, 1, none⟩ = some (.int .i64 b2))
    (first | exact ⟨hK.cellF x0, hK.cellF x1, hK.cellF y0, hK.cellF y1, hK.cellF z0, hK.cellF z1⟩ | fail)
    (first
      | (go_at_call 86; with_reducible refine (HAA.out _ hK).mono ?_; rintro e5 w5 ⟨rfl, hk5⟩; have hK : Keeps (fun _ => False) w0 w5 := hK.trans' hk5)
      | (go_at_call 86; with_reducible refine (HAB.out _ hK).mono ?_; rintro e6 w6 ⟨rfl, hk6⟩; have hK : Keeps (fun _ => False) w0 w6 := hK.trans' hk6)
      | fail)
  all_goals
    have H6 := Lib.hid hK
    obtain ⟨x0, x1, _, _, _⟩ := (HBT.out.kept hK id).cells
    obtain ⟨y0, y1, _, _, _⟩ := (HBA.out.kept hK id).cells
    obtain ⟨z0, z1, _, _, _⟩ := (HBC.out.kept hK id).cells
    have HF := Lib.hid (HK0.out.trans' hK)
    clear hK hk5 hk6 HAA HAB
    by_cases hn : a2 = -1 ∨ b2 = -1
    · have hsc : sameC L E (a1, a2) (b1, b2) ↔ a1 = b1 ∧ a2 = b2 := by
        unfold sameC
        rw [if_pos (by rw [atC_none, atC_none]; exact hn)]
        simp
      have HR : Hid ((decide (sameC L E (a1, a2) (b1, b2)) = true) ↔ a1 = b1 ∧ a2 = b2) := Lib.hid (by rw [decide_eq_true_iff, hsc])
      clear hsc
      obtain ⟨r, hrd⟩ : ∃ r, decide (sameC L E (a1, a2) (b1, b2)) = r := ⟨_, rfl⟩
      rw [hrd] at HR
      have HRD := Lib.hid hrd
      clear hrd
      have hfalse : ¬ (a1 = b1 ∧ a2 = b2) → r = false := fun q => by
        cases hr : r with
        | false => rfl
        | true => exact absurd (HR.out.1 hr) q
      have HFL := Lib.hid hfalse
      clear hfalse
      by_cases qa : a2 = -1
      · have e1 : xa = -1 := by rw [← HXA.out]; exact if_pos qa
        subst e1
        by_cases qb : b2 = -1
        · have e2 : xb = -1 := by rw [← HXB.out]; exact if_pos qb
          subst e2
          have hr : r = (a1 == b1) := by
            by_cases q : a1 = b1
            · rw [HR.out.2 ⟨q, by omega⟩]; simp [q]
            · rw [HFL.out (fun k => q k.1)]; simp [q]
          have HRR := Lib.hid hr
          clear hn qa qb hr HR HFL HXA HXB HNA HNB
          go_wp2_with fail
          go_ret
          exact ⟨by rw [HRD.out, HRR.out]; rfl, HF.out⟩
        · have e2 : ((-1 : Int) == xb) = false := by
            rw [beq_eq_false_iff_ne]
            intro e
            exact qb ((HNB.out.1 (by omega)))
          have hr : r = false := HFL.out (fun k => by omega)
          have HRR := Lib.hid hr
          clear hn qa qb hr HR HFL HXA HXB HNA HNB
          go_wp2_with fail
          go_ret
          exact ⟨by rw [HRD.out, HRR.out]; rfl, HF.out⟩
      · have qb : b2 = -1 := hn.resolve_left qa
        have e2 : xb = -1 := by rw [← HXB.out]; exact if_pos qb
        subst e2
        have h0 : decide (xa < 0) = false := by
          rw [decide_eq_false_iff_not]
          intro q
          exact qa (HNA.out.1 q)
        have e1 : (xa == (-1 : Int)) = false := by
          rw [beq_eq_false_iff_ne]
          intro e
          exact qa (HNA.out.1 (by omega))
        have hr : r = false := HFL.out (fun k => by omega)
        have HRR := Lib.hid hr
        clear hn qa qb hr HR HFL HXA HXB HNA HNB
        go_wp2_with fail
        go_ret
        exact ⟨by rw [HRD.out, HRR.out]; rfl, HF.out⟩
    · obtain ⟨m1, rfl, hs1⟩ := chk_dart HA.out (fun q => hn (Or.inl q))
      obtain ⟨m2, rfl, hs2⟩ := chk_dart HB.out (fun q => hn (Or.inr q))
      have e1 : xa = ((nxt L m1 : Nat) : Int) := by rw [← HXA.out, atC_nat]
      have e2 : xb = ((nxt L m2 : Nat) : Int) := by rw [← HXB.out, atC_nat]
      subst e1 e2
      have hss : decide (sameC L E (a1, (m1 : Int)) (b1, (m2 : Int))) = decide (nxt L m2 ∈ orb L E (nxt L m1)) := by
        rw [Bool.eq_iff_iff, decide_eq_true_iff, decide_eq_true_iff]
        unfold sameC
        rw [atC_nat, atC_nat, if_neg (by omega), Int.toNat_natCast, Int.toNat_natCast]
      have HSS := Lib.hid hss
      have hst := hg.toWF.nxt_stands hs1
      have HWK := Lib.hid (fun W (hk : Keeps (fun _ => False) w0 W) => rwalk (HLS.out W hk) hg hV hE hst)
      have hol : (orb L E (nxt L m1)).length ≤ 2 * E := by rw [orb_length]; exact (per_le hg hst).1
      unfold DsPost rval at HWK
      clear hn hs1 hs2 hst hss hg HA HB HXA HXB HNA HNB HLS
      generalize orb L E (nxt L m1) = R at *
      generalize nxt L m1 = x at *
      generalize nxt L m2 = y at *
      have hx0 : decide (((x : Nat) : Int) < 0) = false := by simp
      have hy0 : decide (((y : Nat) : Int) < 0) = false := by simp
      go_wp2_with fail
      with_reducible refine (HWK.out _ H6.out).mono ?_
      rintro e w7 ⟨v7, rfl, hro, hk⟩
      obtain ⟨a7, c7, rfl, hrd, _⟩ := Rd.of_own hro
      have HR7 := Lib.hid hrd
      have H7 := Lib.hid (HF.out.trans' hk)
      clear hro hrd hk HWK H6 HF x0 x1 y0 y1 z0 z1
      go_wp2_with fail
      go_loopw [10] (fun i wr => ∃ (k : Nat), k ≤ R.length ∧ i = .int .i64 (k : Int) ∧ Hid (Keeps (fun _ => False) w7 wr ∧ y ∉ R.take k)) (fun i _ => R.length - (intOf i).toNat)
      case atStart => exact ⟨0, Nat.zero_le _, rfl, Lib.hid ⟨Keeps.refl _ _, by simp⟩⟩
      case round =>
        obtain ⟨k, hkR, rfl, HK⟩ := hrel
        by_cases hlt : k < R.length
        · obtain ⟨b8, o8, rfl, hc⟩ := (HR7.out.keep HK.out.1).nat hlt
          have HT := Lib.hid (take_next hlt)
          have hm := Lib.hid (getD_mem hlt)
          generalize R.getD k 0 = z at *
          by_cases hq : z = y
          · subst hq
            have hb : ((z : Int) == (z : Int)) = true := by simp
            have HM : Hid (true = decide (z ∈ R)) := Lib.hid (decide_eq_true hm.out).symm
            have HKF := Lib.hid (H7.out.trans' HK.out.1)
            clear HK HT hm
            go_wp2_with fail
            go_ret
            exact ⟨by rw [HSS.out, ← HM.out]; rfl, HKF.out⟩
          · have hb : ((z : Int) == (y : Int)) = false := by rw [beq_eq_false_iff_ne]; omega
            have HK2 : Hid (Keeps (fun _ => False) w7 wr ∧ y ∉ R.take (k + 1)) := Lib.hid ⟨HK.out.1, by
              rw [HT.out, List.mem_append]
              rintro (q | q)
              · exact HK.out.2 q
              · exact hq (List.mem_singleton.1 q).symm⟩
            clear HK HT hm
            go_wp2_with fail
            exact ⟨⟨k + 1, hlt, by simp, HK2⟩, by simp [intOf]; omega⟩
        · obtain rfl : k = R.length := by omega
          have HM : Hid (false = decide (y ∈ R)) := Lib.hid (by have := HK.out.2; rw [List.take_length] at this; exact (decide_eq_false this).symm)
          have HKF := Lib.hid (H7.out.trans' HK.out.1)
          clear HK
          go_wp2_with fail
          go_ret
          exact ⟨by rw [HSS.out, ← HM.out]; rfl, HKF.out⟩
end
/-- The groups that edges below a bound make. -/
def grpN (L : List (List Nat)) : Nat → List Nat
  | 0 => aloneG L.length
  | e + 1 => if Stands L (2 * e) then joinG (grpN L e) (vtx L (2 * e)) (vtx L (2 * e + 1)) else grpN L e
def grp (L : List (List Nat)) (E : Nat) : List Nat := grpN L E
/-- .. as the document makes them, dart by dart. -/
def grpS (L : List (List Nat)) (g : List Nat) (d : Nat) : List Nat := if d % 2 = 0 then joinG g (vtx L d) (vtx L (d + 1)) else g
section
variable {E : Nat} {L : List (List Nat)}
theorem grpN_length (n : Nat) : (grpN L n).length = L.length := by
  induction n with
  | zero => simp [grpN, aloneG]
  | succ n ih =>
    rw [grpN]; split
    · rw [join_length, ih]
    · exact ih
theorem grpN_ok (h : Good E L) : ∀ n, GOk L.length (grpN L n)
  | 0 => alone_ok _
  | n + 1 => by
    rw [grpN]; split
    · rename_i hs
      exact join_ok (grpN_ok h n) (h.toWF.vtx_lt hs) (h.toWF.vtx_lt ((h.pair n).2 hs))
    · exact grpN_ok h n
theorem grp_ok (h : Good E L) : GOk L.length (grp L E) := grpN_ok h E
theorem grp_darts (h : Good E L) : ∀ n, (dartsN L (2 * n)).foldl (grpS L) (aloneG L.length) = grpN L n
  | 0 => rfl
  | n + 1 => by
    rw [show 2 * (n + 1) = 2 * n + 1 + 1 by omega, dartsN_step, dartsN_step, grpN]
    by_cases hs : Stands L (2 * n)
    · have h1 : Stands L (2 * n + 1) := (h.pair n).2 hs
      rw [if_pos hs, if_pos h1, if_pos hs, List.foldl_append, List.foldl_append, grp_darts h n]
      simp only [List.foldl_cons, List.foldl_nil]
      rw [show grpS L (grpN L n) (2 * n) = joinG (grpN L n) (vtx L (2 * n)) (vtx L (2 * n + 1)) by unfold grpS; rw [if_pos (by omega)]]
      unfold grpS
      rw [if_neg (by omega)]
    · have h1 : ¬ Stands L (2 * n + 1) := fun q => hs ((h.pair n).1 q)
      rw [if_neg hs, if_neg h1, if_neg hs, grp_darts h n]
/-- What edges hang together. -/
inductive Hang (L : List (List Nat)) : Nat → Nat → Prop
  | refl (v : Nat) : Hang L v v
  | edge {u : Nat} (e : Nat) : Stands L (2 * e) → Hang L u (vtx L (2 * e)) → Hang L u (vtx L (2 * e + 1))
  | back {u : Nat} (e : Nat) : Stands L (2 * e) → Hang L u (vtx L (2 * e + 1)) → Hang L u (vtx L (2 * e))
theorem Hang.trans {u v x : Nat} (h : Hang L u v) (k : Hang L v x) : Hang L u x := by
  induction k with
  | refl => exact h
  | edge e hs _ ih => exact .edge e hs ih
  | back e hs _ ih => exact .back e hs ih
theorem Hang.symm {u v : Nat} (h : Hang L u v) : Hang L v u := by
  induction h with
  | refl => exact .refl _
  | edge e hs _ ih => exact Hang.trans (.back e hs (.refl _)) ih
  | back e hs _ ih => exact Hang.trans (.edge e hs (.refl _)) ih
theorem grpN_hang (h : Good E L) : ∀ n u v, u < L.length → v < L.length → (grpN L n).getD u 0 = (grpN L n).getD v 0 → Hang L u v
  | 0, u, v, hu, hv, q => by
    rw [grpN, alone_get hu, alone_get hv] at q
    rw [q]; exact .refl _
  | n + 1, u, v, hu, hv, q => by
    rw [grpN] at q
    split at q
    · rename_i hs
      have ha := h.toWF.vtx_lt hs
      have hb := h.toWF.vtx_lt ((h.pair n).2 hs)
      have hab : Hang L (vtx L (2 * n)) (vtx L (2 * n + 1)) := .edge n hs (.refl _)
      rcases (join_same (grpN_ok h n) hu hv).1 q with q | ⟨q1, q2⟩
      · exact grpN_hang h n u v hu hv q
      · have h1 : Hang L u (vtx L (2 * n)) := q1.elim (fun q => grpN_hang h n _ _ hu ha q) (fun q => (grpN_hang h n _ _ hu hb q).trans hab.symm)
        have h2 : Hang L v (vtx L (2 * n)) := q2.elim (fun q => grpN_hang h n _ _ hv ha q) (fun q => (grpN_hang h n _ _ hv hb q).trans hab.symm)
        exact h1.trans h2.symm
    · exact grpN_hang h n u v hu hv q
theorem grpN_keeps (h : Good E L) {u v n : Nat} (hu : u < L.length) (hv : v < L.length) (q : (grpN L n).getD u 0 = (grpN L n).getD v 0) : ∀ k, (grpN L (n + k)).getD u 0 = (grpN L (n + k)).getD v 0
  | 0 => q
  | k + 1 => by
    have ih := grpN_keeps h hu hv q k
    rw [← Nat.add_assoc, grpN]
    split
    · exact (join_same (grpN_ok h _) hu hv).2 (Or.inl ih)
    · exact ih
theorem grp_edge (h : Good E L) {e : Nat} (hs : Stands L (2 * e)) : (grp L E).getD (vtx L (2 * e)) 0 = (grp L E).getD (vtx L (2 * e + 1)) 0 := by
  have he : e + 1 ≤ E := by have := h.toWF.bdS hs; omega
  have ha := h.toWF.vtx_lt hs
  have hb := h.toWF.vtx_lt ((h.pair e).2 hs)
  have h0 : (grpN L (e + 1)).getD (vtx L (2 * e)) 0 = (grpN L (e + 1)).getD (vtx L (2 * e + 1)) 0 := by
    rw [grpN, if_pos hs]
    exact (join_same (grpN_ok h e) ha hb).2 (Or.inr ⟨Or.inl rfl, Or.inr rfl⟩)
  have := grpN_keeps h ha hb h0 (E - (e + 1))
  rwa [show e + 1 + (E - (e + 1)) = E by omega] at this
theorem grp_iff (h : Good E L) {u v : Nat} (hu : u < L.length) (hv : v < L.length) : (grp L E).getD u 0 = (grp L E).getD v 0 ↔ Hang L u v := by
  refine ⟨grpN_hang h E u v hu hv, fun k => ?_⟩
  clear hu hv
  induction k with
  | refl => rfl
  | edge e hs _ ih => exact ih.trans (grp_edge h hs)
  | back e hs _ ih => exact ih.trans (grp_edge h hs).symm
/-- Lists that tell one partition are one. -/
theorem gok_ext {n : Nat} {g k : List Nat} (hg : GOk n g) (hk : GOk n k) (h : ∀ u v, u < n → v < n → (g.getD u 0 = g.getD v 0 ↔ k.getD u 0 = k.getD v 0)) : g = k := by
  apply List.ext_getElem?
  intro v
  by_cases hv : v < n
  · have e : g.getD v 0 = k.getD v 0 := by
      have h1 := (h v (g.getD v 0) hv (hg.lt hv)).1 (hg.fix v hv).symm
      have h2 := (h v (k.getD v 0) hv (hk.lt hv)).2 (hk.fix v hv).symm
      have h3 := hk.le _ (hg.lt hv)
      have h4 := hg.le _ (hk.lt hv)
      rw [← h1] at h3
      rw [← h2] at h4
      omega
    rw [List.getD_eq_getElem?_getD, List.getD_eq_getElem?_getD] at e
    rw [List.getElem?_eq_getElem (by rw [hg.len]; exact hv), List.getElem?_eq_getElem (by rw [hk.len]; exact hv)] at e ⊢
    simpa using e
  · rw [List.getElem?_eq_none (by rw [hg.len]; omega), List.getElem?_eq_none (by rw [hk.len]; omega)]
end
end Go.Proofs.YtdplphhlclhmfaaDoor
