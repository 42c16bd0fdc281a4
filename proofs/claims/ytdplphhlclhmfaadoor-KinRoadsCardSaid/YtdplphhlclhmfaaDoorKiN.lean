/- The document's Bridge, Bridges. -/
import Derived.Test.YtdplphhlclhmfaaDoorKiM
namespace Go.Proofs.YtdplphhlclhmfaaDoor
open Go Go.RowKit
set_option linter.unusedVariables false
set_option linter.unusedSimpArgs false
set_option maxRecDepth 100000

/-- The bridges, dart by dart. -/
def brD (L : List (List Nat)) (E : Nat) (D : List Nat) : List Nat := (D.filter fun d => decide (d % 2 = 0) && isBr L E (d / 2)).map (· / 2)
theorem brD_all {L : List (List Nat)} {E : Nat} (hg : Good E L) : brD L E (dartsN L (2 * E)) = brl L E := by
  refine sorted_ext ?_ (brl_lt L E) fun x => ?_
  · unfold brD dartsN
    rw [List.filter_filter]
    refine List.pairwise_map.2 ?_
    refine (List.Pairwise.filter _ (List.pairwise_lt_range (n := 2 * E))).imp_of_mem ?_
    intro a b ha hb h
    have h1 := (List.mem_filter.1 ha).2
    have h2 := (List.mem_filter.1 hb).2
    simp only [Bool.and_eq_true, decide_eq_true_eq] at h1 h2
    omega
  · rw [brl_mem hg, ← isBr_iff hg]
    unfold brD
    rw [List.mem_map]
    constructor
    · rintro ⟨d, hd, rfl⟩
      have := (List.mem_filter.1 hd).2
      rw [Bool.and_eq_true] at this
      exact this.2
    · intro hx
      refine ⟨2 * x, List.mem_filter.2 ⟨(mem_darts hg.toWF).2 ((isBr_iff hg x).1 hx).1, ?_⟩, by omega⟩
      rw [show 2 * x / 2 = x by omega, hx]
      simp
theorem brD_snoc (L : List (List Nat)) (E : Nat) (D : List Nat) (d : Nat) : brD L E (D ++ [d]) = if d % 2 = 0 ∧ isBr L E (d / 2) = true then brD L E D ++ [d / 2] else brD L E D := by
  unfold brD
  rw [List.filter_append, List.map_append]
  by_cases h : d % 2 = 0 ∧ isBr L E (d / 2) = true
  · rw [if_pos h]; simp [h.1, h.2]
  · rw [if_neg h]
    have : (decide (d % 2 = 0) && isBr L E (d / 2)) = false := by
      rw [Bool.and_eq_false_iff]
      by_cases q : d % 2 = 0
      · right; cases hh : isBr L E (d / 2) with
        | false => rfl
        | true => exact absurd ⟨q, hh⟩ h
      · left; simp [q]
    simp [this]
section
variable {w : World} {B E : Nat} {v : Value} {L : List (List Nat)}
set_option maxHeartbeats 4000000 in
theorem rbridge (h : LsRow w B v L) (hg : Good E L) (h0 : 0 < L.length) (hV : L.length ≤ 1048576) (hE : E ≤ 1048576) {e : Nat} (hs : Stands L (2 * e)) :
    Calls Tryd.prog 33 #[rval E v, .int .i64 (e : Int)] w (RetPost (.bool (isBr L E e)) w) := by
  obtain ⟨va, vc, rfl⟩ := h.form
  generalize hW : w.alloc (.cells #[.int .i64 (E : Int), .slice va L.length vc] 27) = w0
  have hK0 : Keeps (fun _ => False) w w0 := by rw [← hW]; exact (Keeps.refl _ _).alloc _
  have HB : Hid (Blk w0 w.heap.size #[.int .i64 (E : Int), .slice va L.length vc] 27) := by rw [← hW]; exact Lib.hid (Blk.new _ _ _)
  have HK0 := Lib.hid hK0
  have HF : Hid (∀ W, Keeps (fun _ => False) w0 W → ∀ d : Nat, Stands L d → Calls Tryd.prog 32 #[rval E (.slice va L.length vc), .int .i64 (d : Int)] W (RetPost (.tuple #[.int .i64 (vtx L d : Nat), .int .i64 (pos L d : Nat)]) W)) := Lib.hid fun W hk d hs => by
    have := rfind ((h.keep hK0).keep hk) hg.toWF h0 hV hE (d : Int)
    rw [(fndV_at hg.toWF hs).1, (fndV_at hg.toWF hs).2] at this
    exact this
  have hs1 : Stands L (2 * e + 1) := (hg.pair e).2 hs
  have hbd := hg.toWF.bdS hs
  have hle : liftErr E L (e : Int) = 0 := by unfold liftErr; rw [if_neg (by omega), Int.toNat_natCast, if_pos hs]
  have hli : lift E L (e : Int) = liftL L e := by unfold lift; rw [if_pos hle, Int.toNat_natCast]
  have HL : Hid (∀ W, Keeps (fun _ => False) w0 W → Calls Tryd.prog 60 #[rval E (.slice va L.length vc), .int .i64 (e : Int)] W (RLPost E B (liftL L e) (0 : Nat) W)) := Lib.hid fun W hk => by
    have := rlift ((h.keep hK0).keep hk) hg h0 hV hE (e : Int)
    rwa [hle, hli] at this
  have HGR : Hid (∀ W v2, LsRow W B v2 (liftL L e) → Calls Tryd.prog 23 #[rval E v2] W (LstPost (grp (liftL L e) E) W)) := Lib.hid fun W v2 hl => rgroups hl (hg.without e) (by rw [liftL_length]; exact h0) (by rw [liftL_length]; exact hV) hE
  have hF0 := HF.out w0 (Keeps.refl _ _) (2 * e) hs
  have HF1 := Lib.hid (fun W (hk : Keeps (fun _ => False) w0 W) => HF.out W hk (2 * e + 1) hs1)
  have HF0 := Lib.hid hF0
  have hva := hg.toWF.vtx_lt hs
  have hvb := hg.toWF.vtx_lt hs1
  have hlen : (grp (liftL L e) E).length = L.length := by rw [(grp_ok (hg.without e)).len, liftL_length]
  have hw2 : wrap64 (2 * (e : Int)) = ((2 * e : Nat) : Int) := by unfold wrap64; omega
  have hw3 : wrap64 (((2 * e : Nat) : Int) + 1) = ((2 * e + 1 : Nat) : Int) := by unfold wrap64; omega
  have hres : isBr L E e = ((grp (liftL L e) E).getD (vtx L (2 * e)) 0 != (grp (liftL L e) E).getD (vtx L (2 * e + 1)) 0) := by
    unfold isBr
    rw [decide_eq_true hs, Bool.true_and]
  rw [hres]
  obtain ⟨x0, x1, _, _, _⟩ := HB.out.cells
  clear h hg hK0 hF0 HF hs hs1 hbd hle hli hres
  generalize grp (liftL L e) E = gr at *
  generalize vtx L (2 * e) = va1 at *
  generalize vtx L (2 * e + 1) = vb1 at *
  generalize hp1 : 2 * e + 1 = e1 at *
  clear hp1
  generalize 2 * e = e0 at *
  unfold RetPost rval at HF0 HF1
  unfold RLPost rval at HL
  unfold LstPost rval at HGR
  unfold RetPost rval
  go_enter Tryd.func33, Tryd.ntmps33
  go_upto_region 1 with fail
  clear hW
  go_wp2_with fail
  with_reducible refine HF0.out.mono ?_
  rintro e w1 ⟨rfl, hk1⟩
  have HK1 := Lib.hid hk1
  have y0 := hk1.cellF x0
  have y1 := hk1.cellF x1
  clear hk1 HF0 x0 x1
  go_wp2_with fail
  with_reducible refine (HF1.out _ HK1.out).mono ?_
  rintro e w2 ⟨rfl, hk2⟩
  have HK2 := Lib.hid (HK1.out.trans' hk2)
  have x0 := hk2.cellF y0
  have x1 := hk2.cellF y1
  clear hk2 HF1 HK1 y0 y1
  go_wp2_with fail
  with_reducible refine (HL.out _ HK2.out).mono ?_
  rintro e w3 ⟨v3, rfl, hl3, hk3⟩
  have HG3 := Lib.hid fun W hk => HGR.out W v3 (hl3.keep hk)
  obtain ⟨a3, c3, rfl⟩ := hl3.form
  have HK3 := Lib.hid (HK2.out.trans' hk3)
  clear hl3 hk3 HL HGR HK2 x0 x1
  have HK4 : Hid (∀ cs t, Keeps (fun _ => False) w3 (w3.alloc (.cells cs t))) := Lib.hid fun cs t => (Keeps.refl _ _).alloc _
  go_wp2_with fail
  with_reducible refine (HG3.out _ (HK4.out _ _)).mono ?_
  rintro e w5 ⟨a5, c5, rfl, hrd, hk5⟩
  have HK5 := Lib.hid (HK0.out.trans' (HK3.out.trans' ((HK4.out _ _).trans' hk5)))
  obtain ⟨b1, o1, rfl, q1⟩ := hrd.nat (i := va1) (by rw [hlen]; exact hva)
  obtain ⟨b2, o2, e2, q2⟩ := hrd.nat (i := vb1) (by rw [hlen]; exact hvb)
  cases e2
  have hvaI : (va1 : Int) < (gr.length : Int) := by omega
  have hvbI : (vb1 : Int) < (gr.length : Int) := by omega
  clear hk5 hrd HG3 HK3 HK4 HK0 hlen
  have hne : (((gr.getD va1 0 : Nat) : Int) != ((gr.getD vb1 0 : Nat) : Int)) = (gr.getD va1 0 != gr.getD vb1 0) := by
    rw [Bool.eq_iff_iff, bne_iff_ne, bne_iff_ne]; omega
  have HNE := Lib.hid hne
  clear hne
  go_upto_region 5 with fail
  go_region
  all_goals
    go_wp2_with fail
    go_ret
    exact ⟨by rw [← HNE.out]; rfl, HK5.out.drew⟩
theorem brD_len (L : List (List Nat)) (E : Nat) (D : List Nat) : (brD L E D).length ≤ D.length := by
  unfold brD
  rw [List.length_map]
  exact List.length_filter_le _ _
set_option maxHeartbeats 4000000 in
theorem rbridges (h : LsRow w B v L) (hg : Good E L) (h0 : 0 < L.length) (hV : L.length ≤ 1048576) (hE : E ≤ 1048576) :
    Calls Tryd.prog 30 #[rval E v] w (OwnPost (brl L E) w) := by
  obtain ⟨va, vc, rfl⟩ := h.form
  obtain ⟨i0, hi, hz0, hz1, hz2⟩ := info_parts infoI
  generalize hW : w.alloc (.cells #[.int .i64 (E : Int), .slice va L.length vc] 27) = w0
  have hK0 : Keeps (fun _ => False) w w0 := by rw [← hW]; exact (Keeps.refl _ _).alloc _
  have HB : Hid (Blk w0 w.heap.size #[.int .i64 (E : Int), .slice va L.length vc] 27) := by rw [← hW]; exact Lib.hid (Blk.new _ _ _)
  have HK0 := Lib.hid hK0
  have HD := Lib.hid (rdarts (h.keep hK0) hg.toWF h0 hV hE)
  have HBR : Hid (∀ W, Keeps (fun _ => False) w0 W → ∀ e : Nat, Stands L (2 * e) → Calls Tryd.prog 33 #[.agg #[.int .i64 (E : Int), .slice va L.length vc], .int .i64 (e : Int)] W (fun e' w' => e' = .returned (.bool (isBr L E e)) ∧ Keeps (fun _ => False) W w')) := Lib.hid fun W hk e hs => rbridge ((h.keep hK0).keep hk) hg h0 hV hE hs
  have HMEM : Hid (∀ i, i < (dartsN L (2 * E)).length → (dartsN L (2 * E)).getD i 0 < 2 * E ∧ Stands L ((dartsN L (2 * E)).getD i 0)) := fun i hi => by have := getD_mem hi; simpa [dartsN] using this
  have hDl : (dartsN L (2 * E)).length ≤ 2 * E := dartsN_le L (2 * E)
  have HG := Lib.hid hg
  have HEND : Hid (brD L E (dartsN L (2 * E)) = brl L E) := Lib.hid (brD_all hg)
  obtain ⟨x0, x1, _, _, _⟩ := HB.out.cells
  clear h hg hK0
  generalize dartsN L (2 * E) = D at *
  unfold DsPost rval at HD
  unfold OwnPost rval
  go_enter Tryd.func30, Tryd.ntmps30
  go_upto_region 1 with fail
  clear hW
  go_wp2_with fail
  with_reducible refine HD.out.mono ?_
  rintro e w3 ⟨v3, rfl, hro, hk⟩
  obtain ⟨a3, c3, rfl, hrd, _⟩ := Rd.of_own hro
  have HR3 := Lib.hid hrd
  have HK3 := Lib.hid hk
  have HS0 : Hid (w3.ownsRow w3.heap.size 3 1 (.slice none 0 0) (brD L E (D.take 0)).length (nats (brD L E (D.take 0))) ∧ Keeps (fun _ => False) w3 w3) := Lib.hid ⟨World.ownsRow_nil _ _ _ _, Keeps.refl _ _⟩
  clear hro hrd hk HD x0 x1
  go_wp2_with fail
  go_loopg [3, 5] D.length (fun q o i wr => ∃ (j n : Nat) (ga : Option Addr) (gc : Nat), j + q = D.length ∧ i = .int .i64 (j : Int) ∧ o = .slice ga n gc ∧ Hid (n = (brD L E (D.take j)).length ∧ wr.ownsRow w3.heap.size 3 1 o n (nats (brD L E (D.take j))) ∧ Keeps (fun _ => False) w3 wr))
  case atStart => exact ⟨0, 0, none, 0, by omega, rfl, rfl, Lib.hid ⟨rfl, HS0.out.1, HS0.out.2⟩⟩
  case round =>
    obtain ⟨j, n, ga, gc, hj, rfl, rfl, HS⟩ := hrel
    clear HS0
    by_cases hlt : j < D.length
    · obtain ⟨x0, x1, _, _, _⟩ := (HB.out.kept (HK3.out.trans' HS.out.2.2) id).cells
      obtain ⟨b, off, rfl, hc⟩ := (HR3.out.keep HS.out.2.2).nat hlt
      obtain ⟨hdE, hs⟩ := HMEM.out j hlt
      have hst := brD_snoc L E (D.take j) (D.getD j 0)
      rw [← take_next hlt] at hst
      have hjI : (j : Int) < (D.length : Int) := by omega
      have hln := brD_len L E (D.take j)
      rw [← HS.out.1, List.length_take] at hln
      have hn : n ≤ 2097152 := by omega
      clear hln
      generalize hd : D.getD j 0 = d at *
      clear hd
      have hmod : ((d : Int).tmod 2) = ((d % 2 : Nat) : Int) := tmod_two d
      have htd : ((d : Int).tdiv 2) = ((d / 2 : Nat) : Int) := (Int.ofNat_tdiv d 2).symm
      have hwd : IntKind.i64.wrap ((d / 2 : Nat) : Int) = ((d / 2 : Nat) : Int) := kwrap _ (by omega)
      obtain ⟨bb, hbb⟩ : ∃ bb, (decide (d % 2 = 0) && isBr L E (d / 2)) = bb := ⟨_, rfl⟩
      go_upto_region 6 with fail
      go_cut [28] (fun t wd => t = .bool bb ∧ Hid (Keeps (fun _ => False) wr wd))
      case first =>
        have hK : Keeps (fun _ => False) wr wr.drew := (Keeps.refl _ _).drew
        by_cases hev : d % 2 = 0
        · rw [hev] at hmod
          have hz : ((0 : Nat) : Int) = 0 := rfl
          rw [hz] at hmod
          have hst2 : Stands L (2 * (d / 2)) := by rwa [show 2 * (d / 2) = d by omega]
          have HBB := Lib.hid fun W hk => HBR.out W hk (d / 2) hst2
          rw [decide_eq_true hev, Bool.true_and] at hbb
          rw [hbb] at HBB
          clear hst hst2 hev hbb hs hdE HBR
          generalize d / 2 = h2 at *
          go_region_held3 (fun w' => w'.cell? ⟨w.heap.size, 0, none⟩ = some (.int .i64 (E : Int)) ∧ w'.cell? ⟨w.heap.size, 1, none⟩ = some (.slice va L.length vc) ∧ w'.cell? ⟨b, off + j, none⟩ = some (.int .i64 (d : Int)))
            (first | exact ⟨hK.cellF x0, hK.cellF x1, hK.cellF hc⟩ | fail)
            (first
              | (go_at_call 33; have hKK := HK3.out.trans' (HS.out.2.2.trans' hK); with_reducible refine (HBB.out _ hKK).mono ?_; rintro e5 w5 ⟨rfl, hk5⟩; have hK : Keeps (fun _ => False) wr w5 := hK.trans' hk5)
              | fail)
          all_goals
            go_wp2_with fail
            go_meet
            exact ⟨rfl, Lib.hid hK⟩
        · have h1 : d % 2 = 1 := by omega
          rw [h1] at hmod
          have hz : ((1 : Nat) : Int) = 1 := rfl
          rw [hz] at hmod
          obtain rfl : bb = false := by rw [← hbb, decide_eq_false hev, Bool.false_and]
          clear hst hev hbb hs hdE HBR h1
          generalize d / 2 = h2 at *
          go_region
          all_goals
            go_wp2_with fail
            go_meet
            exact ⟨rfl, Lib.hid hK⟩
      case rest =>
        obtain ⟨rfl, HK5⟩ := hcut
        have hc5 := HK5.out.cellF hc
        have HO5 := Lib.hid (ownsRow_kept HS.out.2.1 HK5.out fun _ _ q => q)
        have HKK := Lib.hid (HS.out.2.2.trans' HK5.out)
        have HN := Lib.hid HS.out.1
        clear HS HK5 hc x0 x1
        have hB5 : w3.heap.size ≤ wc.heap.size := HKK.out.size
        cases bb with
        | true =>
          have hcnd : d % 2 = 0 ∧ isBr L E (d / 2) = true := by
            rw [Bool.and_eq_true, decide_eq_true_iff] at hbb
            exact hbb
          rw [if_pos hcnd] at hst
          have HST := Lib.hid hst
          clear hst hbb hcnd hmod hs hdE HBR
          generalize d / 2 = h2 at *
          have hown := HO5.out
          go_wp2_with (first | (at_builtin; refine wpList_app1 rfl _ _ 23 rfl w3.heap.size 3 i0 (.int .i64 0) 1 8 Tryd.underlying23 hi hz0 hz1 hz2 rfl (by decide) _ _ _ rfl hown _ 1 1 [.int .i64 (h2 : Int)] 3 rfl rfl rfl ?c1 ?c2 ?c3 ?c4 ?_))
          case c1 => simp [Value.oneCell']
          case c2 => unfold maxLen; omega
          case c3 => omega
          case c4 => exact hB5
          intro v7 w7 ho hk7 _ _ _
          obtain ⟨g7, c7, rfl, _⟩ := ho.form (Nat.succ_pos _)
          have HNW : Hid (n + 1 = (brD L E (D.take (j + 1))).length ∧ w7.ownsRow w3.heap.size 3 1 (.slice (some ⟨g7, 0, none⟩) (n + 1) c7) (n + 1) (nats (brD L E (D.take (j + 1)))) ∧ Keeps (fun _ => False) w3 w7) := by
            refine Lib.hid ⟨?_, ?_, HKK.out.thin hk7 fun i e => (HO5.out.lt i e).1⟩
            · rw [HST.out, List.length_append, ← HN.out]; rfl
            · rw [HST.out, nats_append]; exact ho
          clear ho hk7 hown HO5 HKK HN HST
          go_wp2_with fail
          go_roundg (gk - 1)
          case measure => omega
          case rel => exact ⟨j + 1, n + 1, _, c7, by omega, by simp, rfl, HNW⟩
        | false =>
          have hcnd : ¬ (d % 2 = 0 ∧ isBr L E (d / 2) = true) := fun q => by
            rw [decide_eq_true q.1, q.2] at hbb
            cases hbb
          rw [if_neg hcnd] at hst
          have HNW : Hid (n = (brD L E (D.take (j + 1))).length ∧ wc.ownsRow w3.heap.size 3 1 (.slice ga n gc) n (nats (brD L E (D.take (j + 1)))) ∧ Keeps (fun _ => False) w3 wc) := Lib.hid ⟨by rw [hst]; exact HN.out, by rw [hst]; exact HO5.out, HKK.out⟩
          clear hst hbb hcnd hmod hs hdE HBR HO5 HKK HN
          go_wp2_with fail
          go_roundg (gk - 1)
          case measure => omega
          case rel => exact ⟨j + 1, n, _, gc, by omega, by simp, rfl, HNW⟩
    · obtain rfl : j = D.length := by omega
      rw [List.take_length, HEND.out] at HS
      obtain ⟨hn, ho, hk⟩ := HS.out
      have HF : Hid (wr.ownsRow w.heap.size 3 1 (.slice ga n gc) (brl L E).length (nats (brl L E)) ∧ Keeps (fun _ => False) w wr) := Lib.hid ⟨by rw [← hn]; exact owns_low ho (HK0.out.trans' HK3.out).size, (HK0.out.trans' HK3.out).trans' hk⟩
      clear HS hn ho hk
      go_wp2_with fail
      go_ret
      exact ⟨_, rfl, HF.out⟩
end
end Go.Proofs.YtdplphhlclhmfaaDoor
