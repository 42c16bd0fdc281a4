/- Chapter 11's laws: FaceOnce. -/
import Derived.Test.YtjmkejkhpdhhbaaDoorFlM
import Derived.Test.YtjmkejkhpdhhbaaDoorFlS
namespace Go.Proofs.YtjmkejkhpdhhbaaDoor
open Go Go.RowKit
set_option linter.unusedVariables false
set_option linter.unusedSimpArgs false
set_option maxRecDepth 100000

section
variable {E : Nat} {L : List (List Nat)}
theorem faces_at {u : Nat} {l : List Nat} (h : (faces L E)[u]? = some l) : ∃ m, ((List.range (2 * E)).filter (least L E))[u]? = some m ∧ l = orb L E m ∧ least L E m = true := by
  unfold faces facesN at h
  rw [List.getElem?_map] at h
  cases hm : ((List.range (2 * E)).filter (least L E))[u]? with
  | none => rw [hm] at h; cases h
  | some m =>
    rw [hm] at h
    cases h
    exact ⟨m, rfl, rfl, (List.mem_filter.1 (List.mem_iff_getElem?.2 ⟨u, hm⟩)).2⟩
theorem faces_nodup (h : Good E L) : (faces L E).flatten.Nodup := by
  refine nodup_of (fun u l hu => ?_) fun u v l m d hu hv hl hm => ?_
  · obtain ⟨x, _, rfl, hx⟩ := faces_at hu
    exact orb_nodup h (least_iff.1 hx).1
  · obtain ⟨x, hxa, rfl, hx⟩ := faces_at hu
    obtain ⟨y, hya, rfl, hy⟩ := faces_at hv
    obtain ⟨hxs, hxl⟩ := least_iff.1 hx
    obtain ⟨hys, hyl⟩ := least_iff.1 hy
    have h1 : y ∈ orb L E x := orb_trans h hxs hl (orb_symm h hys hm)
    have h2 := orb_symm h hxs h1
    have e : x = y := Nat.le_antisymm (hxl y h1) (hyl x h2)
    subst e
    have hnd : ((List.range (2 * E)).filter (least L E)).Nodup := List.Nodup.sublist List.filter_sublist List.nodup_range
    exact nd_inj hnd hxa hya
theorem mem_faces (h : Good E L) {d : Nat} : d ∈ (faces L E).flatten ↔ Stands L d := by
  unfold faces
  rw [mem_facesN]
  constructor
  · rintro ⟨m, _, h2, h3⟩
    exact orb_stands h (least_iff.1 h2).1 h3
  · intro hs
    obtain ⟨m, hm, _, hl, hb⟩ := orb_least h hs
    exact ⟨m, h.toWF.bdS (orb_stands h hs hm), hl, hb⟩
theorem orb_len_eq (h : Good E L) {d m : Nat} (hm : Stands L m) (hd : d ∈ orb L E m) : (orb L E d).length = (orb L E m).length := by
  have hds := orb_stands h hm hd
  refine (perm_mem (orb_nodup h hds) (orb_nodup h hm) fun x => ⟨fun q => orb_trans h hm hd q, fun q => orb_trans h hds (orb_symm h hm hd) q⟩).length_eq
/-- What was seen before. -/
def preN (F : List (List Nat)) (i k : Nat) : List Nat := (F.take i).flatten ++ (F.getD i []).take k
theorem preN_zero (F : List (List Nat)) : preN F 0 0 = [] := by simp [preN]
theorem preN_row {F : List (List Nat)} {i : Nat} {l : List Nat} (h : F[i]? = some l) : preN F i l.length = preN F (i + 1) 0 := by
  unfold preN
  rw [getD_some h, List.take_length, List.take_add_one, h]; simp
theorem preN_step {F : List (List Nat)} {i k : Nat} {l : List Nat} (h : F[i]? = some l) (hk : k < l.length) : preN F i (k + 1) = preN F i k ++ [l.getD k 0] := by
  unfold preN
  rw [getD_some h, take_next hk, List.append_assoc]
theorem preN_all (F : List (List Nat)) : preN F F.length 0 = F.flatten := by simp [preN]
theorem preN_fresh {F : List (List Nat)} (hn : F.flatten.Nodup) {i k : Nat} {l : List Nat} (h : F[i]? = some l) (hk : k < l.length) : l.getD k 0 ∉ preN F i k := by
  intro q
  have hlt := (List.getElem?_eq_some_iff.1 h).1
  have e : F.flatten = preN F i k ++ (l.getD k 0 :: (l.drop (k + 1) ++ (F.drop (i + 1)).flatten)) := by
    have h1 : F = F.take i ++ l :: F.drop (i + 1) := by
      conv => lhs; rw [← List.take_append_drop i F]
      rw [List.drop_eq_getElem_cons hlt, (List.getElem?_eq_some_iff.1 h).2]
    have h2 : l = l.take k ++ l.getD k 0 :: l.drop (k + 1) := by
      conv => lhs; rw [← List.take_append_drop k l]
      rw [List.drop_eq_getElem_cons hk, getD_at hk]
    conv => lhs; rw [h1]
    rw [List.flatten_append, List.flatten_cons]
    unfold preN
    rw [getD_some h]
    conv => lhs; rw [h2]
    simp
  rw [e] at hn
  exact (List.nodup_append.1 hn).2.2 _ q _ List.mem_cons_self rfl
end
/-- Darts that were counted. -/
def cntV (P : List Nat) : List Value := (List.range 16).map fun d => Value.int .i64 (if d ∈ P then 1 else 0)
theorem cntV_get {P : List Nat} {d : Nat} (h : d < 16) : (cntV P)[d]? = some (.int .i64 (if d ∈ P then 1 else 0)) := by simp [cntV, h]
theorem cntV_set (P : List Nat) (d : Nat) : (cntV P).toArray.setIfInBounds d (.int .i64 1) = (cntV (P ++ [d])).toArray := by
  apply Array.ext_getElem?
  intro i
  rw [Array.getElem?_setIfInBounds]
  have hsz : (cntV P).toArray.size = 16 := by simp [cntV]
  by_cases e : d = i
  · subst e
    rw [if_pos rfl]
    by_cases hd : d < 16
    · rw [if_pos (by rw [hsz]; exact hd), List.getElem?_toArray, cntV_get hd, if_pos (by simp)]
    · rw [if_neg (by rw [hsz]; exact hd), List.getElem?_toArray]
      simp [cntV, hd]
  · rw [if_neg e, List.getElem?_toArray, List.getElem?_toArray]
    by_cases hi : i < 16
    · rw [cntV_get hi, cntV_get hi]
      have : (i ∈ P ++ [d]) ↔ i ∈ P := by simp [Ne.symm e]
      simp only [this]
    · simp [cntV, hi]
theorem zeros_I : madeCells #[.int .i64 0] 16 = (cntV []).toArray := by
  rw [madeCells_one]
  congr 1
theorem tdiv_two (d : Nat) : ((d : Int).tdiv 2) = ((d / 2 : Nat) : Int) := (Int.ofNat_tdiv d 2).symm
theorem stands_two {E : Nat} {L : List (List Nat)} (h : Good E L) (d : Nat) : Stands L (2 * (d / 2)) ↔ Stands L d := by
  have := h.pair (d / 2)
  by_cases hd : d % 2 = 1
  · rw [← this, show 2 * (d / 2) + 1 = d by omega]
  · rw [show 2 * (d / 2) = d by omega]
theorem fndV_s {L : List (List Nat)} {d : Nat} (h : Stands L d) : fndV L d = (vtx L d : Int) := by unfold fndV; rw [Int.toNat_natCast, if_pos ⟨by omega, h⟩]
theorem fndV_n {L : List (List Nat)} {d : Nat} (h : ¬ Stands L d) : fndV L d = -1 := by unfold fndV; rw [Int.toNat_natCast, if_neg fun q => h q.2]
set_option maxHeartbeats 8000000 in
theorem faceOnce_walk (n : Int) (a : Option Addr) (c : Nat) (ls : List Act10) (w : World) (hE : ErrT w) (hz : Rd w a (actsV ls)) (hzl : ls.length ≤ 9223372036854775807) :
    Calls Tryd.prog 10 #[.int .i64 n, .slice a ls.length c] w (TruePost w) := by
  have HM := Lib.hid (made11 n a c ls w hE hz hzl)
  clear hE hz
  have HSU := Lib.hid (fun W => sure11 W)
  obtain ⟨ib, hib, hb0, hb1, hb2⟩ := info_parts infoI
  have hmkI : ∀ W, (Instr.makeSlice 47 (.int .i64 16) (.int .i64 16)).run Tryd.prog W = .ok (.slice (some ⟨W.heap.size, 0, none⟩) 16 16) (W.alloc (.cells (cntV []).toArray 3)) := fun W => by
    have := run_make (P := Tryd.prog) W 47 3 ib _ Tryd.underlying47 hib hb0 .i64 .i64 16 16 (by omega) (Int.le_refl _) (by rw [hb2]; omega) (by omega)
    rw [this, hb1, show (Value.int .i64 0).cells = #[.int .i64 0] from rfl, show (16 : Int).toNat = 16 by rfl, Nat.mul_one, zeros_I]
  clear hib hb0 hb1 hb2
  unfold TruePost at HSU
  unfold MadePost tptr rval at HM
  unfold TruePost
  go_enter Tryd.func10, Tryd.ntmps10
  go_wp2_with fail
  with_reducible refine HM.out.mono ?_
  rintro e w1 ⟨L, p, own, B, va, vc, rfl, hl1, hl6, hb⟩
  have hbx : BothAt w own p 8 B L (.slice va L.length vc) (w1.alloc (.cells #[.int .i64 8, .slice va L.length vc] 32)) := hb.keep ((Keeps.refl _ _).alloc _)
  have HB := Lib.hid hbx
  have HX : Hid (Blk (w1.alloc (.cells #[.int .i64 8, .slice va L.length vc] 32)) w1.heap.size #[.int .i64 8, .slice va L.length vc] 32) := Lib.hid (Blk.new _ _ _)
  clear hb hbx HM
  go_upto_region 2 with fail
  generalize w1.alloc _ = w2 at *
  generalize w1.heap.size = bx at *
  have HM0 : Hid (Blk (w2.alloc (.cells (cntV []).toArray 3)) w2.heap.size (cntV []).toArray 3 ∧ Keeps (fun _ => False) w2 (w2.alloc (.cells (cntV []).toArray 3)) ∧ w2.heap.size < (w2.alloc (.cells (cntV []).toArray 3)).heap.size) := Lib.hid ⟨Blk.new _ _ _, (Keeps.refl _ _).alloc _, by rw [size_alloc]; exact Nat.lt_succ_self _⟩
  go_upto_region 5 with fail
  clear hmkI
  generalize w2.alloc _ = w3 at *
  generalize hsb : w2.heap.size = sb at *
  have HSB := Lib.hid hsb
  clear hsb
  have h8 : ((8 : Nat) : Int) = 8 := rfl
  have HG := Lib.hid HB.out.good
  have HKB := Lib.hid HB.out.kp
  have HFD := Lib.hid (fun W (hk : Keeps (fun _ => False) w2 W) (d : Nat) => rfind (HB.out.ls.keep hk) HB.out.good.toWF hl1 (by omega) (by decide) ((d : Nat) : Int))
  have HTA := Lib.hid (fun W (hk : Keeps (fun _ => False) w2 W) => fall (HB.out.tu.keep hk) HB.out.good)
  have HTW := Lib.hid (fun W (hk : Keeps (fun _ => False) w2 W) (m : Nat) (hs : Stands L m) => fwalk (HB.out.tu.keep hk) HB.out.good hs)
  have HTH := Lib.hid (fun W (hk : Keeps (fun _ => False) w2 W) (x : Nat) => thas (HB.out.tu.keep hk) ((x : Nat) : Int))
  clear HB
  unfold rval RetPost at HFD
  unfold tptr AllPost at HTA
  unfold tptr LPost at HTW
  unfold tptr RetPost at HTH
  simp only [h8, errVal_zero] at HFD HTW
  have hFl : (faces L 8).length ≤ 16 := facesN_le _
  have HND := Lib.hid (faces_nodup HG.out)
  have HMF : Hid (∀ d, d ∈ (faces L 8).flatten ↔ Stands L d) := Lib.hid fun d => mem_faces HG.out
  have HROW : Hid (∀ (i : Nat) (l : List Nat), (faces L 8)[i]? = some l → 0 < l.length ∧ l.length ≤ 16 ∧ ∀ k, k < l.length → Stands L (l.getD k 0) ∧ l.getD k 0 < 16 ∧ l.getD 0 0 ≤ l.getD k 0 ∧ (orb L 8 (l.getD k 0)).length = l.length) := Lib.hid fun i l hl => by
    obtain ⟨m, _, rfl, hm⟩ := faces_at hl
    obtain ⟨hs, hle⟩ := least_iff.1 hm
    have hp := (per_le HG.out hs).1
    refine ⟨by rw [orb_length]; exact Nat.succ_pos _, by rw [orb_length]; exact hp, fun k hk => ?_⟩
    have hmem := getD_mem hk
    have hst := orb_stands HG.out hs hmem
    refine ⟨hst, HG.out.toWF.bdS hst, ?_, orb_len_eq HG.out hs hmem⟩
    have e : (orb L 8 m).getD 0 0 = m := orb_get (k := 0) (Nat.succ_pos _)
    rw [e]
    exact hle _ hmem
  generalize faces L 8 = F at *
  go_wp2_with fail
  with_reducible refine (HTA.out w3 HM0.out.2.1).mono ?_
  rintro e w4 ⟨v4, rfl, hrs, hk⟩
  obtain ⟨a4, c4, rfl⟩ := hrs.rows.form
  have HRS := Lib.hid hrs
  have H0 : Hid (Blk w4 sb (cntV (preN F 0 0)).toArray 3 ∧ Keeps (fun q => q = sb) w4 w4) := Lib.hid ⟨by rw [preN_zero]; exact HM0.out.1.kept hk id, Keeps.refl _ _⟩
  have HK4 := Lib.hid (HM0.out.2.1.trans' hk)
  have HLT : Hid (sb < w3.heap.size) := Lib.hid HM0.out.2.2
  clear hrs hk HTA HM0
  have HKK : Hid (∀ W, Keeps (fun q => q = sb) w4 W → Keeps (fun _ => False) w2 W) := Lib.hid fun W hk => HK4.out.thin hk fun q e => by have := HSB.out; omega
  have HRR : Hid (∀ W, Keeps (fun q => q = sb) w4 W → NRows W (.slice a4 F.length c4) F) := Lib.hid fun W hk => (HRS.out.kept hk fun q e => by have := HLT.out; omega).rows
  clear HRS HK4 HLT HSB
  go_wp2_with fail
  go_loopw [10] (fun i wr => ∃ (j : Nat), j ≤ F.length ∧ i = .int .i64 (j : Int) ∧ Hid (Blk wr sb (cntV (preN F j 0)).toArray 3 ∧ Keeps (fun q => q = sb) w4 wr)) (fun i _ => F.length - (intOf i).toNat)
  case atStart => exact ⟨0, Nat.zero_le _, rfl, H0⟩
  case round =>
    obtain ⟨j, hj, rfl, HS⟩ := hrel
    clear H0
    by_cases hlt : j < F.length
    · as_aux_lemma =>
      obtain ⟨l, hl⟩ : ∃ l, F[j]? = some l := ⟨_, List.getElem?_eq_getElem hlt⟩
      obtain ⟨hlp, hl16, hrow⟩ := HROW.out j l hl
      have HLM := Lib.hid hl
      have HRW := Lib.hid hrow
      obtain ⟨b5, o5, A5, C5, rfl, q5, hr5⟩ := (HRR.out _ HS.out.2).at_ hl
      have hl0 : ((l.length : Int) == 0) = false := by rw [beq_eq_false_iff_ne]; omega
      have hn1 : j + 1 ≤ F.length := hlt
      clear hl hrow hr5
      go_wp2_with fail
      go_loopw [11] (fun i wx => ∃ (k : Nat), k ≤ l.length ∧ i = .int .i64 (k : Int) ∧ Hid (Blk wx sb (cntV (preN F j k)).toArray 3 ∧ Keeps (fun q => q = sb) w4 wx)) (fun i _ => l.length - (intOf i).toNat)
      case atStart => exact ⟨0, Nat.zero_le _, rfl, HS⟩
      case round =>
        obtain ⟨k, hk, rfl, HY⟩ := hrel
        clear HS q5
        obtain ⟨b6, o6, A6, C6, e6, q6, hr6⟩ := (HRR.out _ HY.out.2).at_ HLM.out
        simp only [Option.some.injEq, Addr.mk.injEq] at e6
        obtain ⟨rfl, rfl, _⟩ := e6
        by_cases hkl : k < l.length
        · as_aux_lemma =>
          obtain ⟨hst, hd16, hle, hol⟩ := HRW.out k hkl
          obtain ⟨b7, o7, rfl, hc⟩ := hr6.nat hkl
          obtain ⟨b8, o8, e8, hc0⟩ := hr6.nat hlp
          simp only [Option.some.injEq, Addr.mk.injEq] at e8
          obtain ⟨rfl, rfl, _⟩ := e8
          rw [Nat.add_zero] at hc0
          have hfr := preN_fresh HND.out HLM.out hkl
          have HST := Lib.hid (preN_step HLM.out hkl)
          have HWK := Lib.hid (fun W hk => HTW.out W hk _ hst)
          have hce := HY.out.1.cell (i := l.getD k 0)
          rw [List.getElem?_toArray, cntV_get hd16, if_neg hfr] at hce
          have hcf := HY.out.1.free (l.getD k 0)
          have hnx : Hid (Blk (wr.setCell ⟨sb, l.getD k 0, none⟩ (.int .i64 1)) sb (cntV (preN F j (k + 1))).toArray 3 ∧ Keeps (fun q => q = sb) w4 (wr.setCell ⟨sb, l.getD k 0, none⟩ (.int .i64 1))) := by
            refine Lib.hid ⟨?_, HY.out.2.setIn sb _ _ rfl⟩
            have := HY.out.1.set (l.getD k 0) (.int .i64 1)
            rw [cntV_set] at this
            rw [HST.out]
            exact this
          have HRN : Hid (NRows (wr.setCell ⟨sb, l.getD k 0, none⟩ (.int .i64 1)) (.slice (some ⟨b5, o5, none⟩) F.length c4) F) := Lib.hid (HRR.out _ hnx.out.2)
          have HKS := Lib.hid (HKK.out _ hnx.out.2)
          clear hfr hst HTW HFD HTH HY HST hr6
          generalize hRo : orb L 8 (l.getD k 0) = Ro at *
          clear hRo
          generalize hx0 : l.getD 0 0 = x0 at *
          clear hx0
          generalize hxk : l.getD k 0 = x at *
          clear hxk
          have hd0 : decide ((x : Int) < 0) = false := by simp
          have hd15 : decide ((15 : Int) < (x : Int)) = false := by simp; omega
          have hdx : decide ((x : Int) < (x0 : Int)) = false := by simp; omega
          have hxI : (x : Int) < 16 := by omega
          have hkI : (k : Int) < (l.length : Int) := by omega
          have hpI : (0 : Int) < (l.length : Int) := by omega
          have hjI : (j : Int) < (F.length : Int) := by omega
          go_upto_region 18 with fail
          generalize wr.setCell _ _ = w5 at *
          go_wp2_with fail
          with_reducible refine (HWK.out w5 HKS.out).mono ?_
          rintro e w6 ⟨v6, rfl, hro, hk6⟩
          obtain ⟨a9, c9, rfl, _, _⟩ := Rd.of_own hro
          obtain ⟨b8, o8, A8, C8, e8, q8, _⟩ := (HRN.out.keep hk6).at_ HLM.out
          simp only [Option.some.injEq, Addr.mk.injEq] at e8
          obtain ⟨rfl, rfl, _⟩ := e8
          have HN6 : Hid (Blk w6 sb (cntV (preN F j (k + 1))).toArray 3 ∧ Keeps (fun q => q = sb) w4 w6) := Lib.hid ⟨hnx.out.1.kept hk6 id, hnx.out.2.trans' (hk6.mono fun _ _ q => q.elim)⟩
          rw [hol]
          have hll : (((l.length : Nat) : Int) != ((l.length : Nat) : Int)) = false := by simp
          clear hnx hk6 hro HWK hce hcf hc hc0 q6
          go_wp2_with fail
          exact ⟨⟨k + 1, by omega, by simp, HN6⟩, by simp [intOf]; omega⟩
        · as_aux_lemma =>
          obtain rfl : k = l.length := by omega
          have HY2 := HY
          rw [preN_row HLM.out] at HY2
          clear HY hr6
          go_wp2_with fail
          exact ⟨⟨j + 1, hn1, by simp, HY2⟩, by simp [intOf]; omega⟩
    · obtain rfl : j = F.length := by omega
      rw [preN_all] at HS
      have HPL : Hid (Keeps (fun _ => False) w2 wr) := Lib.hid (HKK.out _ HS.out.2)
      have HBK := Lib.hid HS.out.1
      clear HS HRR HROW
      go_wp2_with fail
      go_loopw [15] (fun i wx => ∃ (d : Nat), d ≤ 16 ∧ i = .int .i64 (d : Int) ∧ Hid (Keeps (fun _ => False) wr wx)) (fun i _ => 16 - (intOf i).toNat)
      case atStart => exact ⟨0, Nat.zero_le _, rfl, Lib.hid (Keeps.refl _ _)⟩
      case round =>
        obtain ⟨d, hd, rfl, HK⟩ := hrel
        by_cases hd16 : d < 16
        · have HKW := Lib.hid (HPL.out.trans' HK.out)
          obtain ⟨x0, x1, _, _, _⟩ := (HX.out.kept HKW.out id).cells
          have hFI := HFD.out _ HKW.out d
          have hHS := fun W hk => HTH.out W hk (d / 2)
          have hhb : decide ((0 : Int) ≤ ((d / 2 : Nat) : Int) ∧ ((d / 2 : Nat) : Int) < ((8 : Nat) : Int) ∧ Stands L (2 * (((d / 2 : Nat) : Int)).toNat)) = decide (Stands L d) := by
            rw [Bool.eq_iff_iff, decide_eq_true_iff, decide_eq_true_iff, Int.toNat_natCast, stands_two HG.out]
            exact ⟨fun q => q.2.2, fun q => ⟨by omega, by omega, q⟩⟩
          have hcd := (HBK.out.kept HK.out id).cell (i := d)
          rw [List.getElem?_toArray, cntV_get hd16] at hcd
          have htd := tdiv_two d
          have hkey : ∃ (f g : Int) (r : Bool), fndV L (d : Int) = f ∧ fndI L (d : Int) = g ∧ decide (Stands L d) = r ∧ (if d ∈ F.flatten then (1 : Int) else 0) = (if r = true then 1 else 0) ∧ (r = true → 0 ≤ f) ∧ (r = false → f = -1) := by
            refine ⟨_, _, _, rfl, rfl, rfl, ?_, fun q => ?_, fun q => ?_⟩
            · by_cases hs : Stands L d
              · rw [if_pos ((HMF.out d).2 hs), if_pos (decide_eq_true hs)]
              · rw [if_neg fun q => hs ((HMF.out d).1 q), if_neg (by rw [decide_eq_false hs]; decide)]
            · rw [fndV_s (of_decide_eq_true q)]; omega
            · exact fndV_n (of_decide_eq_false q)
          obtain ⟨f, g, r, e1, e2, e3, e4, e5, e6⟩ := hkey
          rw [e1, e2] at hFI
          rw [e4] at hcd
          simp only [hhb, e3] at hHS
          have HFI := Lib.hid hFI
          have HHS := Lib.hid hHS
          have HCD := Lib.hid hcd
          clear hFI hHS hhb e1 e2 e3 e4 hcd
          have hdh : d / 2 < 8 := by omega
          generalize d / 2 = dh at *
          have hw8 : wrap64 (dh : Int) = (dh : Int) := by unfold wrap64; omega
          cases r with
          | true =>
            have hf0 : decide (f < 0) = false := by have := e5 rfl; simp; omega
            have hf1 : decide (0 ≤ f) = true := by have := e5 rfl; simp; omega
            clear e5 e6
            go_wp2_with fail
            with_reducible refine HFI.out.mono ?_
            rintro e w8 ⟨rfl, hk⟩
            have hcd := hk.cellF HCD.out
            simp only [if_true] at hcd
            have H8 := Lib.hid (HK.out.trans' hk)
            have H9 := Lib.hid (HKW.out.trans' hk)
            clear hk x0 x1 HFI HCD HKW
            go_wp2_with fail
            with_reducible refine (HHS.out _ H9.out).mono ?_
            rintro e w9 ⟨rfl, hk⟩
            have H10 := Lib.hid (H8.out.trans' hk)
            clear hk H8 H9 hcd
            go_wp2_with fail
            exact ⟨⟨d + 1, by omega, by simp, H10⟩, by simp [intOf]; omega⟩
          | false =>
            have hf : f = -1 := e6 rfl
            subst hf
            clear e5 e6
            go_wp2_with fail
            with_reducible refine HFI.out.mono ?_
            rintro e w8 ⟨rfl, hk⟩
            have hcd := hk.cellF HCD.out
            simp only [Bool.false_eq_true, if_false] at hcd
            have H8 := Lib.hid (HK.out.trans' hk)
            have H9 := Lib.hid (HKW.out.trans' hk)
            clear hk x0 x1 HFI HCD HKW
            go_wp2_with fail
            with_reducible refine (HHS.out _ H9.out).mono ?_
            rintro e w9 ⟨rfl, hk⟩
            have H10 := Lib.hid (H8.out.trans' hk)
            clear hk H8 H9 hcd
            go_wp2_with fail
            exact ⟨⟨d + 1, by omega, by simp, H10⟩, by simp [intOf]; omega⟩
        · obtain rfl : d = 16 := by omega
          have HKF := Lib.hid (HKB.out.trans' (HPL.out.trans' HK.out))
          clear HK HPL
          go_wp2_with fail
          with_reducible refine (HSU.out _).mono ?_
          rintro e w8 ⟨rfl, hk⟩
          have HF := Lib.hid (HKF.out.trans' hk)
          clear hk
          go_wp2_with fail
          go_ret
          exact ⟨rfl, HF.out⟩
theorem faceOnce_enter (W : World) (hE : ErrT W) (n : Int) (_ : (Lit.int .i64 n).wf = true) (a : Option Addr) (c : Nat) (ls : List Act10) (hr : Rd W a (ls.flatMap actCells)) (hl : ls.length ≤ 9223372036854775807) :
    Calls Tryd.prog 10 #[.int .i64 n, .slice a ls.length c] W (TruePost W) := faceOnce_walk n a c ls W hE hr hl
end Go.Proofs.YtjmkejkhpdhhbaaDoor
