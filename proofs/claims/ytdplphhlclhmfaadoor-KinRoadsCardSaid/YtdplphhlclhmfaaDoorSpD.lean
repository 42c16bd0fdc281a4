/- sphere: each. -/
import Derived.Test.YtdplphhlclhmfaaDoorSpM
import Derived.Test.YtdplphhlclhmfaaDoorSpC
namespace Go.Proofs.YtdplphhlclhmfaaDoor
open Go Go.RowKit
set_option linter.unusedVariables false
set_option linter.unusedSimpArgs false
set_option maxRecDepth 100000

/-- Lists of numbers that lie in memory. -/
def NRows (w : World) (v : Value) (Ls : List (List Nat)) : Prop :=
  ∃ us : List Value, us.length = Ls.length ∧ (∃ a c, v = .slice a Ls.length c ∧ Rd w a us) ∧ ∀ (i : Nat) (l : List Nat), Ls[i]? = some l → ∃ A C, us[i]? = some (.slice A l.length C) ∧ Rd w A (nats l)
section
variable {w w1 : World} {v : Value} {B : Nat} {Ls : List (List Nat)}
theorem NRows.keep (h : NRows w v Ls) (hk : Keeps (fun _ => False) w w1) : NRows w1 v Ls := by
  obtain ⟨us, h1, ⟨a, c, e, h2⟩, h3⟩ := h
  refine ⟨us, h1, ⟨a, c, e, h2.keep hk⟩, fun i l hl => ?_⟩
  obtain ⟨A, C, g1, g2⟩ := h3 i l hl
  exact ⟨A, C, g1, g2.keep hk⟩
theorem NRows.form (h : NRows w v Ls) : ∃ a c, v = .slice a Ls.length c := by
  obtain ⟨us, h1, ⟨a, c, e, h2⟩, h3⟩ := h
  exact ⟨a, c, e⟩
theorem NRows.at_ {a : Option Addr} {n c : Nat} (h : NRows w (.slice a n c) Ls) {i : Nat} {l : List Nat} (hl : Ls[i]? = some l) :
    ∃ b off A C, a = some ⟨b, off, none⟩ ∧ w.cell? ⟨b, off + i, none⟩ = some (.slice A l.length C) ∧ Rd w A (nats l) := by
  obtain ⟨us, h1, ⟨a', c', e, h2⟩, h3⟩ := h
  simp only [Value.slice.injEq] at e
  obtain ⟨rfl, rfl, rfl⟩ := e
  have hi := (List.getElem?_eq_some_iff.1 hl).1
  obtain ⟨A, C, g1, g2⟩ := h3 i l hl
  obtain ⟨b, off, e, hc⟩ := h2.at_ i (by omega)
  exact ⟨b, off, A, C, e, by rw [hc i (by omega), g1], g2⟩
theorem RsAt.rows (h : RsAt w B v Ls) : NRows w v Ls := by
  obtain ⟨us, h1, h2⟩ := h
  obtain ⟨a, c, e, hr, _⟩ := Rd.of_own h1
  have hlen : us.length = Ls.length := by have := h1.1; omega
  refine ⟨us, hlen, ⟨a, c, e, hr⟩, fun i l hl => ?_⟩
  obtain ⟨u, hu, a2, c2, rfl, hr2, _⟩ := h2 i l hl
  exact ⟨a2, c2, hu, hr2⟩
end
theorem faces_head {E : Nat} {L : List (List Nat)} {f : List Nat} (hf : f ∈ faces L E) : Stands L (f.getD 0 0) ∧ 1 ≤ f.length := by
  unfold faces facesN at hf
  obtain ⟨d, hd, rfl⟩ := List.mem_map.1 hf
  have hl := (List.mem_filter.1 hd).2
  have hp : 0 < per L E d := Nat.succ_pos _
  refine ⟨?_, by rw [orb_length]; exact hp⟩
  rw [orb_get hp]
  exact (least_iff.1 hl).1
/-- Counted so far. -/
structure EachAt (w : World) (pp b N E : Nat) (g : List Nat) (n : Nat) (M : Nat → Option Cnt3) (wr : World) : Prop where
  map : MapAt wr b n N M
  low : w.heap.size ≤ b
  keeps : Keeps (fun _ => False) w wr
  grp : ∃ ow, Uf wr ow pp N E g ∧ ∀ q, ow q → q ≠ b
section
variable {w wr w1 : World} {pp b N E n : Nat} {g : List Nat} {M : Nat → Option Cnt3}
theorem EachAt.keep (h : EachAt w pp b N E g n M wr) (hk : Keeps (fun _ => False) wr w1) : EachAt w pp b N E g n M w1 := by
  obtain ⟨ow, h1, h2⟩ := h.grp
  exact ⟨h.map.keep hk, h.low, h.keeps.trans' hk, ow, h1.keep hk, h2⟩
theorem EachAt.step2 (h : EachAt w pp b N E g n M wr) {v : Nat} (hv : v < N) (hgv : g.getD v 0 < N) (hn : n < 8000000) (hM : CntOk ((M (g.getD v 0)).getD (0, 0, 0))) (c : Cnt3) (hc : CntOk c) :
    Calls Tryd.prog 73 #[.map (some b), tptr pp, .int .i64 (v : Int), cagg c 0] wr (fun e w2 => e = .returned .nilIface ∧ EachAt w pp b N E g (n + 1) (addM M (g.getD v 0) c) w2 ∧ Keeps (fun q => q = b) wr w2) := by
  obtain ⟨ow, h1, h2⟩ := h.grp
  refine (sadd h.map h1 hv hgv hn hM c hc).mono ?_
  rintro e w2 ⟨rfl, q1, q2⟩
  exact ⟨rfl, ⟨q1, h.low, h.keeps.trans q2 fun i hi e => by have := h.low; omega, ow, h1.kept q2 h2, h2⟩, q2⟩
theorem EachAt.step (h : EachAt w pp b N E g n M wr) {v : Nat} (hv : v < N) (hgv : g.getD v 0 < N) (hn : n < 8000000) (hM : CntOk ((M (g.getD v 0)).getD (0, 0, 0))) (c : Cnt3) (hc : CntOk c) :
    Calls Tryd.prog 73 #[.map (some b), tptr pp, .int .i64 (v : Int), cagg c 0] wr (fun e w2 => e = .returned .nilIface ∧ EachAt w pp b N E g (n + 1) (addM M (g.getD v 0) c) w2) :=
  (h.step2 hv hgv hn hM c hc).mono fun e w2 q => ⟨q.1, q.2.1⟩
end
theorem MOk.cnt {N : Nat} {a b c : Int} {M : Nat → Option Cnt3} (h : MOk N a b c M) (ha : a ≤ 4398046511104) (hb : b ≤ 4398046511104) (hc : c ≤ 4398046511104) (r : Nat) : CntOk ((M r).getD (0, 0, 0)) := by
  cases hm : M r with
  | none => simp [CntOk]
  | some x =>
    obtain ⟨_, h1, h2, h3, h4, h5, h6⟩ := h r x hm
    simp only [Option.getD_some]
    exact ⟨h1, by omega, h3, by omega, h5, by omega⟩
/-- What is told of each component, or the error. -/
def EachPost (w : World) (N : Nat) (M : Nat → Option Cnt3) (e : Ending) (w' : World) : Prop :=
  ∃ b n, e = .returned (.tuple #[.map (some b), .nilIface]) ∧ MapAt w' b n N M ∧ w.heap.size ≤ b ∧ (∀ k, CntOk ((M k).getD (0, 0, 0))) ∧ Keeps (fun _ => False) w w'
section
variable {w : World} {own : Nat → Prop} {p E : Nat} {L : List (List Nat)}
theorem seach_err (h : Tu w own p E L) (a : Option Addr) (c : Nat) (l : List Int) (hr : Rd w a (i64s l)) (hl : l.length ≤ 4000000) (hc : chk12 L l ≠ 0) :
    Calls Tryd.prog 42 #[tptr p, .slice a l.length c] w (RetPost (.tuple #[.map none, errVal (chk12 L l)]) w) := by
  have HC := Lib.hid (scheck h a c l hr hl)
  rw [errVal_pos hc] at HC ⊢
  clear h hr hc
  unfold RetPost tptr at *
  go_enter Tryd.func42, Tryd.ntmps42
  go_wp2_with fail
  with_reducible refine HC.out.mono ?_
  rintro e w1 ⟨rfl, hk⟩
  have HK := Lib.hid hk
  clear hk HC
  go_wp2_with fail
  refine bodyPost_ret (v := .tuple #[.map none, .iface 87 (.int .i64 (chk12 L l : Nat))]) (by simp [results, Tryd.results42, go_sem]) rfl ?_
  exact ⟨rfl, HK.out⟩
set_option maxHeartbeats 4000000 in
theorem seach (h : Tu w own p E L) (hg : Good E L) (a : Option Addr) (c : Nat) (m : List Nat) (hr : Rd w a (i64s (intsN m))) (hl : m.length ≤ 1048576) (hc : chk12 L (intsN m) = 0) (hm : ∀ v ∈ m, v < L.length) :
    Calls Tryd.prog 42 #[tptr p, .slice a m.length c] w (EachPost w L.length (eachM L (grp L E) m (faces L E))) := by
  have hV := h.v2
  have hE := h.e2
  have hml : (intsN m).length = m.length := by simp [intsN]
  have hck := scheck h a c (intsN m) hr (by omega)
  rw [hc, errVal_zero, hml] at hck
  have HC := Lib.hid hck
  have hgk := grp_ok hg
  have HG := Lib.hid (fun W (hk : Keeps (fun _ => False) w W) => sgroups (h.keep hk) hg)
  have HA := Lib.hid (fun W (hk : Keeps (fun _ => False) w W) => fall (h.keep hk) hg)
  have HR := Lib.hid fun W (hk : Keeps (fun _ => False) w W) => hr.keep hk
  have HD : Hid (∀ W, Keeps (fun _ => False) w W → ∀ v, v < L.length → Calls Tryd.prog 72 #[tptr p, .int .i64 (v : Int)] W (RetPost (.tuple #[.int .i64 ((L.getD v []).length : Int), .nilIface]) W)) := Lib.hid fun W hk v hv => by
    have := tdegree (h.keep hk) (v : Int)
    have h0 : vErr L (v : Int) = 0 := by unfold vErr; rw [if_neg (by omega)]
    rw [h0, if_pos rfl, Int.toNat_natCast, errVal_zero] at this
    exact this
  have HO : Hid (∀ W, Keeps (fun _ => False) w W → ∀ d, Stands L d → Calls Tryd.prog 38 #[tptr p, .int .i64 (d : Int)] W (RetPost (.tuple #[.int .i64 (vtx L d : Nat), .nilIface]) W)) := Lib.hid fun W hk d hs => by
    have := torigin (h.keep hk) (d : Int)
    rw [dErr_stands h.wf hs, if_pos rfl, Int.toNat_natCast, errVal_zero] at this
    exact this
  have HDL : Hid (∀ v, v < L.length → (L.getD v []).length ≤ 2097152) := Lib.hid fun v hv => by
    have := h.len (some_getD hv)
    omega
  have HVX : Hid (∀ d, Stands L d → vtx L d < L.length) := Lib.hid fun d hs => h.wf.vtx_lt hs
  have HGL : Hid (∀ v, v < L.length → (grp L E).getD v 0 < L.length) := Lib.hid fun v hv => hgk.lt hv
  have HM := Lib.hid hm
  have HFH : Hid (∀ f ∈ faces L E, Stands L (f.getD 0 0) ∧ 1 ≤ f.length) := Lib.hid fun f hf => faces_head hf
  have HFB : Hid (∀ f ∈ faces L E, f.length ≤ 4000000) := Lib.hid fun f hf => by
    unfold faces facesN at hf
    obtain ⟨d, hd, rfl⟩ := List.mem_map.1 hf
    rw [orb_length]
    have := (per_le hg (least_iff.1 (List.mem_filter.1 hd).2).1).1
    omega
  have hFl : (faces L E).length ≤ 2 * E := facesN_le _
  have hmm := @run_makeMap Tryd.prog
  clear h hr hgk hc hck hml hm hg
  have HEM : Hid (eachM L (grp L E) m (faces L E) = (faces L E).foldl (fAdd L (grp L E)) (eachV L (grp L E) m)) := Lib.hid rfl
  generalize hgg : grp L E = g at *
  generalize hff : faces L E = F at *
  clear hgg hff
  unfold RetPost EachPost tptr at *
  unfold GrpPost AllPost tptr at *
  go_enter Tryd.func42, Tryd.ntmps42
  go_wp2_with fail
  with_reducible refine HC.out.mono ?_
  rintro e w1 ⟨rfl, hk⟩
  have HK1 := Lib.hid hk
  clear hk HC
  go_wp2_with fail
  with_reducible refine (HG.out _ HK1.out).mono ?_
  rintro e w2 ⟨pp, rfl, ow, hu, hlow, hk⟩
  have HE0 : Hid (EachAt w pp w2.heap.size L.length E g 0 (fun _ => none) (w2.alloc (.map #[] 0))) := Lib.hid ⟨MapAt.made w2 hV, Nat.le_trans HK1.out.size hk.size, (HK1.out.trans' hk).alloc _, ow, hu.keep ((Keeps.refl _ _).alloc _), fun q e => by have := hu.lt q e; omega⟩
  clear hu hlow hk HK1 HG
  go_upto_region 8 with fail
  have hMO0 : MOk L.length ((0 : Nat) : Int) ((2097152 * 0 : Nat) : Int) ((0 : Nat) : Int) (eachV L g (m.take 0)) := fun k x hx => by simp [eachV] at hx
  have HMO0 := Lib.hid hMO0
  clear hMO0 hmm
  generalize World.alloc w2 _ = w3 at *
  generalize w2.heap.size = b at *
  go_wp2_with fail
  go_loopw [37] (fun i wr => ∃ k n : Nat, k ≤ m.length ∧ n ≤ 2 * k ∧ i = .int .i64 (k : Int) ∧ Hid (EachAt w pp b L.length E g n (eachV L g (m.take k)) wr ∧ MOk L.length (k : Int) ((2097152 * k : Nat) : Int) (k : Int) (eachV L g (m.take k)))) (fun i _ => m.length - (intOf i).toNat)
  case atStart => exact ⟨0, 0, Nat.zero_le _, Nat.zero_le _, rfl, Lib.hid ⟨HE0.out, HMO0.out⟩⟩
  case round =>
    obtain ⟨k, n, hk, hn, rfl, HX⟩ := hrel
    clear HE0 HMO0
    by_cases hlt : k < m.length
    · obtain ⟨ab, off, rfl, e1⟩ := (HR.out _ HX.out.1.keeps).i64 (i := k) (by simpa [intsN] using hlt)
      have hmk : (intsN m).getD k 0 = ((m.getD k 0 : Nat) : Int) := by simp [intsN, List.getD_eq_getElem?_getD, hlt]
      rw [hmk] at e1
      have hvN : m.getD k 0 < L.length := HM.out _ (by rw [List.getD_eq_getElem?_getD, List.getElem?_eq_getElem hlt]; exact List.getElem_mem hlt)
      have hst : eachV L g (m.take (k + 1)) = vAdd L g (eachV L g (m.take k)) (m.getD k 0) := by
        unfold eachV
        exact foldl_take _ _ _ (by rw [List.getD_eq_getElem?_getD, List.getElem?_eq_getElem hlt]; rfl)
      have hkI : (k : Int) < (m.length : Int) := by omega
      generalize m.getD k 0 = v at *
      have hgv := HGL.out v hvN
      have hdl := HDL.out v hvN
      have hMOn : MOk L.length ((k + 1 : Nat) : Int) ((2097152 * (k + 1) : Nat) : Int) ((k + 1 : Nat) : Int) (eachV L g (m.take (k + 1))) := by
        rw [hst]
        refine (vAdd_ok HX.out.2 (by omega) (by omega) (by omega) hgv hdl).mono (by omega) (by omega) (by omega)
      have HMOn := Lib.hid hMOn
      have hd := HD.out _ HX.out.1.keeps v hvN
      have HC1 : Hid (∀ W, EachAt w pp b L.length E g n (eachV L g (m.take k)) W → Calls Tryd.prog 73 #[.map (some b), tptr pp, .int .i64 (v : Int), cagg (1, ((L.getD v []).length : Int), 0) 0] W (fun e w2 => e = .returned .nilIface ∧ EachAt w pp b L.length E g (n + 1) (addM (eachV L g (m.take k)) (g.getD v 0) (1, ((L.getD v []).length : Int), 0)) w2)) :=
        Lib.hid fun W hW => hW.step hvN hgv (by omega) (HX.out.2.cnt (by omega) (by omega) (by omega) _) _ (by unfold CntOk; simp only; omega)
      have HMO1 : Hid (CntOk (((addM (eachV L g (m.take k)) (g.getD v 0) (1, ((L.getD v []).length : Int), 0)) (g.getD v 0)).getD (0, 0, 0))) :=
        Lib.hid ((HX.out.2.add (by omega) (by omega) (by omega) hgv (1, ((L.getD v []).length : Int), 0) (by simp only; omega) (by simp only; omega) (by simp only; omega)).cnt (by simp only; omega) (by simp only; omega) (by simp only; omega) _)
      have HX1 := Lib.hid HX.out.1
      have HDD := Lib.hid hd
      clear hd HX hMOn HR
      by_cases hz : (L.getD v []).length = 0
      · as_aux_lemma =>
        rw [hz] at HDD HC1 HMO1
        have hst2 : eachV L g (m.take (k + 1)) = addM (addM (eachV L g (m.take k)) (g.getD v 0) (1, ((0 : Nat) : Int), 0)) (g.getD v 0) (0, 0, 1) := by rw [hst]; unfold vAdd; rw [if_pos hz, hz]
        have HC2 : Hid (∀ W, EachAt w pp b L.length E g (n + 1) (addM (eachV L g (m.take k)) (g.getD v 0) (1, ((0 : Nat) : Int), 0)) W → Calls Tryd.prog 73 #[.map (some b), tptr pp, .int .i64 (v : Int), cagg (0, 0, 1) 0] W (fun e w2 => e = .returned .nilIface ∧ EachAt w pp b L.length E g (n + 2) (addM (addM (eachV L g (m.take k)) (g.getD v 0) (1, ((0 : Nat) : Int), 0)) (g.getD v 0) (0, 0, 1)) w2)) :=
          Lib.hid fun W hW => hW.step hvN hgv (by omega) HMO1.out _ ⟨by decide, by decide, by decide, by decide, by decide, by decide⟩
        rw [← hst2] at HC2
        clear hst hst2 hz HMO1
        simp only [cagg, tptr, Int.ofNat_zero, Int.natCast_zero] at HC1 HC2 HDD
        generalize addM _ _ _ = M1 at *
        go_wp2_with fail
        with_reducible refine HDD.out.mono ?_
        rintro e w4 ⟨rfl, hk4⟩
        have HX4 := Lib.hid (HX1.out.keep hk4)
        clear hk4 HX1 HDD
        go_wp2_with fail
        with_reducible refine (HC1.out _ HX4.out).mono ?_
        rintro e w5 ⟨rfl, hx5⟩
        have HX5 := Lib.hid hx5
        clear hx5 HX4 HC1
        go_wp2_with fail
        with_reducible refine (HC2.out _ HX5.out).mono ?_
        rintro e w6 ⟨rfl, hx6⟩
        have HX6 := Lib.hid hx6
        clear hx6 HX5 HC2
        go_wp2_with fail
        exact ⟨⟨k + 1, n + 2, by omega, by omega, by first | rfl | trivial, Lib.hid ⟨HX6.out, HMOn.out⟩⟩, by simp [intOf]; omega⟩
      · as_aux_lemma =>
        have hst2 : eachV L g (m.take (k + 1)) = addM (eachV L g (m.take k)) (g.getD v 0) (1, ((L.getD v []).length : Int), 0) := by rw [hst]; unfold vAdd; rw [if_neg hz]
        rw [← hst2] at HC1
        have hzb : (((L.getD v []).length : Int) == 0) = false := by rw [beq_eq_false_iff_ne]; omega
        clear hst hst2 HMO1
        simp only [cagg, tptr] at HC1
        generalize (L.getD v []).length = kk at *
        go_wp2_with fail
        with_reducible refine HDD.out.mono ?_
        rintro e w4 ⟨rfl, hk4⟩
        have HX4 := Lib.hid (HX1.out.keep hk4)
        clear hk4 HX1 HDD
        go_wp2_with fail
        with_reducible refine (HC1.out _ HX4.out).mono ?_
        rintro e w5 ⟨rfl, hx5⟩
        have HX5 := Lib.hid hx5
        clear hx5 HX4 HC1
        go_wp2_with fail
        exact ⟨⟨k + 1, n + 1, by omega, by omega, by first | rfl | trivial, Lib.hid ⟨HX5.out, HMOn.out⟩⟩, by simp [intOf]; omega⟩
    · obtain rfl : k = m.length := by omega
      have HX0 : Hid (EachAt w pp b L.length E g n (eachV L g m) wr ∧ MOk L.length (m.length : Int) ((2097152 * m.length : Nat) : Int) (m.length : Int) (eachV L g m)) := Lib.hid (by have := HX.out; rwa [List.take_length] at this)
      have HAA := Lib.hid (HA.out _ HX0.out.1.keeps)
      clear HX HR HD HDL HM HA
      go_wp2_with fail
      with_reducible refine HAA.out.mono ?_
      rintro e w4 ⟨vf, rfl, hrs, hk4⟩
      obtain ⟨fa, fc, hvf⟩ := hrs.rows.form
      subst hvf
      have HX4 := Lib.hid (HX0.out.1.keep hk4)
      have HMO4 := Lib.hid HX0.out.2
      have HRS := Lib.hid hrs
      have HBL : Hid (b < wr.heap.size) := Lib.hid HX0.out.1.map.lt
      clear hrs hk4 HAA HX0
      generalize wr.heap.size = B at *
      have HS0 : Hid (EachAt w pp b L.length E g (n + 0) ((F.take 0).foldl (fAdd L g) (eachV L g m)) w4 ∧ MOk L.length (m.length : Int) ((2097152 * m.length : Nat) : Int) ((m.length + 0 : Nat) : Int) ((F.take 0).foldl (fAdd L g) (eachV L g m)) ∧ RsAt w4 B (.slice fa F.length fc) F) := Lib.hid ⟨HX4.out, HMO4.out, HRS.out⟩
      clear HX4 HMO4 HRS
      go_wp2_with fail
      go_loopw [73] (fun i wx => ∃ j : Nat, j ≤ F.length ∧ i = .int .i64 (j : Int) ∧ Hid (EachAt w pp b L.length E g (n + j) ((F.take j).foldl (fAdd L g) (eachV L g m)) wx ∧ MOk L.length (m.length : Int) ((2097152 * m.length : Nat) : Int) ((m.length + j : Nat) : Int) ((F.take j).foldl (fAdd L g) (eachV L g m)) ∧ RsAt wx B (.slice fa F.length fc) F)) (fun i _ => F.length - (intOf i).toNat)
      case atStart => exact ⟨0, Nat.zero_le _, rfl, HS0⟩
      case round =>
        obtain ⟨j, hj, rfl, HX⟩ := hrel
        clear HS0
        by_cases hjF : j < F.length
        · as_aux_lemma =>
          obtain ⟨f, hf⟩ : ∃ f, F[j]? = some f := ⟨_, List.getElem?_eq_getElem hjF⟩
          have hfm : f ∈ F := List.mem_iff_getElem?.2 ⟨j, hf⟩
          obtain ⟨hfs, hfl⟩ := HFH.out f hfm
          have hfb := HFB.out f hfm
          obtain ⟨b1, o1, A1, C1, rfl, q1, hr1⟩ := HX.out.2.2.rows.at_ hf
          obtain ⟨b2, o2, rfl, q2⟩ := hr1.nat (i := 0) (by omega)
          rw [Nat.add_zero] at q2
          have hst : (F.take (j + 1)).foldl (fAdd L g) (eachV L g m) = fAdd L g ((F.take j).foldl (fAdd L g) (eachV L g m)) f := foldl_take _ _ _ hf
          have ho := HO.out _ HX.out.1.keeps _ hfs
          have hvN := HVX.out _ hfs
          have hgv := HGL.out _ hvN
          have hMOn : MOk L.length (m.length : Int) ((2097152 * m.length : Nat) : Int) ((m.length + (j + 1) : Nat) : Int) ((F.take (j + 1)).foldl (fAdd L g) (eachV L g m)) := by
            rw [hst]
            exact (fAdd_ok HX.out.2.1 (by omega) (by omega) (by omega) hgv).mono (by omega) (by omega) (by omega)
          have HMOn := Lib.hid hMOn
          have HC1 : Hid (∀ W, EachAt w pp b L.length E g (n + j) ((F.take j).foldl (fAdd L g) (eachV L g m)) W → Calls Tryd.prog 73 #[.map (some b), tptr pp, .int .i64 (vtx L (f.getD 0 0) : Nat), cagg (0, 0, 1) 0] W (fun e w2 => e = .returned .nilIface ∧ EachAt w pp b L.length E g (n + (j + 1)) ((F.take (j + 1)).foldl (fAdd L g) (eachV L g m)) w2 ∧ Keeps (fun q => q = b) W w2)) := by
            refine Lib.hid fun W hW => ?_
            have := hW.step2 hvN hgv (by omega) (HX.out.2.1.cnt (by omega) (by omega) (by omega) _) (0, 0, 1) (by unfold CntOk; simp only; omega)
            rw [hst]
            exact this
          have HX1 := Lib.hid HX.out.1
          have HRS := Lib.hid HX.out.2.2
          have HDD := Lib.hid ho
          have hjI : (j : Int) < (F.length : Int) := by omega
          clear ho HX hMOn hst hr1 hfm hf hfs hgv HO HVX HGL HFH HFB
          simp only [cagg, tptr] at HC1
          generalize vtx L (f.getD 0 0) = v at *
          generalize f.getD 0 0 = d at *
          generalize f.length = fl at *
          go_wp2_with fail
          with_reducible refine HDD.out.mono ?_
          rintro e w5 ⟨rfl, hk5⟩
          have HX5 := Lib.hid (HX1.out.keep hk5)
          have HRS5 := Lib.hid (HRS.out.keep hk5)
          clear hk5 HX1 HDD HRS
          go_wp2_with fail
          with_reducible refine (HC1.out _ HX5.out).mono ?_
          rintro e w6 ⟨rfl, hx6, hk6⟩
          have HX6 := Lib.hid hx6
          have HRS6 := Lib.hid (HRS5.out.kept hk6 fun q e => by rw [e]; exact HBL.out)
          clear hx6 hk6 HX5 HC1 HRS5
          go_wp2_with fail
          exact ⟨⟨j + 1, by omega, by first | rfl | trivial, Lib.hid ⟨HX6.out, HMOn.out, HRS6.out⟩⟩, by simp [intOf]; omega⟩
        · obtain rfl : j = F.length := by omega
          have HEND : Hid (EachAt w pp b L.length E g (n + F.length) (F.foldl (fAdd L g) (eachV L g m)) wr ∧ ∀ k, CntOk (((F.foldl (fAdd L g) (eachV L g m)) k).getD (0, 0, 0))) := Lib.hid (by
            have h1 := HX.out.1
            have h2 := HX.out.2.1
            rw [List.take_length] at h1 h2
            exact ⟨h1, h2.cnt (by omega) (by omega) (by omega)⟩)
          clear HX HO HVX HGL HFH HFB
          go_wp2_with fail
          refine bodyPost_ret (v := .tuple #[.map (some b), .nilIface]) (by simp [results, Tryd.results42, go_sem]) rfl ?_
          exact ⟨b, _, rfl, by rw [HEM.out]; exact HEND.out.1.map, HEND.out.1.low, by rw [HEM.out]; exact HEND.out.2, HEND.out.1.keeps⟩
end
end Go.Proofs.YtdplphhlclhmfaaDoor
