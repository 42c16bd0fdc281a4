/- turn: Round. -/
import Derived.Test.YtjmkejkhpdhhbaaDoorTuF
import Derived.Deep.LoopGhost
import Derived.Laws.OwnMore
namespace Go.Proofs.YtjmkejkhpdhhbaaDoor
open Go Go.RowKit
set_option linter.unusedVariables false
set_option linter.unusedSimpArgs false
set_option maxRecDepth 100000

/-- Numbers as values. -/
def nats (l : List Nat) : List Value := l.map fun (n : Nat) => Value.int .i64 (n : Int)
theorem nats_length (l : List Nat) : (nats l).length = l.length := by simp [nats]
theorem nats_get {l : List Nat} {i : Nat} (hi : i < l.length) : (nats l)[i]? = some (.int .i64 ((l.getD i 0 : Nat) : Int)) := by
  simp [nats, hi]
theorem nats_append (l m : List Nat) : nats (l ++ m) = nats l ++ nats m := by simp [nats]
theorem infoI : (Tryd.prog.info? 3).map (fun i => (i.zero, i.size, i.bytes)) = some (some (.int .i64 0), 1, 8) := by kernel_rfl
/-- A list told. -/
def LPost (l : List Nat) (k : Nat) (w : World) (e : Ending) (w' : World) : Prop :=
  ∃ v, e = .returned (.tuple #[v, errVal k]) ∧ w'.ownsRow w.heap.size 3 1 v l.length (nats l) ∧ Keeps (fun _ => False) w w'
theorem Keeps.cellF {w w' : World} (hk : Keeps (fun _ => False) w w') {a : Addr} {v : Value} (h : w.cell? a = some v) : w'.cell? a = some v :=
  (World.cell?_of_block (hk.block _ (World.block_lt_of_cell? w _ h) id)).trans h
theorem take_next {l : List Nat} {k : Nat} (hk : k < l.length) : l.take (k + 1) = l.take k ++ [l.getD k 0] := by
  rw [List.take_add_one, List.getElem?_eq_getElem hk, getD_at hk]; rfl
section
variable {w : World} {own : Nat → Prop} {p E : Nat} {L : List (List Nat)}
theorem tround_none (h : Tu w own p E L) (v : Int) (hv : vErr L v ≠ 0 ∨ L.getD v.toNat [] = []) :
    Calls Tryd.prog 24 #[tptr p, .int .i64 v] w (LPost [] (vErr L v) w) := by
  have hve := Lib.hid (tvertex h v)
  by_cases h0 : vErr L v = 0
  · have hnil : L.getD v.toNat [] = [] := hv.resolve_left (fun q => q h0)
    rw [h0] at hve ⊢
    have hr1 : ¬ (v < 0 ∨ (L.length : Int) ≤ v) := fun q => by unfold vErr at h0; rw [if_pos q] at h0; cases h0
    obtain ⟨n, rfl⟩ := Int.eq_ofNat_of_zero_le (show 0 ≤ v by omega)
    have hn : n < L.length := by omega
    rw [Int.toNat_natCast] at hnil
    have hl : L[n]? = some [] := by rw [some_getD hn, hnil]
    have hV := h.v2
    obtain ⟨⟨g1, g2, g3, D, ls, mn, hx, rfl, hr⟩, _⟩ := h
    have hm := hx.mny (hr.many n [] hl)
    have c2 := hx.c2
    clear hx hr hl hnil hv h0 hr1
    unfold LPost tptr errVal at *
    simp only [if_true] at hve ⊢
    go_enter Tryd.func24, Tryd.ntmps24
    go_wp2_with fail
    refine (hve.out).mono ?_
    rintro e w1 ⟨rfl, rfl⟩
    go_wp2_with fail
    try go_quiet (fail)
    go_wp2_with fail
    go_ret2
    exact ⟨_, rfl, World.ownsRow_nil _ _ _ _, by first | exact Keeps.refl _ _ | exact (Keeps.refl _ _).drewN _⟩
  · rw [errVal_pos h0] at hve
    unfold LPost
    rw [errVal_pos h0]
    generalize ((vErr L v : Nat) : Int) = kb at *
    clear hv h0 h
    unfold tptr at *
    go_enter Tryd.func24, Tryd.ntmps24
    go_wp2_with fail
    refine (hve.out).mono ?_
    rintro e w1 ⟨rfl, rfl⟩
    go_wp2_with fail
    go_ret2
    exact ⟨_, rfl, World.ownsRow_nil _ _ _ _, Keeps.refl _ _⟩
theorem tround_some (h : Tu w own p E L) {n : Nat} {l : List Nat} (hl : L[n]? = some l) (hn0 : l ≠ []) :
    Calls Tryd.prog 24 #[tptr p, .int .i64 (n : Int)] w (LPost (rnd l) 0 w) := by
  obtain ⟨i0', hi, hz0, hz1, hz2⟩ := info_parts infoI
  have hE := h.e2
  have hV := h.v2
  have hnl := (List.getElem?_eq_some_iff.1 hl).1
  have hve := Lib.hid (tvertex h (n : Int))
  have hv0 : vErr L n = 0 := by unfold vErr; rw [if_neg (by omega)]
  rw [hv0] at hve
  obtain ⟨⟨g1, g2, g3, D, ls, mn, hx, rfl, hr⟩, _⟩ := h
  have hm := hx.mny (hr.many n l hl)
  have c0 := hx.c0
  have c1 := hx.c1
  have c2 := hx.c2
  have hll := hr.len hl
  have hlp : 0 < l.length := by
    cases l with
    | nil => exact absurd rfl hn0
    | cons a l => simp
  have hnd := hr.wf.nd hl
  obtain ⟨y, hy, hls⟩ := hr.least1 n l hl hn0
  obtain ⟨i0, hi0, rfl⟩ := mem_getD hy
  obtain ⟨g, hg⟩ : ∃ g : Nat → Nat, ∀ j, l.getD j 0 = g j := ⟨_, fun _ => rfl⟩
  have hbd : ∀ j, j < l.length → g j < 2 * E := fun j hj => hg j ▸ hr.wf.bd hl (getD_mem hj)
  have hcell : ∀ j, j < l.length → w.cell? ⟨g1, g j * 3 + 1, none⟩ = some (.int .i32 ((g (sc l.length j) : Nat) : Int)) := fun j hj => by
    have := (hx.dart (hr.cyc n l hl j hj)).2.1
    simpa only [hg] using this
  have hinj : ∀ i j, i < l.length → j < l.length → g i = g j → i = j := fun i j hi hj e => getD_inj hnd hi hj (by rw [hg, hg]; exact e)
  have l0 := hx.lst hls
  rw [hg] at l0
  have hpb := hx.head.lt
  have hb1 := hx.b1.lt
  have hb2 := hx.b2.lt
  have HX := Lib.hid hx
  have HC := Lib.hid hcell
  have HBD := Lib.hid hbd
  have HINJ := Lib.hid hinj
  have hRND : Hid (∀ m, m < l.length → (∀ j, j < l.length → g m ≤ g j) → argm l = m) := fun m hm h => argm_eq hnd hm fun y hy => by
    obtain ⟨j, hj, rfl⟩ := mem_getD hy
    rw [hg, hg]; exact h j hj
  have hRG : Hid (∀ j, j < l.length → (rnd l).getD j 0 = g ((argm l + j) % l.length)) := fun j hj => by rw [rnd_getD hj, hg]
  have hRL : Hid ((rnd l).length = l.length) := rnd_length l
  have hAM : Hid (argm l < l.length) := argm_lt hn0
  have hbi0 := hbd i0 hi0
  have hci0 := hcell i0 hi0
  have hl00 : ((l.length : Int) == 0) = false := by rw [beq_eq_false_iff_ne]; omega
  have hs0 := hbd _ (sc_lt hi0)
  have hi0E : ((g i0 : Nat) : Int) < 2 * (E : Int) := by omega
  unfold LPost tptr errVal at *
  simp only [if_true] at hve ⊢
  clear hx hr hy hls hcell hbd hnd hv0 hinj hg hn0 hl
  generalize argm l = am at *
  generalize rnd l = R at *
  generalize l.length = N at *
  go_enter Tryd.func24, Tryd.ntmps24
  go_wp2_with fail
  refine (hve.out).mono ?_
  rintro e w1 ⟨rfl, rfl⟩
  go_wp2_with fail
  try go_quiet (fail)
  go_wp2_with fail
  go_loopg [7, 8] (N - 1) (fun q t x wr => ∃ k m, k + q = N ∧ 1 ≤ k ∧ m < N ∧ Hid (∀ j, j < k → g m ≤ g ((i0 + j) % N)) ∧ t = .int .i32 ((g m : Nat) : Int) ∧ x = .int .i32 ((g ((i0 + k) % N) : Nat) : Int) ∧ w = wr)
  case atStart =>
    refine ⟨1, i0, by omega, Nat.le_refl _, hi0, fun j hj => ?_, rfl, by rw [sc_mod hi0], rfl⟩
    obtain rfl : j = 0 := by omega
    rw [Nat.add_zero, Nat.mod_eq_of_lt hi0]
    exact Nat.le_refl _
  case round =>
    obtain ⟨k, m, hkq, hk1, hmN, HM, rfl, rfl, rfl⟩ := hrel
    have hjN : (i0 + k) % N < N := Nat.mod_lt _ hlp
    have hj1 := HBD.out _ hjN
    have hm1 := HBD.out _ hmN
    have hstep := Lib.hid (step_mod hi0 (show k ≤ N by omega))
    by_cases hkN : k = N
    · have e0 : (i0 + k) % N = i0 := by rw [hkN, Nat.add_mod_right, Nat.mod_eq_of_lt hi0]
      have hxe : ((g ((i0 + k) % N) : Nat) : Int) = ((g i0 : Nat) : Int) := by rw [e0]
      rw [hxe]
      have hneb : (((g i0 : Nat) : Int) != ((g i0 : Nat) : Int)) = false := by simp
      have hmin : am = m := hRND.out m hmN (fun j hj => by
        obtain ⟨q, hq, rfl⟩ := mod_all hi0 hj
        exact HM.out q (by omega))
      have hcm := HC.out m hmN
      have hmE : ((g m : Nat) : Int) < 2 * (E : Int) := by omega
      subst hmin
      have HT1 : Hid (R.take 1 = [g am]) := by
        have h1 := take_next (l := R) (k := 0) (by rw [hRL.out]; exact hlp)
        rw [hRG.out 0 hlp] at h1
        rw [show am + 0 = am from rfl, Nat.mod_eq_of_lt hmN] at h1
        exact Lib.hid h1
      have hst : Hid ((w.alloc (.cells #[.int .i64 ((g am : Nat) : Int)] 3)).ownsRow w.heap.size 3 1 (.slice (some ⟨w.heap.size, 0, none⟩) 1 1) 1 (nats (R.take 1)) ∧ Keeps (fun _ => False) w (w.alloc (.cells #[.int .i64 ((g am : Nat) : Int)] 3))) := by
        refine ⟨?_, (Keeps.refl _ _).alloc _⟩
        rw [HT1.out]
        exact World.ownsRow_lit w #[.int .i64 ((g am : Nat) : Int)] 1 (Nat.le_refl _) (by decide) rfl
      clear hjN hj1 hstep HM hxe e0 hkN
      go_wp2_with fail
      go_loopg [9, 10] (N - 1) (fun q o x wr => ∃ k, k + q = N ∧ 1 ≤ k ∧ x = .int .i32 ((g ((am + k) % N) : Nat) : Int) ∧ wr.ownsRow w.heap.size 3 1 o k (nats (R.take k)) ∧ Keeps (fun _ => False) w wr)
      case atStart => exact ⟨1, by omega, Nat.le_refl _, by rw [sc_mod hmN], hst.out⟩
      case round =>
        obtain ⟨k, hkq, hk1, rfl, hown, hkr⟩ := hrel
        clear hst c0 c1 c2 hm hcm hci0 hpb hb1 hb2
        have hjN : (am + k) % N < N := Nat.mod_lt _ hlp
        have hj1 := HBD.out _ hjN
        have HO := Lib.hid (And.intro hown hkr)
        have hws := hkr.size
        by_cases hkN : k = N
        · have e0 : (am + k) % N = am := by rw [hkN, Nat.add_mod_right, Nat.mod_eq_of_lt hmN]
          rw [e0]
          have hneb : (((g am : Nat) : Int) != ((g am : Nat) : Int)) = false := by simp
          clear hown hkr
          go_wp2_with fail
          go_ret2
          refine ⟨_, rfl, ?_, HO.out.2⟩
          have h1 := HO.out.1
          rw [hkN, List.take_of_length_le (by rw [hRL.out]; exact Nat.le_refl _)] at h1
          rw [hRL.out]
          exact h1
        · have hstep := step_mod hmN (show k ≤ N by omega)
          have hne : g ((am + k) % N) ≠ g am := fun e => mod_ne hmN hk1 (by omega) (HINJ.out _ _ hjN hmN e)
          have hcj := HC.out _ hjN
          rw [hstep] at hcj
          have HCJ := Lib.hid hcj
          have HTN : Hid (R.take (k + 1) = R.take k ++ [g ((am + k) % N)]) := by
            have h1 := take_next (l := R) (k := k) (by rw [hRL.out]; omega)
            rw [hRG.out k (by omega)] at h1
            exact Lib.hid h1
          generalize hgd : g ((am + k) % N) = d at *
          generalize hgd2 : g ((am + (k + 1)) % N) = d2 at *
          have HGD2 := Lib.hid hgd2
          have hneb : (((d : Nat) : Int) != ((g am : Nat) : Int)) = true := by rw [bne_iff_ne]; omega
          have hdE : ((d : Nat) : Int) < 2 * (E : Int) := by omega
          clear hgd hgd2 hjN hne hcj hkr hstep
          go_wp2_with (first | (at_builtin; refine wpList_app1 rfl _ _ 47 rfl w.heap.size 3 i0' (.int .i64 0) 1 8 Tryd.underlying47 hi hz0 hz1 hz2 rfl (by decide) _ _ _ rfl hown _ 1 1 [.int .i64 ((d : Nat) : Int)] 3 rfl rfl rfl ?c1 ?c2 ?c3 ?c4 ?_))
          case c1 => simp [Value.oneCell']
          case c2 => unfold maxLen; omega
          case c3 => omega
          case c4 => exact hws
          intro v1 w1 ho hk1' _ _ _
          have HO1 : Hid (w1.ownsRow w.heap.size 3 1 v1 (k + 1) (nats (R.take (k + 1))) ∧ Keeps (fun _ => False) w w1) := by
            refine ⟨?_, HO.out.2.trans hk1' fun i hi e => by have := (HO.out.1.lt i e).1; omega⟩
            rw [HTN.out, nats_append]
            exact ho
          have hx1 := HX.out.keep HO1.out.2
          have c0 := hx1.c0
          have hcj := HO1.out.2.cellF HCJ.out
          clear ho hk1' hx1 hown
          go_wp2_with fail
          go_roundg (gk - 1)
          case measure => omega
          case rel => exact ⟨k + 1, by omega, by omega, by rw [HGD2.out], HO1.out⟩
    · have hne : g ((i0 + k) % N) ≠ g i0 := fun e => mod_ne hi0 hk1 (by omega) (HINJ.out _ _ hjN hi0 e)
      have hcj := HC.out _ hjN
      rw [hstep.out] at hcj
      have hj2 := HBD.out _ (Nat.mod_lt (i0 + (k + 1)) hlp)
      generalize hgd : g ((i0 + k) % N) = d at *
      generalize hgd2 : g ((i0 + (k + 1)) % N) = d2 at *
      have HGD := Lib.hid hgd
      have HGD2 := Lib.hid hgd2
      have hneb : (((d : Nat) : Int) != ((g i0 : Nat) : Int)) = true := by rw [bne_iff_ne]; omega
      have hdE : ((d : Nat) : Int) < 2 * (E : Int) := by omega
      clear hgd hgd2 hjN hne
      have HMk : ∀ m', g m' ≤ g m → g m' ≤ d → Hid (∀ j, j < k + 1 → g m' ≤ g ((i0 + j) % N)) := fun m' h1 h2 j hj => by
        by_cases e : j = k
        · subst e; rw [HGD.out]; exact h2
        · exact Nat.le_trans h1 (HM.out j (by omega))
      by_cases hdm : d < g m
      · have hnew := HMk ((i0 + k) % N) (by rw [HGD.out]; omega) (by rw [HGD.out]; exact Nat.le_refl _)
        clear HMk
        go_wp2_with fail
        go_roundg (gk - 1)
        case measure => omega
        case rel => exact ⟨k + 1, (i0 + k) % N, by omega, by omega, Nat.mod_lt _ hlp, hnew, by rw [HGD.out], by rw [HGD2.out], rfl⟩
      · have hnew := HMk m (Nat.le_refl _) (by omega)
        clear HMk
        go_wp2_with fail
        go_roundg (gk - 1)
        case measure => omega
        case rel => exact ⟨k + 1, m, by omega, by omega, hmN, hnew, rfl, by rw [HGD2.out], rfl⟩
end
end Go.Proofs.YtjmkejkhpdhhbaaDoor
