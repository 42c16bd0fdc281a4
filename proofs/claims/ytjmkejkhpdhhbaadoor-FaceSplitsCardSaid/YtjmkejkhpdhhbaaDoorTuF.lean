/- turn: Lay, Lift. -/
import Derived.Test.YtjmkejkhpdhhbaaDoorTuE
namespace Go.Proofs.YtjmkejkhpdhhbaaDoor
open Go Go.RowKit
set_option linter.unusedVariables false
set_option linter.unusedSimpArgs false
set_option maxRecDepth 100000

theorem TPost.trans {own : Nat → Prop} {p E : Nat} {L : List (List Nat)} {v : Value} {w w1 w2 : World} {e : Ending} (h : Keeps own w w1) (k : TPost own p E L v w1 e w2) : TPost own p E L v w e w2 := ⟨k.1, k.2.1, h.trans' k.2.2⟩
section
variable {w : World} {own : Nat → Prop} {p E : Nat} {L : List (List Nat)}
theorem tputC (h : Tu w own p E L) {d v : Nat} {b x y : Int} {l : List Nat} (hx : x = d) (hy : y = v) (hd : d < 2 * E) (hn : ¬ Stands L d) (hv : L[v]? = some l) (hc : b = -1 ∧ l = [] ∨ b = -1 ∧ l.length = 1 ∨ ∃ m : Nat, b = m ∧ m ∈ l) :
    Calls Tryd.prog 60 #[tptr p, .int .i32 x, cval y b] w (TPost own p E (putL L d v b) (.tuple #[]) w) := by
  subst hx hy
  rcases hc with ⟨rfl, rfl⟩ | ⟨rfl, hl⟩ | ⟨m, rfl, hm⟩
  · exact tput0 h hd hn hv
  · have := tput1 h (-1) hd hn hv (k := 0) (by omega) (.inr ⟨rfl, rfl, hl⟩)
    have e : putL L d v ((l.getD 0 0 : Nat) : Int) = putL L d v (-1) := by
      unfold putL
      rw [getD_some hv]
      match l, hl with
      | [z], _ => simp [insB]
    rwa [e] at this
  · obtain ⟨k, hk, rfl⟩ := mem_getD hm
    exact tput1 h _ hd hn hv hk (.inl rfl)
theorem twP (h : Tu w own p E L) {d : Nat} {x : Int} (hx : x = d) (hd : Stands L d) : Calls Tryd.prog 62 #[tptr p, .int .i32 x] w (TPost own p E (remL L d) (.tuple #[]) w) := by
  subst hx
  obtain ⟨v, l, i, hv, hi, rfl⟩ := stands_ex hd
  exact ttake h hv hi
/-- Behind a first dart the second corner stands yet. -/
theorem chk_put {a b : Int × Int} {d : Nat} (ha : chkErr L a.1 a.2 = 0) (hb : chkErr L b.1 b.2 = 0) (hn : ¬ Stands L d) :
    ∃ l, (putL L d a.1.toNat a.2)[b.1.toNat]? = some l ∧ (b.2 = -1 ∧ l = [] ∨ b.2 = -1 ∧ l.length = 1 ∨ ∃ m : Nat, b.2 = m ∧ m ∈ l) := by
  obtain ⟨n, hn1, l, hl, hc⟩ := chk_ok ha
  obtain ⟨n', hn2, l', hl', hc'⟩ := chk_ok hb
  rw [hn1, hn2, Int.toNat_natCast, Int.toNat_natCast]
  by_cases e : n' = n
  · subst e
    rw [hl] at hl'
    cases hl'
    refine ⟨_, (putL_get hl _).trans (if_pos rfl), ?_⟩
    rcases hc' with ⟨h1, rfl⟩ | ⟨m, h1, h2⟩
    · exact .inr (.inl ⟨h1, rfl⟩)
    · exact .inr (.inr ⟨m, h1, mem_insB.2 (.inr h2)⟩)
  · refine ⟨_, ((putL_get hl _).trans (if_neg e)).trans hl', ?_⟩
    exact hc'.imp_right .inr
theorem tlay (h : Tu w own p E L) (g : Good E L) (e : Int) (a b : Int × Int) :
    Calls Tryd.prog 27 #[tptr p, .int .i64 e, cval a.1 a.2, cval b.1 b.2] w (TPost own p E (lay E L e a b) (errVal (layErr E L e a b)) w) := by
  have hE := h.e2
  obtain ⟨a1, a2⟩ := a
  obtain ⟨b1, b2⟩ := b
  have hK : Keeps (fun _ => False) w ((w.alloc (.cells #[.int .i64 a1, .int .i64 a2] 41)).alloc (.cells #[.int .i64 b1, .int .i64 b2] 41)) := ((Keeps.refl _ _).alloc _).alloc _
  have h0 := h.keep hK
  have HB : Hid (Blk ((w.alloc (.cells #[.int .i64 a1, .int .i64 a2] 41)).alloc (.cells #[.int .i64 b1, .int .i64 b2] 41)) (w.heap.size + 1) #[.int .i64 b1, .int .i64 b2] 41) := by
    have := Blk.new (w.alloc (.cells #[.int .i64 a1, .int .i64 a2] 41)) #[.int .i64 b1, .int .i64 b2] 41
    exact Lib.hid (by simpa using this)
  have HA : Hid (Blk ((w.alloc (.cells #[.int .i64 a1, .int .i64 a2] 41)).alloc (.cells #[.int .i64 b1, .int .i64 b2] 41)) w.heap.size #[.int .i64 a1, .int .i64 a2] 41) := (Blk.new w _ _).alloc _
  have hoA : ∀ k, own k → k < w.heap.size := h.lt
  have HO := Lib.hid hoA
  clear hoA
  have hed := Lib.hid (tedge h0 e)
  have hha := Lib.hid (thas h0 e)
  have HK := Lib.hid hK
  unfold lay
  by_cases hr1 : e < 0 ∨ (E : Int) ≤ e
  · have hev : eErr E e = 12 := by unfold eErr; rw [if_pos hr1]
    have hle : layErr E L e (a1, a2) (b1, b2) = 12 := by unfold layErr; rw [if_pos hr1]
    rw [hev] at hed
    rw [hle, if_neg (by decide)]
    have H := Lib.hid h0
    clear h h0 hev hle hha g hK HA HB
    unfold tptr cval errVal errno TPost at *
    simp only [if_neg (show ¬ (12 : Nat) = 0 by decide)] at hed ⊢
    go_enter Tryd.func27, Tryd.ntmps27
    go_upto_region 1 with fail
    generalize (w.alloc _).alloc _ = w0 at *
    go_wp2_with fail
    refine (hed.out).mono ?_
    rintro e w1 ⟨rfl, rfl⟩
    go_wp2_with fail
    go_ret
    exact ⟨rfl, H.out, HK.out.mono fun _ _ q => q.elim⟩
  · obtain ⟨n, rfl⟩ := Int.eq_ofNat_of_zero_le (show 0 ≤ e by omega)
    have hn : n < E := by omega
    have hev : eErr E n = 0 := by unfold eErr; rw [if_neg hr1]
    rw [hev] at hed
    have hb : decide (0 ≤ (n : Int) ∧ (n : Int) < E ∧ Stands L (2 * (n : Int).toNat)) = decide (Stands L (2 * n)) := by
      rw [Bool.eq_iff_iff, decide_eq_true_eq, decide_eq_true_eq, Int.toNat_natCast]
      exact ⟨fun e => e.2.2, fun e => ⟨by omega, by omega, e⟩⟩
    rw [hb] at hha
    have hle : layErr E L n (a1, a2) (b1, b2) = if Stands L (2 * n) then 20 else if chkErr L a1 a2 ≠ 0 then chkErr L a1 a2 else chkErr L b1 b2 := by unfold layErr; rw [if_neg hr1, Int.toNat_natCast]
    by_cases hs : Stands L (2 * n)
    · rw [hle, if_pos hs, if_neg (by decide)]
      have hd : decide (Stands L (2 * n)) = true := decide_eq_true hs
      rw [hd] at hha
      have H := Lib.hid h0
      clear h h0 g hle hb hd hs hev hr1 hK HA HB
      unfold tptr cval errVal errno TPost RetPost at *
      simp only [if_true, if_neg (show ¬ (20 : Nat) = 0 by decide)] at hed ⊢
      go_enter Tryd.func27, Tryd.ntmps27
      go_upto_region 1 with fail
      generalize (w.alloc _).alloc _ = w0 at *
      go_wp2_with fail
      refine (hed.out).mono ?_
      rintro e w1 ⟨rfl, rfl⟩
      go_wp2_with fail
      refine (hha.out).mono ?_
      rintro e w1 ⟨rfl, hk1⟩
      have H1 := Lib.hid (And.intro (H.out.keep hk1) ((HK.out.trans' hk1).mono (fp' := own) fun _ _ q => q.elim))
      clear hk1
      go_wp2_with fail
      go_ret
      exact ⟨rfl, H1.out⟩
    · rw [if_neg hs] at hle
      have hd : decide (Stands L (2 * n)) = false := decide_eq_false hs
      rw [hd] at hha
      have hca := Lib.hid (fun W (hk : Keeps (fun _ => False) ((w.alloc (.cells #[.int .i64 a1, .int .i64 a2] 41)).alloc (.cells #[.int .i64 b1, .int .i64 b2] 41)) W) => tcheck (h0.keep hk) a1 a2)
      have hcb := Lib.hid (fun W (hk : Keeps (fun _ => False) ((w.alloc (.cells #[.int .i64 a1, .int .i64 a2] 41)).alloc (.cells #[.int .i64 b1, .int .i64 b2] 41)) W) => tcheck (h0.keep hk) b1 b2)
      have hws : w.heap.size + 1 < ((w.alloc (.cells #[.int .i64 a1, .int .i64 a2] 41)).alloc (.cells #[.int .i64 b1, .int .i64 b2] 41)).heap.size := by simp
      by_cases hA : chkErr L a1 a2 = 0
      · rw [if_neg (fun q => q hA)] at hle
        rw [hA] at hca
        by_cases hBb : chkErr L b1 b2 = 0
        · rw [hBb] at hcb hle
          rw [hle, if_pos rfl, Int.toNat_natCast]
          unfold layL
          have hn0 : ¬ Stands (putL L (2 * n) a1.toNat a2) (2 * n + 1) := fun q => by
            rw [putL_stands (chk_lt hA)] at q
            rcases q with q | q
            · omega
            · exact hs ((g.pair n).1 q)
          obtain ⟨l2, hl2, hc2⟩ := chk_put (a := (a1, a2)) (b := (b1, b2)) hA hBb hs
          obtain ⟨va, hva, la, hla, hca'⟩ := chk_ok hA
          obtain ⟨vb, hvb, lb, hlb, hcb'⟩ := chk_ok hBb
          have hp1 := Lib.hid (fun W (hk : Keeps (fun _ => False) ((w.alloc (.cells #[.int .i64 a1, .int .i64 a2] 41)).alloc (.cells #[.int .i64 b1, .int .i64 b2] 41)) W) => tputC (h0.keep hk) (d := 2 * n) (v := a1.toNat) (b := a2) (x := 2 * (n : Int)) (y := a1) (by omega) (by omega) (by omega) hs (by rw [hva, Int.toNat_natCast]; exact hla) (hca'.imp_right .inr))
          have hp2 := Lib.hid (fun W (ht : Tu W own p E (putL L (2 * n) a1.toNat a2)) => tputC ht (d := 2 * n + 1) (v := b1.toNat) (b := b2) (x := 2 * (n : Int) + 1) (y := b1) (by omega) (by omega) (by omega) hn0 hl2 hc2)
          generalize putL (putL L (2 * n) a1.toNat a2) (2 * n + 1) b1.toNat b2 = L2 at *
          generalize putL L (2 * n) a1.toNat a2 = L1 at *
          clear h h0 g hle hb hd hs hev hr1 hK hA hBb hn0 hl2 hc2 hca' hcb' hva hvb hla hlb
          unfold tptr cval errVal errno TPost RetPost at *
          simp only [if_true] at hed hca hcb ⊢
          go_enter Tryd.func27, Tryd.ntmps27
          go_upto_region 1 with fail
          generalize (w.alloc _).alloc _ = w0 at *
          go_wp2_with fail
          refine (hed.out).mono ?_
          rintro e w1 ⟨rfl, rfl⟩
          go_wp2_with fail
          refine (hha.out).mono ?_
          rintro e w1 ⟨rfl, hk1⟩
          have HK1 := Lib.hid hk1
          have i0 := (HA.out.kept hk1 id).cell (i := 0)
          have i1 := (HA.out.kept hk1 id).cell (i := 1)
          simp only [List.getElem?_toArray, List.getElem?_cons_zero, List.getElem?_cons_succ] at i0 i1
          have hca1 := Lib.hid (hca.out _ hk1)
          clear hk1
          go_wp2_with fail
          refine (hca1.out).mono ?_
          rintro e w2 ⟨rfl, hk2⟩
          have HK2 := Lib.hid (HK1.out.trans' hk2)
          have i0 := (HB.out.kept HK2.out id).cell (i := 0)
          have i1 := (HB.out.kept HK2.out id).cell (i := 1)
          simp only [List.getElem?_toArray, List.getElem?_cons_zero, List.getElem?_cons_succ] at i0 i1
          have hcb1 := Lib.hid (hcb.out _ HK2.out)
          clear hk2
          go_wp2_with fail
          refine (hcb1.out).mono ?_
          rintro e w3 ⟨rfl, hk3⟩
          have HK3 := Lib.hid (HK2.out.trans' hk3)
          have j0 := (HA.out.kept HK3.out id).cell (i := 0)
          have j1 := (HA.out.kept HK3.out id).cell (i := 1)
          simp only [List.getElem?_toArray, List.getElem?_cons_zero, List.getElem?_cons_succ] at j0 j1
          have hp1' := Lib.hid (hp1.out _ HK3.out)
          clear hk3
          go_wp2_with fail
          refine (hp1'.out).mono ?_
          rintro e w4 ⟨rfl, ht4, hk4⟩
          have HK4 := Lib.hid ((HK3.out.mono fun _ _ q => q.elim).trans' hk4)
          have HB4 := Lib.hid ((HB.out.kept HK3.out id).kept hk4 fun q => by have := HO.out _ q; omega)
          have j0 := HB4.out.cell (i := 0)
          have j1 := HB4.out.cell (i := 1)
          simp only [List.getElem?_toArray, List.getElem?_cons_zero, List.getElem?_cons_succ] at j0 j1
          have hp2' := Lib.hid (hp2.out _ ht4)
          clear hk4 ht4
          go_wp2_with fail
          refine (hp2'.out).mono ?_
          rintro e w5 ⟨rfl, ht5, hk5⟩
          have H5 := Lib.hid (And.intro ht5 (((HK.out.mono fun _ _ q => q.elim).trans' HK4.out).trans' hk5))
          clear hk5 ht5
          go_wp2_with fail
          go_ret
          exact ⟨rfl, H5.out⟩
        · rw [hle, if_neg hBb, errVal_pos hBb]
          rw [errVal_pos hBb] at hcb
          generalize ((chkErr L b1 b2 : Nat) : Int) = kb at *
          have H := Lib.hid h0
          clear h h0 g hle hb hd hs hev hr1 hK hA hBb
          unfold tptr cval errVal errno TPost RetPost at *
          simp only [if_true] at hed hca ⊢
          go_enter Tryd.func27, Tryd.ntmps27
          go_upto_region 1 with fail
          generalize (w.alloc _).alloc _ = w0 at *
          go_wp2_with fail
          refine (hed.out).mono ?_
          rintro e w1 ⟨rfl, rfl⟩
          go_wp2_with fail
          refine (hha.out).mono ?_
          rintro e w1 ⟨rfl, hk1⟩
          have HK1 := Lib.hid hk1
          have i0 := (HA.out.kept hk1 id).cell (i := 0)
          have i1 := (HA.out.kept hk1 id).cell (i := 1)
          simp only [List.getElem?_toArray, List.getElem?_cons_zero, List.getElem?_cons_succ] at i0 i1
          have hca1 := Lib.hid (hca.out _ hk1)
          clear hk1
          go_wp2_with fail
          refine (hca1.out).mono ?_
          rintro e w2 ⟨rfl, hk2⟩
          have HK2 := Lib.hid (HK1.out.trans' hk2)
          have i0 := (HB.out.kept HK2.out id).cell (i := 0)
          have i1 := (HB.out.kept HK2.out id).cell (i := 1)
          simp only [List.getElem?_toArray, List.getElem?_cons_zero, List.getElem?_cons_succ] at i0 i1
          have hcb1 := Lib.hid (hcb.out _ HK2.out)
          clear hk2
          go_wp2_with fail
          refine (hcb1.out).mono ?_
          rintro e w3 ⟨rfl, hk3⟩
          have H3 := Lib.hid (And.intro (H.out.keep (HK2.out.trans' hk3)) ((HK.out.trans' (HK2.out.trans' hk3)).mono (fp' := own) fun _ _ q => q.elim))
          clear hk3
          go_wp2_with fail
          go_ret
          exact ⟨rfl, H3.out⟩
      · rw [if_pos hA] at hle
        rw [hle, if_neg hA, errVal_pos hA]
        rw [errVal_pos hA] at hca
        generalize ((chkErr L a1 a2 : Nat) : Int) = kb at *
        have H := Lib.hid h0
        clear h h0 g hle hb hd hs hev hr1 hK hA hcb
        unfold tptr cval errVal errno TPost RetPost at *
        simp only [if_true] at hed ⊢
        go_enter Tryd.func27, Tryd.ntmps27
        go_upto_region 1 with fail
        generalize (w.alloc _).alloc _ = w0 at *
        go_wp2_with fail
        refine (hed.out).mono ?_
        rintro e w1 ⟨rfl, rfl⟩
        go_wp2_with fail
        refine (hha.out).mono ?_
        rintro e w1 ⟨rfl, hk1⟩
        have HK1 := Lib.hid hk1
        have i0 := (HA.out.kept hk1 id).cell (i := 0)
        have i1 := (HA.out.kept hk1 id).cell (i := 1)
        simp only [List.getElem?_toArray, List.getElem?_cons_zero, List.getElem?_cons_succ] at i0 i1
        have hca1 := Lib.hid (hca.out _ hk1)
        clear hk1
        go_wp2_with fail
        refine (hca1.out).mono ?_
        rintro e w2 ⟨rfl, hk2⟩
        have H3 := Lib.hid (And.intro (H.out.keep (HK1.out.trans' hk2)) ((HK.out.trans' (HK1.out.trans' hk2)).mono (fp' := own) fun _ _ q => q.elim))
        clear hk2
        go_wp2_with fail
        go_ret
        exact ⟨rfl, H3.out⟩
theorem tlift (h : Tu w own p E L) (g : Good E L) (x : Int) :
    Calls Tryd.prog 31 #[tptr p, .int .i64 x] w (TPost own p E (lift E L x) (errVal (liftErr E L x)) w) := by
  have hE := h.e2
  have hed := Lib.hid (tedge h x)
  have hha := Lib.hid (thas h x)
  by_cases hr1 : x < 0 ∨ (E : Int) ≤ x
  · have hev : eErr E x = 12 := by unfold eErr; rw [if_pos hr1]
    have hle : liftErr E L x = 12 := by unfold liftErr; rw [if_pos hr1]
    have hl : lift E L x = L := by unfold lift; rw [hle]; rfl
    rw [hev] at hed
    rw [hle, hl]
    have H := Lib.hid h
    clear h hev hle hl hha
    unfold tptr errVal errno TPost at *
    simp only [if_neg (show ¬ (12 : Nat) = 0 by decide)] at hed ⊢
    go_enter Tryd.func31, Tryd.ntmps31
    go_wp2_with fail
    refine (hed.out).mono ?_
    rintro e w1 ⟨rfl, rfl⟩
    go_wp2_with fail
    go_ret
    exact ⟨rfl, H.out, Keeps.refl _ _⟩
  · obtain ⟨n, rfl⟩ := Int.eq_ofNat_of_zero_le (show 0 ≤ x by omega)
    have hn : n < E := by omega
    have hev : eErr E n = 0 := by unfold eErr; rw [if_neg hr1]
    rw [hev] at hed
    have hle : liftErr E L n = if Stands L (2 * n) then 0 else 13 := by unfold liftErr; rw [if_neg hr1, Int.toNat_natCast]
    have hb : decide (0 ≤ (n : Int) ∧ (n : Int) < E ∧ Stands L (2 * (n : Int).toNat)) = decide (Stands L (2 * n)) := by
      rw [Bool.eq_iff_iff, decide_eq_true_eq, decide_eq_true_eq, Int.toNat_natCast]
      exact ⟨fun e => e.2.2, fun e => ⟨by omega, by omega, e⟩⟩
    rw [hb] at hha
    rw [hle]
    unfold lift
    rw [hle]
    by_cases hs : Stands L (2 * n)
    · rw [if_pos hs, if_pos rfl, Int.toNat_natCast]
      have hd : decide (Stands L (2 * n)) = true := decide_eq_true hs
      rw [hd] at hha
      have h1 := Lib.hid (fun W (hk : Keeps (fun _ => False) w W) => twP (h.keep hk) (x := 2 * (n : Int) + 1) (by omega) ((g.pair n).2 hs))
      have h2 := Lib.hid (fun W (hk : Tu W own p E (remL L (2 * n + 1))) => twP hk (x := 2 * (n : Int)) (by omega) (remL_stands.2 ⟨by omega, hs⟩))
      have hcm : remL (remL L (2 * n + 1)) (2 * n) = liftL L n := by
        unfold liftL remL
        rw [List.map_map, List.map_map]
        apply List.map_congr_left
        intro l _
        simp only [Function.comp, List.filter_filter]
        apply List.filter_congr
        intro y _
        rw [Bool.and_comm]
      rw [hcm] at h2
      clear h g hle hb hd hs hev hr1
      unfold tptr errVal errno TPost RetPost at *
      simp only [if_true] at hed ⊢
      go_enter Tryd.func31, Tryd.ntmps31
      go_wp2_with fail
      refine (hed.out).mono ?_
      rintro e w1 ⟨rfl, rfl⟩
      go_wp2_with fail
      refine (hha.out).mono ?_
      rintro e w1 ⟨rfl, hk1⟩
      have h1' := Lib.hid (h1.out _ hk1)
      have HK1 := Lib.hid hk1
      clear hk1
      go_wp2_with fail
      refine (h1'.out).mono ?_
      rintro e w2 ⟨rfl, ht, hk2⟩
      have h2' := Lib.hid (h2.out _ ht)
      have HK2 := Lib.hid ((HK1.out.mono fun _ _ q => q.elim).trans' hk2)
      clear hk2 ht
      go_wp2_with fail
      refine (h2'.out).mono ?_
      rintro e w3 ⟨rfl, ht, hk3⟩
      have H3 := Lib.hid (And.intro ht (HK2.out.trans' hk3))
      clear hk3 ht
      go_wp2_with fail
      go_ret
      exact ⟨rfl, H3.out⟩
    · rw [if_neg hs, if_neg (by decide)]
      have hd : decide (Stands L (2 * n)) = false := decide_eq_false hs
      rw [hd] at hha
      have H := Lib.hid h
      clear h g hle hb hd hs hev hr1
      unfold tptr errVal errno TPost RetPost at *
      simp only [if_true, if_neg (show ¬ (13 : Nat) = 0 by decide)] at hed ⊢
      go_enter Tryd.func31, Tryd.ntmps31
      go_wp2_with fail
      refine (hed.out).mono ?_
      rintro e w1 ⟨rfl, rfl⟩
      go_wp2_with fail
      refine (hha.out).mono ?_
      rintro e w1 ⟨rfl, hk1⟩
      have H1 := Lib.hid (And.intro (H.out.keep hk1) (hk1.mono (fp' := own) fun _ _ q => q.elim))
      clear hk1
      go_wp2_with fail
      go_ret
      exact ⟨rfl, H1.out⟩
end
end Go.Proofs.YtjmkejkhpdhhbaaDoor
