/- kin: the walker: leave. -/
import Derived.Test.YtdplphhlclhmfaaDoorKiD
import Derived.Deep.RegionHeld3
import Derived.Deep.AppendLies
namespace Go.Proofs.YtdplphhlclhmfaaDoor
open Go Go.RowKit
set_option linter.unusedVariables false
set_option linter.unusedSimpArgs false
set_option maxRecDepth 100000

theorem kwrap (n : Nat) (h : n < 9223372036854775808) : IntKind.i64.wrap (n : Int) = (n : Int) := by rw [IntKind.wrap_i64]; omega
theorem kwrap64 (n : Nat) (h : n < 9223372036854775808) : wrap64 (n : Int) = (n : Int) := by unfold wrap64; omega
theorem nats_take_one (l : List Nat) (x : Nat) : nats (l ++ [x]) = nats l ++ [.int .i64 (x : Nat)] := by simp [nats]
section
variable {own : Nat → Prop} {p E B wb nb bb : Nat} {L : List (List Nat)} {num low : List Nat} {met : Nat} {bv : Value} {br : List Nat} {wr w1 : World}
theorem WkAt.setB (h : WkAt own p E B wb nb bb L num low met bv br wr) {bv' : Value} {br' : List Nat} (hk : Keeps (fun q => bv.ownBlock = some q) wr w1) (ho : w1.ownsRow B 3 1 bv' br'.length (nats br')) : WkAt own p E B wb nb bb L num low met bv' br' (w1.setCell ⟨wb, 4, none⟩ bv') := by
  have hn : ∀ q, bv.ownBlock = some q → q ≠ wb ∧ q ≠ nb ∧ q ≠ bb ∧ ¬ own q := fun q e => by
    have h1 := h.brB e
    have h2 := h.ne
    refine ⟨by omega, by omega, by omega, fun k => ?_⟩
    have := (h.lo q k).2.2.2
    omega
  have hkb : Keeps (fun k => k = wb) w1 (w1.setCell ⟨wb, 4, none⟩ bv') := (Keeps.refl (fun k => k = wb) w1).setIn wb 4 _ rfl
  refine ⟨(h.tu.kept hk fun k q e => (hn k e).2.2.2 q).kept hkb fun k q e => (h.lo k q).1 e, ?_, (h.nm.kept hk fun e => (hn nb e).2.1 rfl).kept hkb fun e => h.ne.1 e.symm, (h.lw.kept hk fun e => (hn bb e).2.2.1 rfl).kept hkb fun e => h.ne.2.1 e.symm, ownsRow_kept ho hkb fun k q e => ?_, h.nl, h.ll, h.ne, h.lo⟩
  · have := (h.blk.kept hk fun e => (hn wb e).1 rfl).set 4 bv'
    simpa using this
  · have := (ho.lt k q).1
    have := h.ne
    omega
/-- What a walker's methods may write, the bridges told. -/
def wkB (wb nb bb : Nat) (bv : Value) (q : Nat) : Prop := wkF wb nb bb q ∨ bv.ownBlock = some q
def LeavePost (own : Nat → Prop) (p E B wb nb bb : Nat) (L : List (List Nat)) (num low : List Nat) (met : Nat) (bv : Value) (br : List Nat) (w : World) (e : Ending) (w' : World) : Prop :=
  ∃ bv', e = .returned (.tuple #[]) ∧ WkAt own p E B wb nb bb L num low met bv' br w' ∧ Keeps (wkB wb nb bb bv) w w' ∧ ∀ k, bv'.ownBlock = some k → bv.ownBlock = some k ∨ w.heap.size ≤ k
/-- A root is left. -/
theorem kleave0 (h : WkAt own p E B wb nb bb L num low met bv br wr) (v : Nat) (lv : Value) :
    Calls Tryd.prog 91 #[.pointer (some ⟨wb, 0, none⟩), .agg #[.int .i64 (v : Int), .int .i64 (-1), lv]] wr (LeavePost own p E B wb nb bb L num low met bv br wr) := by
  have HW := Lib.hid h
  clear h
  unfold LeavePost
  go_enter Tryd.func91, Tryd.ntmps91
  go_wp2_with fail
  (try simp only [Exit.inBlock, Exit.then]); refine bodyPost_ret (results_none rfl _ _ _) rfl ?_
  exact ⟨bv, rfl, HW.out.keep ((Keeps.refl _ _).alloc _), (Keeps.refl _ _).alloc _, fun k e => Or.inl e⟩
set_option maxHeartbeats 8000000 in
theorem kleave (h : WkAt own p E B wb nb bb L num low met bv br wr) (hg : Good E L) {v f : Nat} (hv : v < L.length) (hs : Stands L f) (hne : vtx L f ≠ v) (lv : Value) (hbl : br.length ≤ 2097152) (hnm : ∀ x, num.getD x 0 ≤ 4194304) (hlw : ∀ x, low.getD x 0 ≤ 4194304) (hB : B ≤ wr.heap.size) :
    Calls Tryd.prog 91 #[.pointer (some ⟨wb, 0, none⟩), .agg #[.int .i64 (v : Int), .int .i64 (f : Int), lv]] wr (LeavePost own p E B wb nb bb L num (low.set (vtx L f) (min (low.getD (vtx L f) 0) (low.getD v 0))) met bv (if num.getD (vtx L f) 0 < low.getD v 0 then br ++ [f / 2] else br) wr) := by
  have hyl := hg.toWF.vtx_lt hs
  have hfb := hg.toWF.bdS hs
  have hE2 := h.tu.e2
  generalize hW : wr.alloc (.cells #[.int .i64 (v : Int), .int .i64 (f : Int), lv] 150) = w0
  have hk0 : Keeps (fun _ => False) wr w0 := by rw [← hW]; exact (Keeps.refl _ _).alloc _
  have hpb : Blk w0 wr.heap.size #[.int .i64 (v : Int), .int .i64 (f : Int), lv] 150 := by rw [← hW]; exact Blk.new _ _ _
  have HPB := Lib.hid hpb
  have HK0 := Lib.hid hk0
  have HW0 := Lib.hid (h.keep hk0)
  have HPN : Hid (wr.heap.size ≠ wb ∧ wr.heap.size ≠ nb ∧ wr.heap.size ≠ bb ∧ ∀ q, bv.ownBlock = some q → q < wr.heap.size) := Lib.hid ⟨by have := h.blk.lt; omega, by have := h.nm.lt; omega, by have := h.lw.lt; omega, fun q e => (h.br.lt q e).2⟩
  have HO : Hid (∀ W, Keeps (fun _ => False) w0 W → Calls Tryd.prog 38 #[tptr p, .int .i64 (f : Int)] W (RetPost (.tuple #[.int .i64 (vtx L f : Nat), .nilIface]) W)) := Lib.hid fun W hk => by
    have := torigin (HW0.out.tu.keep hk) (f : Int)
    rw [dErr_stands hg.toWF hs, if_pos rfl, Int.toNat_natCast, errVal_zero] at this
    exact this
  obtain ⟨c0, c1, c2, c3, c4⟩ := HW0.out.blk.cells5
  have b0 := hpb.cell (i := 0)
  have b1 := hpb.cell (i := 1)
  simp only [List.getElem?_toArray, List.getElem?_cons_zero, List.getElem?_cons_succ] at b0 b1
  have hfn : ((f : Int) == -1) = false := by rw [beq_eq_false_iff_ne]; omega
  have hvI : (v : Int) < (L.length : Int) := by omega
  have hBX : wr.heap.size < w0.heap.size := hpb.lt
  have HBW : Hid (B ≤ w0.heap.size) := Lib.hid (by omega)
  clear h hk0 hpb hs hg
  generalize vtx L f = y at *
  have hyI : (y : Int) < (L.length : Int) := by omega
  have hquo : ((f : Int).tdiv 2) = ((f / 2 : Nat) : Int) := (Int.ofNat_tdiv f 2).symm
  have hh2 : f / 2 < 2097152 := by omega
  generalize f / 2 = h2 at *
  have hq64 : wrap64 (h2 : Int) = (h2 : Int) := kwrap64 h2 (Nat.lt_of_lt_of_le hh2 (by decide))
  have hqw : IntKind.i64.wrap (h2 : Int) = (h2 : Int) := kwrap h2 (Nat.lt_of_lt_of_le hh2 (by decide))
  unfold RetPost tptr at HO
  generalize hbr2 : (if num.getD y 0 < low.getD v 0 then br ++ [h2] else br) = br2
  generalize hlw2 : low.set y (min (low.getD y 0) (low.getD v 0)) = low2
  have HBR2 := Lib.hid hbr2
  have HLW2 := Lib.hid hlw2
  clear hbr2 hlw2
  go_enter Tryd.func91, Tryd.ntmps91
  go_upto_region 1 with fail
  clear hW
  generalize hpe : wr.heap.size = pb at *
  have HPE := Lib.hid hpe
  clear hpe
  go_upto_region 2 with fail
  go_cut [4, 5] (fun s t wd => s = .int .i64 (y : Int) ∧ t = .nilIface ∧ Hid (Keeps (fun _ => False) w0 wd))
  case first =>
    have hK : Keeps (fun _ => False) w0 w0.drew := (Keeps.refl _ _).drew
    go_region_held3 (fun w' => w'.cell? ⟨wb, 0, none⟩ = some (.pointer (some ⟨p, 0, none⟩)) ∧ w'.cell? ⟨pb, 1, none⟩ = some (.int .i64 (f : Int)))
      (first | exact ⟨hK.cellF c0, hK.cellF b1⟩ | fail)
      (first
        | (go_at_call 38; with_reducible refine (HO.out _ hK).mono ?_; rintro e5 w5 ⟨rfl, hk5⟩; have hK : Keeps (fun _ => False) w0 w5 := hK.trans' hk5)
        | fail)
    all_goals
      go_wp2_with fail
      go_meet
      exact ⟨rfl, rfl, Lib.hid hK⟩
  case rest =>
    obtain ⟨rfl, rfl, HKC⟩ := hcut
    have HW1 := Lib.hid (HW0.out.keep HKC.out)
    have HPB1 := Lib.hid (HPB.out.kept HKC.out id)
    clear c0 c1 c2 c3 c4 b0 b1 HO HW0 HPB
    obtain ⟨c0, c1, c2, c3, c4⟩ := HW1.out.blk.cells5
    have b0 := HPB1.out.cell (i := 0)
    have b1 := HPB1.out.cell (i := 1)
    simp only [List.getElem?_toArray, List.getElem?_cons_zero, List.getElem?_cons_succ] at b0 b1
    have qy := HW1.out.lw.cell y
    have qv := HW1.out.lw.cell v
    rw [List.getElem?_toArray, nats_get (by rw [HW1.out.ll]; exact hyl)] at qy
    rw [List.getElem?_toArray, nats_get (by rw [HW1.out.ll]; exact hv)] at qv
    have fy := HW1.out.lw.free y
    have HW2 := Lib.hid (HW1.out.setL y (min (low.getD y 0) (low.getD v 0)))
    rw [HLW2.out] at HW2
    have HK2 : Hid (∀ z, Keeps (wkB wb nb bb bv) w0 (wc.setCell ⟨bb, y, none⟩ z)) := Lib.hid fun z => (HKC.out.mono fun _ _ q => q.elim).setIn bb y z (Or.inl (Or.inr (Or.inr rfl)))
    have HLV : Hid (low2.getD v 0 = low.getD v 0) := Lib.hid (by
      rw [← HLW2.out]
      simp only [List.getD_eq_getElem?_getD, List.getElem?_set_ne hne])
    have HPK : Hid (∀ z, Blk (wc.setCell ⟨bb, y, none⟩ z) pb #[.int .i64 (v : Int), .int .i64 (f : Int), lv] 150) := Lib.hid fun z => HPB1.out.kept ((Keeps.refl (fun q => q = bb) wc).setIn bb y z rfl) HPN.out.2.2.1
    clear HLW2
    generalize hly : low.getD y 0 = Ly at *
    generalize hlv : low.getD v 0 = Lv at *
    rw [show ((min Ly Lv : Nat) : Int) = min (Ly : Int) (Lv : Int) by omega] at HW2
    go_upto_region 4 with fail
    go_cut [] (fun wd => Hid (WkAt own p E B wb nb bb L num low2 met bv br wd ∧ Blk wd pb #[.int .i64 (v : Int), .int .i64 (f : Int), lv] 150 ∧ Keeps (wkB wb nb bb bv) w0 wd))
    case first =>
      go_region
      all_goals
        go_wp2_with fail
        go_meet
        exact Lib.hid ⟨HW2.out.keep (Keeps.refl _ _).drew, (HPK.out _).drew, (HK2.out _).drew⟩
    case rest =>
      obtain ⟨hw3, hp3, hk3⟩ := hcut.out
      have HW3 := Lib.hid hw3
      have HPB3 := Lib.hid hp3
      have HK3 := Lib.hid hk3
      clear hcut hw3 hp3 hk3 c0 c1 c2 c3 c4 b0 b1 qy qv fy HW2 HK2 HPK HPB1 HW1 HKC
      obtain ⟨c0, c1, c2, c3, c4⟩ := HW3.out.blk.cells5
      have b0 := HPB3.out.cell (i := 0)
      have b1 := HPB3.out.cell (i := 1)
      simp only [List.getElem?_toArray, List.getElem?_cons_zero, List.getElem?_cons_succ] at b0 b1
      have qv := HW3.out.lw.cell v
      have qn := HW3.out.nm.cell y
      rw [List.getElem?_toArray, nats_get (by rw [HW3.out.ll]; exact hv), HLV.out] at qv
      rw [List.getElem?_toArray, nats_get (by rw [HW3.out.nl]; exact hyl)] at qn
      have hnb := hnm y
      generalize hny : num.getD y 0 = Ny at *
      by_cases hgt : Ny < Lv
      · have hgI : (Ny : Int) < (Lv : Int) := by omega
        go_upto_region 5 with fail
        go_quiet (fail)
        go_upto_region 6 with fail
        generalize hgw : World.drewN _ _ = wc at *
        have HW4 : Hid (WkAt own p E B wb nb bb L num low2 met bv br wc) := Lib.hid (by rw [← hgw]; exact HW3.out.keep ((Keeps.refl _ _).drewN _))
        have HPB4 : Hid (Blk wc pb #[.int .i64 (v : Int), .int .i64 (f : Int), lv] 150) := Lib.hid (by rw [← hgw]; exact HPB3.out.drewN _)
        have HK4 : Hid (Keeps (wkB wb nb bb bv) w0 wc) := Lib.hid (by rw [← hgw]; exact HK3.out.drewN _)
        clear hgw c0 c1 c2 c3 c4 b0 b1 qv qn HW3 HPB3 HK3
        obtain ⟨c0, c1, c2, c3, c4⟩ := HW4.out.blk.cells5
        have b1 := HPB4.out.cell (i := 1)
        simp only [List.getElem?_toArray, List.getElem?_cons_zero, List.getElem?_cons_succ] at b1
        obtain ⟨i0, hi, hz0, hz1, hz2⟩ := info_parts infoI
        have HBR := Lib.hid HW4.out.br
        have hown2 : Hid ((wc.drew.alloc (.cells #[.int .i64 ((h2 : Nat) : Int)] 3)).ownsRow B 3 1 bv br.length (nats br)) := Lib.hid (ownsRow_kept HBR.out ((Keeps.refl (fun _ => False) _).drew.alloc _) fun _ _ k => k)
        have HK5 : Hid (∀ W, (wc.drew.alloc (.cells #[.int .i64 ((h2 : Nat) : Int)] 3)).grownBy W bv.ownBlock → Keeps (fun q => bv.ownBlock = some q) wc W) := Lib.hid fun W hg => ((Keeps.refl _ _).drew.alloc _).trans' (keeps_of_grown hg)
        have HVP : Hid (¬ (bv.ownBlock = some wb)) := Lib.hid fun e => by have := HW4.out.brB e; have := HW4.out.ne; omega
        have HP := Lib.hid HW4.out.blk
        have HMX : Hid (br.length + 1 ≤ maxLen ∧ (br.length + 1) * 8 ≤ 140737488355328 ∧ B ≤ (wc.drew.alloc (.cells #[.int .i64 ((h2 : Nat) : Int)] 3)).heap.size) := Lib.hid ⟨by unfold maxLen; omega, by omega, by have := HBW.out; have := HK4.out.size; rw [size_allocs]; simp only [World.drew] at *; omega⟩
        obtain ⟨_, _, _, _, d4a⟩ := (HP.out.alloc (.cells #[.int .i64 (h2 : Int)] 3)).cells5
        have HEND : Hid (∀ g1 cap1 w5, Keeps (fun q => bv.ownBlock = some q) wc w5 → w5.ownsRow B 3 1 (.slice (some ⟨g1, 0, none⟩) (br.length + 1) cap1) (br.length + 1) (nats br ++ [.int .i64 ((h2 : Nat) : Int)]) → (bv.ownBlock = some g1 ∨ g1 = (wc.drew.alloc (.cells #[.int .i64 ((h2 : Nat) : Int)] 3)).heap.size) →
            ∃ bv', WkAt own p E B wb nb bb L num low2 met bv' (br ++ [h2]) (w5.setCell ⟨wb, 4, none⟩ (.slice (some ⟨g1, 0, none⟩) (br.length + 1) cap1)) ∧ Keeps (wkB wb nb bb bv) w0 (w5.setCell ⟨wb, 4, none⟩ (.slice (some ⟨g1, 0, none⟩) (br.length + 1) cap1)) ∧ ∀ k, bv'.ownBlock = some k → bv.ownBlock = some k ∨ w0.heap.size ≤ k) := Lib.hid fun g1 cap1 w5 hk ho hb => by
          refine ⟨.slice (some ⟨g1, 0, none⟩) (br.length + 1) cap1, HW4.out.setB hk (by rw [List.length_append]; rw [nats_take_one]; exact ho), ((HK4.out.trans' (hk.mono fun _ _ q => Or.inr q)).setIn wb 4 _ (Or.inl (Or.inl rfl))), fun k e => ?_⟩
          simp only [Value.ownBlock, Option.some.injEq] at e
          subst e
          rcases hb with e | e
          · exact Or.inl e
          · refine Or.inr ?_
            rw [e, size_allocs]
            have := HK4.out.size
            simp only [World.drew] at *
            omega
        as_aux_lemma =>
              refine wp_region_any (by kernel_rfl) ?_
              try (change wpAny _ _ _ _ _ _ _ (World.drew _))
              refine wpAny_take (i := 0) (v := ?_) rfl (by kernel_rfl) (by kernel_rfl) (by kernel_rfl) (fun _ _ _ h => h) (Or.inl ⟨by rfl, ?_⟩) ?_
              rotate_left
              · (intro w; simp only [List.getElem_toArray, List.getElem_cons_zero, List.getElem_cons_succ]; go_simp <;> with_reducible rfl)
              try simp only [Act.put, List.getElem_toArray, List.getElem_cons_zero, List.getElem_cons_succ, List.setIfInBounds_toArray, List.set_cons_zero, List.set_cons_succ]
              refine wpAny_take (i := 1) (v := ?_) rfl (by kernel_rfl) (by kernel_rfl) (by kernel_rfl) (fun _ _ _ h => h) (Or.inl ⟨by rfl, ?_⟩) ?_
              rotate_left
              · (intro w; simp only [List.getElem_toArray, List.getElem_cons_zero, List.getElem_cons_succ]; go_simp <;> with_reducible rfl)
              try simp only [Act.put, List.getElem_toArray, List.getElem_cons_zero, List.getElem_cons_succ, List.setIfInBounds_toArray, List.set_cons_zero, List.set_cons_succ]
              refine wpAny_take (i := 2) (v := ?_) rfl (by kernel_rfl) (by kernel_rfl) (by kernel_rfl) (fun _ _ _ h => h) (Or.inl ⟨by rfl, ?_⟩) ?_
              rotate_left
              · (intro w; simp only [List.getElem_toArray, List.getElem_cons_zero, List.getElem_cons_succ]; go_simp <;> with_reducible rfl)
              try simp only [Act.put, List.getElem_toArray, List.getElem_cons_zero, List.getElem_cons_succ, List.setIfInBounds_toArray, List.set_cons_zero, List.set_cons_succ]
              refine wpAny_take (i := 3) (v := ?_) rfl (by kernel_rfl) (by kernel_rfl) (by kernel_rfl) (fun _ _ _ h => h) (Or.inl ⟨by rfl, ?_⟩) ?_
              rotate_left
              · (intro w; simp only [List.getElem_toArray, List.getElem_cons_zero, List.getElem_cons_succ]; go_simp <;> with_reducible rfl)
              try simp only [Act.put, List.getElem_toArray, List.getElem_cons_zero, List.getElem_cons_succ, List.setIfInBounds_toArray, List.set_cons_zero, List.set_cons_succ]
              refine wpAny_take (i := 5) (v := ?_) rfl (by kernel_rfl) (by kernel_rfl) (by kernel_rfl) (fun _ _ _ h => h) (Or.inl ⟨by rfl, ?_⟩) ?_
              rotate_left
              · (intro w; simp only [List.getElem_toArray, List.getElem_cons_zero, List.getElem_cons_succ]; go_simp <;> with_reducible rfl)
              try simp only [Act.put, List.getElem_toArray, List.getElem_cons_zero, List.getElem_cons_succ, List.setIfInBounds_toArray, List.set_cons_zero, List.set_cons_succ]
              refine wpAny_ready (rs := [4, 6]) (by kernel_rfl) (by simp) ?_
              refine AllReady.cons rfl (fun K hK => ?_) ?_
              · try simp only [List.getElem_toArray, List.getElem_cons_zero, List.getElem_cons_succ]
                go_simp
                refine hK _ _ ?_
                clear hK K
                try simp only [Act.put, List.getElem_toArray, List.getElem_cons_zero, List.getElem_cons_succ, List.setIfInBounds_toArray, List.set_cons_zero, List.set_cons_succ]
                refine wpAny_ready (rs := [6]) (by kernel_rfl) (by simp) ?_
                refine AllReady.cons rfl (fun K hK => ?_) ?_
                · try simp only [List.getElem_toArray, List.getElem_cons_zero, List.getElem_cons_succ]
                  go_simp
                  refine hK _ _ ?_
                  clear hK K
                  try simp only [Act.put, List.getElem_toArray, List.getElem_cons_zero, List.getElem_cons_succ, List.setIfInBounds_toArray, List.set_cons_zero, List.set_cons_succ]
                  refine wpAny_take (i := 7) (v := ?_) rfl (by kernel_rfl) (by kernel_rfl) (by kernel_rfl) (fun _ _ _ h => h) (Or.inl ⟨by rfl, ?_⟩) ?_
                  rotate_left
                  · (intro w; simp only [List.getElem_toArray, List.getElem_cons_zero, List.getElem_cons_succ]; go_simp <;> with_reducible rfl)
                  try simp only [Act.put, List.getElem_toArray, List.getElem_cons_zero, List.getElem_cons_succ, List.setIfInBounds_toArray, List.set_cons_zero, List.set_cons_succ]
                  refine wpAny_ready (rs := [8]) (by kernel_rfl) (by simp) ?_
                  refine AllReady.cons rfl (fun K hK => ?_) ?_
                  · try simp only [List.getElem_toArray, List.getElem_cons_zero, List.getElem_cons_succ]
                    go_simp
                    refine hK _ _ ?_
                    clear hK K
                    try simp only [Act.put, List.getElem_toArray, List.getElem_cons_zero, List.getElem_cons_succ, List.setIfInBounds_toArray, List.set_cons_zero, List.set_cons_succ]
                    refine wpAny_ready (rs := [9]) (by kernel_rfl) (by simp) ?_
                    refine AllReady.cons rfl (fun K hK => ?_) ?_
                    · refine step_append_lies _ rfl _ _ 23 rfl B 3 i0 (.int .i64 0) 1 8 Tryd.underlying23 hi hz0 hz1 hz2 rfl (by decide) _ _ _ rfl hown2.out ⟨wc.heap.size, 0, none⟩ 1 1 [.int .i64 (h2 : Int)] rfl rfl (World.news_of_block (Blk.new wc.drew #[.int .i64 (h2 : Int)] 3)) (by simp [Value.oneCell']) (by decide) HMX.out.1 HMX.out.2.1 HMX.out.2.2 _ rfl ?_
                      intro g1 cap1 w5 ho5 hg5 hb5 hs5
                      have hk5 := HK5.out _ hg5
                      have d4 := hk5.cellO c4 HVP.out
                      have df4 := (HP.out.kept hk5 HVP.out).free 4
                      have dpl := (HP.out.kept hk5 HVP.out).lt
                      refine hK _ _ ?_
                      clear hK K
                      try simp only [Act.put, List.getElem_toArray, List.getElem_cons_zero, List.getElem_cons_succ, List.setIfInBounds_toArray, List.set_cons_zero, List.set_cons_succ]
                      refine wpAny_take (i := 10) (v := ?_) rfl (by kernel_rfl) (by kernel_rfl) (by kernel_rfl) (fun _ _ _ h => h) (Or.inl ⟨by rfl, ?_⟩) ?_
                      rotate_left
                      · (intro w; simp only [List.getElem_toArray, List.getElem_cons_zero, List.getElem_cons_succ]; go_simp <;> with_reducible rfl)
                      try simp only [Act.put, List.getElem_toArray, List.getElem_cons_zero, List.getElem_cons_succ, List.setIfInBounds_toArray, List.set_cons_zero, List.set_cons_succ]
                      refine wpAny_take (i := 11) (v := ?_) rfl (by kernel_rfl) (by kernel_rfl) (by kernel_rfl) (fun _ _ _ h => h) (Or.inl ⟨by rfl, ?_⟩) ?_
                      rotate_left
                      · (intro w; simp only [List.getElem_toArray, List.getElem_cons_zero, List.getElem_cons_succ]; go_simp <;> with_reducible rfl)
                      try simp only [Act.put, List.getElem_toArray, List.getElem_cons_zero, List.getElem_cons_succ, List.setIfInBounds_toArray, List.set_cons_zero, List.set_cons_succ]
                      refine wpAny_ready (rs := [12]) (by kernel_rfl) (by simp) ?_
                      refine AllReady.cons rfl (fun K hK => ?_) ?_
                      · try simp only [List.getElem_toArray, List.getElem_cons_zero, List.getElem_cons_succ]
                        go_simp
                        refine hK _ _ ?_
                        clear hK K
                        try simp only [Act.put, List.getElem_toArray, List.getElem_cons_zero, List.getElem_cons_succ, List.setIfInBounds_toArray, List.set_cons_zero, List.set_cons_succ]
                        refine wpAny_done (by kernel_rfl) ?_ _
                        have HEN := Lib.hid (HEND.out _ _ _ hk5 ho5 hb5)
                        clear hk5 ho5 hg5 hb5 hs5 d4 df4 dpl
                        go_wp2_with fail
                        go_end0
                        have hb2 := HBR2.out; rw [if_pos hgt] at hb2; subst hb2
                        obtain ⟨bv', hw6, hk6, ho6⟩ := HEN.out
                        exact ⟨bv', rfl, hw6, (HK0.out.mono fun _ _ q => q.elim).trans' hk6, fun k e => (ho6 k e).imp id fun q => by have := HK0.out.size; omega⟩
                      exact AllReady.nil
                    exact AllReady.nil
                  exact AllReady.nil
                exact AllReady.nil
              refine AllReady.cons rfl (fun K hK => ?_) ?_
              · try simp only [List.getElem_toArray, List.getElem_cons_zero, List.getElem_cons_succ]
                go_simp
                refine hK _ _ ?_
                clear hK K
                try simp only [Act.put, List.getElem_toArray, List.getElem_cons_zero, List.getElem_cons_succ, List.setIfInBounds_toArray, List.set_cons_zero, List.set_cons_succ]
                refine wpAny_take (i := 7) (v := ?_) rfl (by kernel_rfl) (by kernel_rfl) (by kernel_rfl) (fun _ _ _ h => h) (Or.inl ⟨by rfl, ?_⟩) ?_
                rotate_left
                · (intro w; simp only [List.getElem_toArray, List.getElem_cons_zero, List.getElem_cons_succ]; go_simp <;> with_reducible rfl)
                try simp only [Act.put, List.getElem_toArray, List.getElem_cons_zero, List.getElem_cons_succ, List.setIfInBounds_toArray, List.set_cons_zero, List.set_cons_succ]
                refine wpAny_ready (rs := [4, 8]) (by kernel_rfl) (by simp) ?_
                refine AllReady.cons rfl (fun K hK => ?_) ?_
                · try simp only [List.getElem_toArray, List.getElem_cons_zero, List.getElem_cons_succ]
                  go_simp
                  refine hK _ _ ?_
                  clear hK K
                  try simp only [Act.put, List.getElem_toArray, List.getElem_cons_zero, List.getElem_cons_succ, List.setIfInBounds_toArray, List.set_cons_zero, List.set_cons_succ]
                  refine wpAny_ready (rs := [8]) (by kernel_rfl) (by simp) ?_
                  refine AllReady.cons rfl (fun K hK => ?_) ?_
                  · try simp only [List.getElem_toArray, List.getElem_cons_zero, List.getElem_cons_succ]
                    go_simp
                    refine hK _ _ ?_
                    clear hK K
                    try simp only [Act.put, List.getElem_toArray, List.getElem_cons_zero, List.getElem_cons_succ, List.setIfInBounds_toArray, List.set_cons_zero, List.set_cons_succ]
                    refine wpAny_ready (rs := [9]) (by kernel_rfl) (by simp) ?_
                    refine AllReady.cons rfl (fun K hK => ?_) ?_
                    · refine step_append_lies _ rfl _ _ 23 rfl B 3 i0 (.int .i64 0) 1 8 Tryd.underlying23 hi hz0 hz1 hz2 rfl (by decide) _ _ _ rfl hown2.out ⟨wc.heap.size, 0, none⟩ 1 1 [.int .i64 (h2 : Int)] rfl rfl (World.news_of_block (Blk.new wc.drew #[.int .i64 (h2 : Int)] 3)) (by simp [Value.oneCell']) (by decide) HMX.out.1 HMX.out.2.1 HMX.out.2.2 _ rfl ?_
                      intro g1 cap1 w5 ho5 hg5 hb5 hs5
                      have hk5 := HK5.out _ hg5
                      have d4 := hk5.cellO c4 HVP.out
                      have df4 := (HP.out.kept hk5 HVP.out).free 4
                      have dpl := (HP.out.kept hk5 HVP.out).lt
                      refine hK _ _ ?_
                      clear hK K
                      try simp only [Act.put, List.getElem_toArray, List.getElem_cons_zero, List.getElem_cons_succ, List.setIfInBounds_toArray, List.set_cons_zero, List.set_cons_succ]
                      refine wpAny_take (i := 10) (v := ?_) rfl (by kernel_rfl) (by kernel_rfl) (by kernel_rfl) (fun _ _ _ h => h) (Or.inl ⟨by rfl, ?_⟩) ?_
                      rotate_left
                      · (intro w; simp only [List.getElem_toArray, List.getElem_cons_zero, List.getElem_cons_succ]; go_simp <;> with_reducible rfl)
                      try simp only [Act.put, List.getElem_toArray, List.getElem_cons_zero, List.getElem_cons_succ, List.setIfInBounds_toArray, List.set_cons_zero, List.set_cons_succ]
                      refine wpAny_take (i := 11) (v := ?_) rfl (by kernel_rfl) (by kernel_rfl) (by kernel_rfl) (fun _ _ _ h => h) (Or.inl ⟨by rfl, ?_⟩) ?_
                      rotate_left
                      · (intro w; simp only [List.getElem_toArray, List.getElem_cons_zero, List.getElem_cons_succ]; go_simp <;> with_reducible rfl)
                      try simp only [Act.put, List.getElem_toArray, List.getElem_cons_zero, List.getElem_cons_succ, List.setIfInBounds_toArray, List.set_cons_zero, List.set_cons_succ]
                      refine wpAny_ready (rs := [12]) (by kernel_rfl) (by simp) ?_
                      refine AllReady.cons rfl (fun K hK => ?_) ?_
                      · try simp only [List.getElem_toArray, List.getElem_cons_zero, List.getElem_cons_succ]
                        go_simp
                        refine hK _ _ ?_
                        clear hK K
                        try simp only [Act.put, List.getElem_toArray, List.getElem_cons_zero, List.getElem_cons_succ, List.setIfInBounds_toArray, List.set_cons_zero, List.set_cons_succ]
                        refine wpAny_done (by kernel_rfl) ?_ _
                        have HEN := Lib.hid (HEND.out _ _ _ hk5 ho5 hb5)
                        clear hk5 ho5 hg5 hb5 hs5 d4 df4 dpl
                        go_wp2_with fail
                        go_end0
                        have hb2 := HBR2.out; rw [if_pos hgt] at hb2; subst hb2
                        obtain ⟨bv', hw6, hk6, ho6⟩ := HEN.out
                        exact ⟨bv', rfl, hw6, (HK0.out.mono fun _ _ q => q.elim).trans' hk6, fun k e => (ho6 k e).imp id fun q => by have := HK0.out.size; omega⟩
                      exact AllReady.nil
                    exact AllReady.nil
                  exact AllReady.nil
                refine AllReady.cons rfl (fun K hK => ?_) ?_
                · try simp only [List.getElem_toArray, List.getElem_cons_zero, List.getElem_cons_succ]
                  go_simp
                  refine hK _ _ ?_
                  clear hK K
                  try simp only [Act.put, List.getElem_toArray, List.getElem_cons_zero, List.getElem_cons_succ, List.setIfInBounds_toArray, List.set_cons_zero, List.set_cons_succ]
                  refine wpAny_ready (rs := [4]) (by kernel_rfl) (by simp) ?_
                  refine AllReady.cons rfl (fun K hK => ?_) ?_
                  · try simp only [List.getElem_toArray, List.getElem_cons_zero, List.getElem_cons_succ]
                    go_simp
                    refine hK _ _ ?_
                    clear hK K
                    try simp only [Act.put, List.getElem_toArray, List.getElem_cons_zero, List.getElem_cons_succ, List.setIfInBounds_toArray, List.set_cons_zero, List.set_cons_succ]
                    refine wpAny_ready (rs := [9]) (by kernel_rfl) (by simp) ?_
                    refine AllReady.cons rfl (fun K hK => ?_) ?_
                    · refine step_append_lies _ rfl _ _ 23 rfl B 3 i0 (.int .i64 0) 1 8 Tryd.underlying23 hi hz0 hz1 hz2 rfl (by decide) _ _ _ rfl hown2.out ⟨wc.heap.size, 0, none⟩ 1 1 [.int .i64 (h2 : Int)] rfl rfl (World.news_of_block (Blk.new wc.drew #[.int .i64 (h2 : Int)] 3)) (by simp [Value.oneCell']) (by decide) HMX.out.1 HMX.out.2.1 HMX.out.2.2 _ rfl ?_
                      intro g1 cap1 w5 ho5 hg5 hb5 hs5
                      have hk5 := HK5.out _ hg5
                      have d4 := hk5.cellO c4 HVP.out
                      have df4 := (HP.out.kept hk5 HVP.out).free 4
                      have dpl := (HP.out.kept hk5 HVP.out).lt
                      refine hK _ _ ?_
                      clear hK K
                      try simp only [Act.put, List.getElem_toArray, List.getElem_cons_zero, List.getElem_cons_succ, List.setIfInBounds_toArray, List.set_cons_zero, List.set_cons_succ]
                      refine wpAny_take (i := 10) (v := ?_) rfl (by kernel_rfl) (by kernel_rfl) (by kernel_rfl) (fun _ _ _ h => h) (Or.inl ⟨by rfl, ?_⟩) ?_
                      rotate_left
                      · (intro w; simp only [List.getElem_toArray, List.getElem_cons_zero, List.getElem_cons_succ]; go_simp <;> with_reducible rfl)
                      try simp only [Act.put, List.getElem_toArray, List.getElem_cons_zero, List.getElem_cons_succ, List.setIfInBounds_toArray, List.set_cons_zero, List.set_cons_succ]
                      refine wpAny_take (i := 11) (v := ?_) rfl (by kernel_rfl) (by kernel_rfl) (by kernel_rfl) (fun _ _ _ h => h) (Or.inl ⟨by rfl, ?_⟩) ?_
                      rotate_left
                      · (intro w; simp only [List.getElem_toArray, List.getElem_cons_zero, List.getElem_cons_succ]; go_simp <;> with_reducible rfl)
                      try simp only [Act.put, List.getElem_toArray, List.getElem_cons_zero, List.getElem_cons_succ, List.setIfInBounds_toArray, List.set_cons_zero, List.set_cons_succ]
                      refine wpAny_ready (rs := [12]) (by kernel_rfl) (by simp) ?_
                      refine AllReady.cons rfl (fun K hK => ?_) ?_
                      · try simp only [List.getElem_toArray, List.getElem_cons_zero, List.getElem_cons_succ]
                        go_simp
                        refine hK _ _ ?_
                        clear hK K
                        try simp only [Act.put, List.getElem_toArray, List.getElem_cons_zero, List.getElem_cons_succ, List.setIfInBounds_toArray, List.set_cons_zero, List.set_cons_succ]
                        refine wpAny_done (by kernel_rfl) ?_ _
                        have HEN := Lib.hid (HEND.out _ _ _ hk5 ho5 hb5)
                        clear hk5 ho5 hg5 hb5 hs5 d4 df4 dpl
                        go_wp2_with fail
                        go_end0
                        have hb2 := HBR2.out; rw [if_pos hgt] at hb2; subst hb2
                        obtain ⟨bv', hw6, hk6, ho6⟩ := HEN.out
                        exact ⟨bv', rfl, hw6, (HK0.out.mono fun _ _ q => q.elim).trans' hk6, fun k e => (ho6 k e).imp id fun q => by have := HK0.out.size; omega⟩
                      exact AllReady.nil
                    exact AllReady.nil
                  exact AllReady.nil
                exact AllReady.nil
              exact AllReady.nil
      · have hgI : ¬ ((Ny : Int) < (Lv : Int)) := by omega
        go_upto_region 5 with fail
        go_quiet (fail)
        go_wp2_with fail
        go_end0
        have hb2 := HBR2.out; rw [if_neg hgt] at hb2; subst hb2
        exact ⟨bv, rfl, HW3.out.keep ((Keeps.refl _ _).drewN _), (HK0.out.mono fun _ _ q => q.elim).trans' (HK3.out.drewN _), fun k e => Or.inl e⟩
end
end Go.Proofs.YtdplphhlclhmfaaDoor
