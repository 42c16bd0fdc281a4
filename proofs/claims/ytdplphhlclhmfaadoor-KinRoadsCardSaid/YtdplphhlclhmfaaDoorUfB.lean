/- unite: Join. -/
import Derived.Test.YtdplphhlclhmfaaDoorUfA
import Derived.Deep.AppendLies
import Derived.Deep.RegionHeld3
namespace Go.Proofs.YtdplphhlclhmfaaDoor
open Go Go.RowKit
set_option linter.unusedVariables false
set_option linter.unusedSimpArgs false
set_option maxRecDepth 100000

theorem infoSt : (Tryd.prog.info? 181).map (fun i => (i.zero, i.size, i.bytes)) = some (some (.agg #[.int .i32 0, .int .i32 0, .int .i32 0]), 3, 12) := by kernel_rfl
theorem size_allocs (X : World) (o : Obj) : (X.drew.alloc o).heap.size = X.heap.size + 1 := by simp
/-- Joined. -/
def JoinPost (own : Nat → Prop) (p n k : Nat) (g : List Nat) (w : World) (e : Ending) (w' : World) : Prop :=
  ∃ own' b, e = .returned (.tuple #[.bool b, .nilIface]) ∧ Uf w' own' p n k g ∧ (∀ q, own' q → own q ∨ w.heap.size ≤ q) ∧ Keeps own w w'
theorem joined {w wc : World} {p a s t Bs n k2 k : Nat} {A S T g : List Nat} {vs v' : Value} {rt hgt : Nat → Nat} {H : Nat} (hx : UX wc p a s t Bs n k2 A S T v') (hr : URel n A S T g rt hgt H) (hn : n ≤ 1048576) (h1 : k2 ≤ k) (h2 : k ≤ 2097152)
    (hb : ∀ q, v'.ownBlock = some q → vs.ownBlock = some q ∨ w.heap.size ≤ q) (hk : Keeps (UX.own p a s t vs) w wc) :
    ∃ own', Uf wc own' p n k g ∧ (∀ q, own' q → UX.own p a s t vs q ∨ w.heap.size ≤ q) ∧ Keeps (UX.own p a s t vs) w wc := by
  refine ⟨_, ⟨a, s, t, Bs, k2, A, S, T, v', rt, hgt, H, hx, hr, rfl, hn, h1, h2⟩, ?_, hk⟩
  rintro q (e | e | e | e | e)
  · exact Or.inl (Or.inl e)
  · exact Or.inl (Or.inr (Or.inl e))
  · exact Or.inl (Or.inr (Or.inr (Or.inl e)))
  · exact Or.inl (Or.inr (Or.inr (Or.inr (Or.inl e))))
  · rcases hb q e with e | e
    · exact Or.inl (Or.inr (Or.inr (Or.inr (Or.inr e))))
    · exact Or.inr e
section
variable {w : World} {own : Nat → Prop} {p n k : Nat} {g : List Nat}
set_option maxHeartbeats 4000000 in
theorem ujoin (h : Uf w own p n k g) (hk : k < 2097152) {u v : Nat} (hu : u < n) (hv : v < n) :
    Calls Tryd.prog 84 #[tptr p, .int .i64 (u : Int), .int .i64 (v : Int)] w (JoinPost own p n (k + 1) (joinG g u v) w) := by
  obtain ⟨a, s, t, Bs, k2, A, S, T, vs, rt, hgt, H, hux, hr, rfl, hn, hk2, _⟩ := h
  have HT := Lib.hid (utwo hux hr hn hu hv)
  have HUX := Lib.hid hux
  have HR := Lib.hid hr
  by_cases e : rt u = rt v
  · have hg : joinG g u v = g := by unfold joinG; rw [if_pos ((hr.same u v hu hv).1 e)]
    have HG := Lib.hid hg
    rw [e] at HT
    have hbb : (((rt v : Nat) : Int) == ((rt v : Nat) : Int)) = true := by simp
    clear hux hr hg e
    generalize hrv : rt v = rv at HT hbb
    clear hrv
    unfold RetPost tptr at *
    go_enter Tryd.func84, Tryd.ntmps84
    go_wp2_with fail
    with_reducible refine HT.out.mono ?_
    rintro e w1 ⟨rfl, hk1⟩
    have H1 := Lib.hid hk1
    clear hk1
    go_wp2_with fail
    go_ret2
    refine ⟨UX.own p a s t vs, false, rfl, ?_⟩
    · rw [HG.out]
      exact ⟨⟨a, s, t, Bs, k2, A, S, T, vs, rt, hgt, H, HUX.out.keep H1.out, HR.out, rfl, hn, by omega, by omega⟩, fun q e => Or.inl e, H1.out.mono fun _ _ q => q.elim⟩
  · have hbb : (((rt u : Nat) : Int) == ((rt v : Nat) : Int)) = false := by rw [beq_eq_false_iff_ne]; omega
    have HNE := Lib.hid e
    have HCM := Lib.hid (join_comm hr.ok u v)
    clear hux hr e
    unfold RetPost tptr at *
    go_enter Tryd.func84, Tryd.ntmps84
    go_wp2_with fail
    with_reducible refine HT.out.mono ?_
    rintro e w1 ⟨rfl, hk1⟩
    have HU1 := Lib.hid (HUX.out.keep hk1)
    have H1 := Lib.hid hk1
    clear hk1 HT HUX
    obtain ⟨_, c1, _, _⟩ := HU1.out.heads
    have hrul := HR.out.rlt u hu
    have hrvl := HR.out.rlt v hv
    have hsu : w1.cell? ⟨s, rt u, none⟩ = some (.int .i32 ((S.getD (rt u) 0 : Nat) : Int)) := by rw [HU1.out.b2.cell, i32n_get (by rw [HR.out.ls]; exact hrul)]
    have hsv : w1.cell? ⟨s, rt v, none⟩ = some (.int .i32 ((S.getD (rt v) 0 : Nat) : Int)) := by rw [HU1.out.b2.cell, i32n_get (by rw [HR.out.ls]; exact hrvl)]
    have hruI : ((rt u : Nat) : Int) < (n : Int) := by omega
    have hrvI : ((rt v : Nat) : Int) < (n : Int) := by omega
    go_upto_region 4 with fail
    by_cases hgt' : S.getD (rt v) 0 < S.getD (rt u) 0
    · have hd : decide (((S.getD (rt v) 0 : Nat) : Int) < ((S.getD (rt u) 0 : Nat) : Int)) = true := decide_eq_true (by omega)
      have HJ : Hid (joinG g u v = joinG g v u) := Lib.hid HCM.out
      have hne' : rt v ≠ rt u := fun q => HNE.out q.symm
      have hcl := HR.out.rlt v hv
      have hdl := HR.out.rlt u hu
      have HRJ := Lib.hid (HR.out.join hv hu hne')
      obtain ⟨hsum, _, _⟩ := HR.out.sum hv hu hne'
      have hbw := HU1.out.Bw
      have hxy : rt v ≠ rt u := hne'
      have HLA := Lib.hid HR.out.la
      have HLS := Lib.hid HR.out.ls
      have HLT := Lib.hid HR.out.lt
      clear HNE HCM
      generalize hxe : rt v = x at *
      generalize hye : rt u = y at *
      go_quiet (fail)
      go_upto_region 6 with fail
      generalize hwc : World.drewN _ _ = wc at *
      have HUC : Hid (UX wc p a s t Bs n k2 A S T vs) := Lib.hid (by rw [← hwc]; exact HU1.out.keep ((Keeps.refl _ _).drewN _))
      have KC : Hid (Keeps (fun _ => False) w wc) := Lib.hid (by rw [← hwc]; exact H1.out.drewN _)
      clear hwc HU1 H1 c1 hsu hsv
      have hxI : (x : Int) < (n : Int) := by omega
      have hyI : (y : Int) < (n : Int) := by omega
      obtain ⟨c0, c1, c2, c3⟩ := HUC.out.heads
      have hTy : wc.cell? ⟨t, y, none⟩ = some (.int .i32 ((T.getD y 0 : Nat) : Int)) := by rw [HUC.out.b3.cell, i32n_get (by rw [HLT.out]; exact hdl)]
      obtain ⟨i0, hi, hz0, hz1, hz2⟩ := info_parts infoSt
      obtain ⟨xs, hst⟩ := HUC.out.st
      have hown2 : Hid ((wc.drew.alloc (.cells #[.int .i32 (x : Int), .int .i32 (y : Int), .int .i32 ((T.getD y 0 : Nat) : Int)] 181)).ownsRow Bs 181 3 vs k2 xs) := Lib.hid (hst.alloc _)
      have HK5 : Hid (∀ W, (wc.drew.alloc (.cells #[.int .i32 (x : Int), .int .i32 (y : Int), .int .i32 ((T.getD y 0 : Nat) : Int)] 181)).grownBy W vs.ownBlock → Keeps (fun q => vs.ownBlock = some q) wc W) := Lib.hid fun W hg => ((Keeps.refl _ _).drew.alloc _).trans' (keeps_of_grown hg)
      have HVP : Hid (¬ (vs.ownBlock = some p)) := Lib.hid fun e => by have := (hst.lt p e).1; have := HUC.out.lo.1; omega
      have f3 := HUC.out.head.free 3
      have HP := Lib.hid HUC.out.head
      have HMX : Hid (k2 + 1 ≤ maxLen ∧ (k2 + 1) * 12 ≤ 140737488355328 ∧ Bs ≤ (wc.drew.alloc (.cells #[.int .i32 (x : Int), .int .i32 (y : Int), .int .i32 ((T.getD y 0 : Nat) : Int)] 181)).heap.size) := Lib.hid ⟨by unfold maxLen; omega, by omega, by rw [size_allocs]; exact Nat.le_succ_of_le HUC.out.Bw⟩
      have HWB : Hid (w.heap.size ≤ (wc.drew.alloc (.cells #[.int .i32 (x : Int), .int .i32 (y : Int), .int .i32 ((T.getD y 0 : Nat) : Int)] 181)).heap.size) := Lib.hid (by rw [size_allocs]; exact Nat.le_succ_of_le KC.out.size)
      have HWC : Hid (∀ W, Keeps (fun q => vs.ownBlock = some q) wc W → ∀ z, Keeps (UX.own p a s t vs) w (W.setCell ⟨p, 3, none⟩ z)) := Lib.hid fun W h z => ((KC.out.mono (fp' := UX.own p a s t vs) fun _ _ q => q.elim).trans' (h.mono (fp' := UX.own p a s t vs) fun _ _ q => Or.inr (Or.inr (Or.inr (Or.inr q))))).setIn p 3 z (Or.inl rfl)
      clear hst
      generalize hTe : T.getD y 0 = Ty at *
      have c3a : (wc.alloc (.cells #[.int .i32 (x : Int), .int .i32 (y : Int), .int .i32 (Ty : Int)] 181)).cell? ⟨p, 3, none⟩ = some vs := ((Keeps.refl _ _).alloc _).cellF c3
      go_cut [] (fun wd => Hid (∃ v' g1, v'.ownBlock = some g1 ∧ (vs.ownBlock = some g1 ∨ w.heap.size ≤ g1) ∧ UX wd p a s t Bs n (k2 + 1) A S T v' ∧ Keeps (UX.own p a s t vs) w wd))
      case first =>
        as_aux_lemma =>
        refine wp_region_any (by kernel_rfl) ?_
        try (change wpAny _ _ _ _ _ _ _ (World.drew _))
        refine wpAny_take (i := 0) (v := ?_) rfl (by kernel_rfl) (by kernel_rfl) (by kernel_rfl) (fun _ _ _ h => h) (Or.inl ⟨by rfl, ?_⟩) ?_
        rotate_left
        · (intro w; simp only [List.getElem_toArray, List.getElem_cons_zero, List.getElem_cons_succ]; go_simp <;> with_reducible rfl)
        try simp only [Act.put, List.getElem_toArray, List.getElem_cons_zero, List.getElem_cons_succ, List.setIfInBounds_toArray, List.set_cons_zero, List.set_cons_succ]
        refine wpAny_take (i := 1) (v := ?_) rfl (by kernel_rfl) (by kernel_rfl) (by kernel_rfl) (fun _ _ _ h => h) (Or.inl ⟨by rfl, ?_⟩) ?_
        rotate_left
        · (intro w; simp only [List.getElem_toArray, List.getElem_cons_zero, List.getElem_cons_succ]; go_simp <;> with_reducible rfl)
        try simp only [Act.put, List.getElem_toArray, List.getElem_cons_zero, List.getElem_cons_succ, List.setIfInBounds_toArray, List.set_cons_zero, List.set_cons_succ]
        refine wpAny_take (i := 2) (v := ?_) rfl (by kernel_rfl) (by kernel_rfl) (by kernel_rfl) (fun _ _ _ h => h) (Or.inl ⟨by rfl, ?_⟩) ?_
        rotate_left
        · (intro w; simp only [List.getElem_toArray, List.getElem_cons_zero, List.getElem_cons_succ]; go_simp <;> with_reducible rfl)
        try simp only [Act.put, List.getElem_toArray, List.getElem_cons_zero, List.getElem_cons_succ, List.setIfInBounds_toArray, List.set_cons_zero, List.set_cons_succ]
        refine wpAny_take (i := 3) (v := ?_) rfl (by kernel_rfl) (by kernel_rfl) (by kernel_rfl) (fun _ _ _ h => h) (Or.inl ⟨by rfl, ?_⟩) ?_
        rotate_left
        · (intro w; simp only [List.getElem_toArray, List.getElem_cons_zero, List.getElem_cons_succ]; go_simp <;> with_reducible rfl)
        try simp only [Act.put, List.getElem_toArray, List.getElem_cons_zero, List.getElem_cons_succ, List.setIfInBounds_toArray, List.set_cons_zero, List.set_cons_succ]
        refine wpAny_take (i := 5) (v := ?_) rfl (by kernel_rfl) (by kernel_rfl) (by kernel_rfl) (fun _ _ _ h => h) (Or.inl ⟨by rfl, ?_⟩) ?_
        rotate_left
        · (intro w; simp only [List.getElem_toArray, List.getElem_cons_zero, List.getElem_cons_succ]; go_simp <;> with_reducible rfl)
        try simp only [Act.put, List.getElem_toArray, List.getElem_cons_zero, List.getElem_cons_succ, List.setIfInBounds_toArray, List.set_cons_zero, List.set_cons_succ]
        refine wpAny_take (i := 6) (v := ?_) rfl (by kernel_rfl) (by kernel_rfl) (by kernel_rfl) (fun _ _ _ h => h) (Or.inl ⟨by rfl, ?_⟩) ?_
        rotate_left
        · (intro w; simp only [List.getElem_toArray, List.getElem_cons_zero, List.getElem_cons_succ]; go_simp <;> with_reducible rfl)
        try simp only [Act.put, List.getElem_toArray, List.getElem_cons_zero, List.getElem_cons_succ, List.setIfInBounds_toArray, List.set_cons_zero, List.set_cons_succ]
        refine wpAny_take (i := 7) (v := ?_) rfl (by kernel_rfl) (by kernel_rfl) (by kernel_rfl) (fun _ _ _ h => h) (Or.inl ⟨by rfl, ?_⟩) ?_
        rotate_left
        · (intro w; simp only [List.getElem_toArray, List.getElem_cons_zero, List.getElem_cons_succ]; go_simp <;> with_reducible rfl)
        try simp only [Act.put, List.getElem_toArray, List.getElem_cons_zero, List.getElem_cons_succ, List.setIfInBounds_toArray, List.set_cons_zero, List.set_cons_succ]
        refine wpAny_take (i := 8) (v := ?_) rfl (by kernel_rfl) (by kernel_rfl) (by kernel_rfl) (fun _ _ _ h => h) (Or.inl ⟨by rfl, ?_⟩) ?_
        rotate_left
        · (intro w; simp only [List.getElem_toArray, List.getElem_cons_zero, List.getElem_cons_succ]; go_simp <;> with_reducible rfl)
        try simp only [Act.put, List.getElem_toArray, List.getElem_cons_zero, List.getElem_cons_succ, List.setIfInBounds_toArray, List.set_cons_zero, List.set_cons_succ]
        refine wpAny_take (i := 9) (v := ?_) rfl (by kernel_rfl) (by kernel_rfl) (by kernel_rfl) (fun _ _ _ h => h) (Or.inl ⟨by rfl, ?_⟩) ?_
        rotate_left
        · (intro w; simp only [List.getElem_toArray, List.getElem_cons_zero, List.getElem_cons_succ]; go_simp <;> with_reducible rfl)
        try simp only [Act.put, List.getElem_toArray, List.getElem_cons_zero, List.getElem_cons_succ, List.setIfInBounds_toArray, List.set_cons_zero, List.set_cons_succ]
        refine wpAny_take (i := 11) (v := ?_) rfl (by kernel_rfl) (by kernel_rfl) (by kernel_rfl) (fun _ _ _ h => h) (Or.inl ⟨by rfl, ?_⟩) ?_
        rotate_left
        · (intro w; simp only [List.getElem_toArray, List.getElem_cons_zero, List.getElem_cons_succ]; go_simp <;> with_reducible rfl)
        try simp only [Act.put, List.getElem_toArray, List.getElem_cons_zero, List.getElem_cons_succ, List.setIfInBounds_toArray, List.set_cons_zero, List.set_cons_succ]
        refine wpAny_ready (rs := [4, 10]) (by kernel_rfl) (by simp) ?_
        refine AllReady.cons rfl (fun K hK => ?_) ?_
        · try simp only [List.getElem_toArray, List.getElem_cons_zero, List.getElem_cons_succ]
          go_simp
          refine hK _ _ ?_
          clear hK K
          try simp only [Act.put, List.getElem_toArray, List.getElem_cons_zero, List.getElem_cons_succ, List.setIfInBounds_toArray, List.set_cons_zero, List.set_cons_succ]
          refine wpAny_ready (rs := [10]) (by kernel_rfl) (by simp) ?_
          refine AllReady.cons rfl (fun K hK => ?_) ?_
          · try simp only [List.getElem_toArray, List.getElem_cons_zero, List.getElem_cons_succ]
            go_simp
            refine hK _ _ ?_
            clear hK K
            try simp only [Act.put, List.getElem_toArray, List.getElem_cons_zero, List.getElem_cons_succ, List.setIfInBounds_toArray, List.set_cons_zero, List.set_cons_succ]
            refine wpAny_take (i := 12) (v := ?_) rfl (by kernel_rfl) (by kernel_rfl) (by kernel_rfl) (fun _ _ _ h => h) (Or.inl ⟨by rfl, ?_⟩) ?_
            rotate_left
            · (intro w; simp only [List.getElem_toArray, List.getElem_cons_zero, List.getElem_cons_succ]; go_simp <;> with_reducible rfl)
            try simp only [Act.put, List.getElem_toArray, List.getElem_cons_zero, List.getElem_cons_succ, List.setIfInBounds_toArray, List.set_cons_zero, List.set_cons_succ]
            refine wpAny_ready (rs := [13]) (by kernel_rfl) (by simp) ?_
            refine AllReady.cons rfl (fun K hK => ?_) ?_
            · try simp only [List.getElem_toArray, List.getElem_cons_zero, List.getElem_cons_succ]
              go_simp
              refine hK _ _ ?_
              clear hK K
              try simp only [Act.put, List.getElem_toArray, List.getElem_cons_zero, List.getElem_cons_succ, List.setIfInBounds_toArray, List.set_cons_zero, List.set_cons_succ]
              refine wpAny_take (i := 14) (v := ?_) rfl (by kernel_rfl) (by kernel_rfl) (by kernel_rfl) (fun _ _ _ h => h) (Or.inl ⟨by rfl, ?_⟩) ?_
              rotate_left
              · (intro w; simp only [List.getElem_toArray, List.getElem_cons_zero, List.getElem_cons_succ]; go_simp <;> with_reducible rfl)
              try simp only [Act.put, List.getElem_toArray, List.getElem_cons_zero, List.getElem_cons_succ, List.setIfInBounds_toArray, List.set_cons_zero, List.set_cons_succ]
              refine wpAny_ready (rs := [15]) (by kernel_rfl) (by simp) ?_
              refine AllReady.cons rfl (fun K hK => ?_) ?_
              · try simp only [List.getElem_toArray, List.getElem_cons_zero, List.getElem_cons_succ]
                go_simp
                refine hK _ _ ?_
                clear hK K
                try simp only [Act.put, List.getElem_toArray, List.getElem_cons_zero, List.getElem_cons_succ, List.setIfInBounds_toArray, List.set_cons_zero, List.set_cons_succ]
                refine wpAny_ready (rs := [16]) (by kernel_rfl) (by simp) ?_
                refine AllReady.cons rfl (fun K hK => ?_) ?_
                · refine step_append_lies _ rfl _ _ 177 rfl Bs 181 i0 (.agg #[.int .i32 0, .int .i32 0, .int .i32 0]) 3 12 Tryd.underlying177 hi hz0 hz1 hz2 rfl (by decide) _ _ _ rfl hown2.out ⟨wc.heap.size, 0, none⟩ 1 1 [.int .i32 (x : Int), .int .i32 (y : Int), .int .i32 (Ty : Int)] rfl rfl (World.news_of_block (Blk.new wc.drew #[.int .i32 (x : Int), .int .i32 (y : Int), .int .i32 (Ty : Int)] 181)) (by simp [Value.oneCell']) (by decide) HMX.out.1 HMX.out.2.1 HMX.out.2.2 _ rfl ?_
                  intro g1 cap1 w5 ho5 hg5 hb5 hs5
                  have hk5 := HK5.out _ hg5
                  have d3 := hk5.cellO c3 HVP.out
                  have df3 := (HP.out.kept hk5 HVP.out).free 3
                  have dpl := (HP.out.kept hk5 HVP.out).lt
                  refine hK _ _ ?_
                  clear hK K
                  try simp only [Act.put, List.getElem_toArray, List.getElem_cons_zero, List.getElem_cons_succ, List.setIfInBounds_toArray, List.set_cons_zero, List.set_cons_succ]
                  refine wpAny_take (i := 17) (v := ?_) rfl (by kernel_rfl) (by kernel_rfl) (by kernel_rfl) (fun _ _ _ h => h) (Or.inl ⟨by rfl, ?_⟩) ?_
                  rotate_left
                  · (intro w; simp only [List.getElem_toArray, List.getElem_cons_zero, List.getElem_cons_succ]; go_simp <;> with_reducible rfl)
                  try simp only [Act.put, List.getElem_toArray, List.getElem_cons_zero, List.getElem_cons_succ, List.setIfInBounds_toArray, List.set_cons_zero, List.set_cons_succ]
                  refine wpAny_take (i := 18) (v := ?_) rfl (by kernel_rfl) (by kernel_rfl) (by kernel_rfl) (fun _ _ _ h => h) (Or.inl ⟨by rfl, ?_⟩) ?_
                  rotate_left
                  · (intro w; simp only [List.getElem_toArray, List.getElem_cons_zero, List.getElem_cons_succ]; go_simp <;> with_reducible rfl)
                  try simp only [Act.put, List.getElem_toArray, List.getElem_cons_zero, List.getElem_cons_succ, List.setIfInBounds_toArray, List.set_cons_zero, List.set_cons_succ]
                  refine wpAny_ready (rs := [19]) (by kernel_rfl) (by simp) ?_
                  refine AllReady.cons rfl (fun K hK => ?_) ?_
                  · try simp only [List.getElem_toArray, List.getElem_cons_zero, List.getElem_cons_succ]
                    go_simp
                    refine hK _ _ ?_
                    clear hK K
                    try simp only [Act.put, List.getElem_toArray, List.getElem_cons_zero, List.getElem_cons_succ, List.setIfInBounds_toArray, List.set_cons_zero, List.set_cons_succ]
                    refine wpAny_done (by kernel_rfl) ?_ _
                    have HU6 := Lib.hid (HUC.out.setV hk5 ho5)
                    have HOB : Hid (vs.ownBlock = some g1 ∨ w.heap.size ≤ g1) := Lib.hid (hb5.imp id fun e => by rw [e]; exact HWB.out)
                    have HK6 := Lib.hid (HWC.out _ hk5 (.slice (some ⟨g1, 0, none⟩) (k2 + 1) cap1))
                    clear hk5 ho5 hg5 hb5 hs5 d3 df3 dpl
                    generalize World.setCell w5 _ _ = w6 at *
                    go_wp2_with fail
                    go_meet
                    exact Lib.hid ⟨_, g1, rfl, HOB.out, by first | exact HU6.out | exact HU6.out.keep (Keeps.refl _ _).drew, by first | exact HK6.out | exact HK6.out.drew⟩
                  exact AllReady.nil
                exact AllReady.nil
              exact AllReady.nil
            exact AllReady.nil
          exact AllReady.nil
        refine AllReady.cons rfl (fun K hK => ?_) ?_
        · try simp only [List.getElem_toArray, List.getElem_cons_zero, List.getElem_cons_succ]
          go_simp
          refine hK _ _ ?_
          clear hK K
          try simp only [Act.put, List.getElem_toArray, List.getElem_cons_zero, List.getElem_cons_succ, List.setIfInBounds_toArray, List.set_cons_zero, List.set_cons_succ]
          refine wpAny_take (i := 12) (v := ?_) rfl (by kernel_rfl) (by kernel_rfl) (by kernel_rfl) (fun _ _ _ h => h) (Or.inl ⟨by rfl, ?_⟩) ?_
          rotate_left
          · (intro w; simp only [List.getElem_toArray, List.getElem_cons_zero, List.getElem_cons_succ]; go_simp <;> with_reducible rfl)
          try simp only [Act.put, List.getElem_toArray, List.getElem_cons_zero, List.getElem_cons_succ, List.setIfInBounds_toArray, List.set_cons_zero, List.set_cons_succ]
          refine wpAny_ready (rs := [4, 13]) (by kernel_rfl) (by simp) ?_
          refine AllReady.cons rfl (fun K hK => ?_) ?_
          · try simp only [List.getElem_toArray, List.getElem_cons_zero, List.getElem_cons_succ]
            go_simp
            refine hK _ _ ?_
            clear hK K
            try simp only [Act.put, List.getElem_toArray, List.getElem_cons_zero, List.getElem_cons_succ, List.setIfInBounds_toArray, List.set_cons_zero, List.set_cons_succ]
            refine wpAny_ready (rs := [13]) (by kernel_rfl) (by simp) ?_
            refine AllReady.cons rfl (fun K hK => ?_) ?_
            · try simp only [List.getElem_toArray, List.getElem_cons_zero, List.getElem_cons_succ]
              go_simp
              refine hK _ _ ?_
              clear hK K
              try simp only [Act.put, List.getElem_toArray, List.getElem_cons_zero, List.getElem_cons_succ, List.setIfInBounds_toArray, List.set_cons_zero, List.set_cons_succ]
              refine wpAny_take (i := 14) (v := ?_) rfl (by kernel_rfl) (by kernel_rfl) (by kernel_rfl) (fun _ _ _ h => h) (Or.inl ⟨by rfl, ?_⟩) ?_
              rotate_left
              · (intro w; simp only [List.getElem_toArray, List.getElem_cons_zero, List.getElem_cons_succ]; go_simp <;> with_reducible rfl)
              try simp only [Act.put, List.getElem_toArray, List.getElem_cons_zero, List.getElem_cons_succ, List.setIfInBounds_toArray, List.set_cons_zero, List.set_cons_succ]
              refine wpAny_ready (rs := [15]) (by kernel_rfl) (by simp) ?_
              refine AllReady.cons rfl (fun K hK => ?_) ?_
              · try simp only [List.getElem_toArray, List.getElem_cons_zero, List.getElem_cons_succ]
                go_simp
                refine hK _ _ ?_
                clear hK K
                try simp only [Act.put, List.getElem_toArray, List.getElem_cons_zero, List.getElem_cons_succ, List.setIfInBounds_toArray, List.set_cons_zero, List.set_cons_succ]
                refine wpAny_ready (rs := [16]) (by kernel_rfl) (by simp) ?_
                refine AllReady.cons rfl (fun K hK => ?_) ?_
                · refine step_append_lies _ rfl _ _ 177 rfl Bs 181 i0 (.agg #[.int .i32 0, .int .i32 0, .int .i32 0]) 3 12 Tryd.underlying177 hi hz0 hz1 hz2 rfl (by decide) _ _ _ rfl hown2.out ⟨wc.heap.size, 0, none⟩ 1 1 [.int .i32 (x : Int), .int .i32 (y : Int), .int .i32 (Ty : Int)] rfl rfl (World.news_of_block (Blk.new wc.drew #[.int .i32 (x : Int), .int .i32 (y : Int), .int .i32 (Ty : Int)] 181)) (by simp [Value.oneCell']) (by decide) HMX.out.1 HMX.out.2.1 HMX.out.2.2 _ rfl ?_
                  intro g1 cap1 w5 ho5 hg5 hb5 hs5
                  have hk5 := HK5.out _ hg5
                  have d3 := hk5.cellO c3 HVP.out
                  have df3 := (HP.out.kept hk5 HVP.out).free 3
                  have dpl := (HP.out.kept hk5 HVP.out).lt
                  refine hK _ _ ?_
                  clear hK K
                  try simp only [Act.put, List.getElem_toArray, List.getElem_cons_zero, List.getElem_cons_succ, List.setIfInBounds_toArray, List.set_cons_zero, List.set_cons_succ]
                  refine wpAny_take (i := 17) (v := ?_) rfl (by kernel_rfl) (by kernel_rfl) (by kernel_rfl) (fun _ _ _ h => h) (Or.inl ⟨by rfl, ?_⟩) ?_
                  rotate_left
                  · (intro w; simp only [List.getElem_toArray, List.getElem_cons_zero, List.getElem_cons_succ]; go_simp <;> with_reducible rfl)
                  try simp only [Act.put, List.getElem_toArray, List.getElem_cons_zero, List.getElem_cons_succ, List.setIfInBounds_toArray, List.set_cons_zero, List.set_cons_succ]
                  refine wpAny_take (i := 18) (v := ?_) rfl (by kernel_rfl) (by kernel_rfl) (by kernel_rfl) (fun _ _ _ h => h) (Or.inl ⟨by rfl, ?_⟩) ?_
                  rotate_left
                  · (intro w; simp only [List.getElem_toArray, List.getElem_cons_zero, List.getElem_cons_succ]; go_simp <;> with_reducible rfl)
                  try simp only [Act.put, List.getElem_toArray, List.getElem_cons_zero, List.getElem_cons_succ, List.setIfInBounds_toArray, List.set_cons_zero, List.set_cons_succ]
                  refine wpAny_ready (rs := [19]) (by kernel_rfl) (by simp) ?_
                  refine AllReady.cons rfl (fun K hK => ?_) ?_
                  · try simp only [List.getElem_toArray, List.getElem_cons_zero, List.getElem_cons_succ]
                    go_simp
                    refine hK _ _ ?_
                    clear hK K
                    try simp only [Act.put, List.getElem_toArray, List.getElem_cons_zero, List.getElem_cons_succ, List.setIfInBounds_toArray, List.set_cons_zero, List.set_cons_succ]
                    refine wpAny_done (by kernel_rfl) ?_ _
                    have HU6 := Lib.hid (HUC.out.setV hk5 ho5)
                    have HOB : Hid (vs.ownBlock = some g1 ∨ w.heap.size ≤ g1) := Lib.hid (hb5.imp id fun e => by rw [e]; exact HWB.out)
                    have HK6 := Lib.hid (HWC.out _ hk5 (.slice (some ⟨g1, 0, none⟩) (k2 + 1) cap1))
                    clear hk5 ho5 hg5 hb5 hs5 d3 df3 dpl
                    generalize World.setCell w5 _ _ = w6 at *
                    go_wp2_with fail
                    go_meet
                    exact Lib.hid ⟨_, g1, rfl, HOB.out, by first | exact HU6.out | exact HU6.out.keep (Keeps.refl _ _).drew, by first | exact HK6.out | exact HK6.out.drew⟩
                  exact AllReady.nil
                exact AllReady.nil
              exact AllReady.nil
            exact AllReady.nil
          refine AllReady.cons rfl (fun K hK => ?_) ?_
          · try simp only [List.getElem_toArray, List.getElem_cons_zero, List.getElem_cons_succ]
            go_simp
            refine hK _ _ ?_
            clear hK K
            try simp only [Act.put, List.getElem_toArray, List.getElem_cons_zero, List.getElem_cons_succ, List.setIfInBounds_toArray, List.set_cons_zero, List.set_cons_succ]
            refine wpAny_take (i := 14) (v := ?_) rfl (by kernel_rfl) (by kernel_rfl) (by kernel_rfl) (fun _ _ _ h => h) (Or.inl ⟨by rfl, ?_⟩) ?_
            rotate_left
            · (intro w; simp only [List.getElem_toArray, List.getElem_cons_zero, List.getElem_cons_succ]; go_simp <;> with_reducible rfl)
            try simp only [Act.put, List.getElem_toArray, List.getElem_cons_zero, List.getElem_cons_succ, List.setIfInBounds_toArray, List.set_cons_zero, List.set_cons_succ]
            refine wpAny_ready (rs := [4, 15]) (by kernel_rfl) (by simp) ?_
            refine AllReady.cons rfl (fun K hK => ?_) ?_
            · try simp only [List.getElem_toArray, List.getElem_cons_zero, List.getElem_cons_succ]
              go_simp
              refine hK _ _ ?_
              clear hK K
              try simp only [Act.put, List.getElem_toArray, List.getElem_cons_zero, List.getElem_cons_succ, List.setIfInBounds_toArray, List.set_cons_zero, List.set_cons_succ]
              refine wpAny_ready (rs := [15]) (by kernel_rfl) (by simp) ?_
              refine AllReady.cons rfl (fun K hK => ?_) ?_
              · try simp only [List.getElem_toArray, List.getElem_cons_zero, List.getElem_cons_succ]
                go_simp
                refine hK _ _ ?_
                clear hK K
                try simp only [Act.put, List.getElem_toArray, List.getElem_cons_zero, List.getElem_cons_succ, List.setIfInBounds_toArray, List.set_cons_zero, List.set_cons_succ]
                refine wpAny_ready (rs := [16]) (by kernel_rfl) (by simp) ?_
                refine AllReady.cons rfl (fun K hK => ?_) ?_
                · refine step_append_lies _ rfl _ _ 177 rfl Bs 181 i0 (.agg #[.int .i32 0, .int .i32 0, .int .i32 0]) 3 12 Tryd.underlying177 hi hz0 hz1 hz2 rfl (by decide) _ _ _ rfl hown2.out ⟨wc.heap.size, 0, none⟩ 1 1 [.int .i32 (x : Int), .int .i32 (y : Int), .int .i32 (Ty : Int)] rfl rfl (World.news_of_block (Blk.new wc.drew #[.int .i32 (x : Int), .int .i32 (y : Int), .int .i32 (Ty : Int)] 181)) (by simp [Value.oneCell']) (by decide) HMX.out.1 HMX.out.2.1 HMX.out.2.2 _ rfl ?_
                  intro g1 cap1 w5 ho5 hg5 hb5 hs5
                  have hk5 := HK5.out _ hg5
                  have d3 := hk5.cellO c3 HVP.out
                  have df3 := (HP.out.kept hk5 HVP.out).free 3
                  have dpl := (HP.out.kept hk5 HVP.out).lt
                  refine hK _ _ ?_
                  clear hK K
                  try simp only [Act.put, List.getElem_toArray, List.getElem_cons_zero, List.getElem_cons_succ, List.setIfInBounds_toArray, List.set_cons_zero, List.set_cons_succ]
                  refine wpAny_take (i := 17) (v := ?_) rfl (by kernel_rfl) (by kernel_rfl) (by kernel_rfl) (fun _ _ _ h => h) (Or.inl ⟨by rfl, ?_⟩) ?_
                  rotate_left
                  · (intro w; simp only [List.getElem_toArray, List.getElem_cons_zero, List.getElem_cons_succ]; go_simp <;> with_reducible rfl)
                  try simp only [Act.put, List.getElem_toArray, List.getElem_cons_zero, List.getElem_cons_succ, List.setIfInBounds_toArray, List.set_cons_zero, List.set_cons_succ]
                  refine wpAny_take (i := 18) (v := ?_) rfl (by kernel_rfl) (by kernel_rfl) (by kernel_rfl) (fun _ _ _ h => h) (Or.inl ⟨by rfl, ?_⟩) ?_
                  rotate_left
                  · (intro w; simp only [List.getElem_toArray, List.getElem_cons_zero, List.getElem_cons_succ]; go_simp <;> with_reducible rfl)
                  try simp only [Act.put, List.getElem_toArray, List.getElem_cons_zero, List.getElem_cons_succ, List.setIfInBounds_toArray, List.set_cons_zero, List.set_cons_succ]
                  refine wpAny_ready (rs := [19]) (by kernel_rfl) (by simp) ?_
                  refine AllReady.cons rfl (fun K hK => ?_) ?_
                  · try simp only [List.getElem_toArray, List.getElem_cons_zero, List.getElem_cons_succ]
                    go_simp
                    refine hK _ _ ?_
                    clear hK K
                    try simp only [Act.put, List.getElem_toArray, List.getElem_cons_zero, List.getElem_cons_succ, List.setIfInBounds_toArray, List.set_cons_zero, List.set_cons_succ]
                    refine wpAny_done (by kernel_rfl) ?_ _
                    have HU6 := Lib.hid (HUC.out.setV hk5 ho5)
                    have HOB : Hid (vs.ownBlock = some g1 ∨ w.heap.size ≤ g1) := Lib.hid (hb5.imp id fun e => by rw [e]; exact HWB.out)
                    have HK6 := Lib.hid (HWC.out _ hk5 (.slice (some ⟨g1, 0, none⟩) (k2 + 1) cap1))
                    clear hk5 ho5 hg5 hb5 hs5 d3 df3 dpl
                    generalize World.setCell w5 _ _ = w6 at *
                    go_wp2_with fail
                    go_meet
                    exact Lib.hid ⟨_, g1, rfl, HOB.out, by first | exact HU6.out | exact HU6.out.keep (Keeps.refl _ _).drew, by first | exact HK6.out | exact HK6.out.drew⟩
                  exact AllReady.nil
                exact AllReady.nil
              exact AllReady.nil
            refine AllReady.cons rfl (fun K hK => ?_) ?_
            · try simp only [List.getElem_toArray, List.getElem_cons_zero, List.getElem_cons_succ]
              go_simp
              refine hK _ _ ?_
              clear hK K
              try simp only [Act.put, List.getElem_toArray, List.getElem_cons_zero, List.getElem_cons_succ, List.setIfInBounds_toArray, List.set_cons_zero, List.set_cons_succ]
              refine wpAny_ready (rs := [4]) (by kernel_rfl) (by simp) ?_
              refine AllReady.cons rfl (fun K hK => ?_) ?_
              · try simp only [List.getElem_toArray, List.getElem_cons_zero, List.getElem_cons_succ]
                go_simp
                refine hK _ _ ?_
                clear hK K
                try simp only [Act.put, List.getElem_toArray, List.getElem_cons_zero, List.getElem_cons_succ, List.setIfInBounds_toArray, List.set_cons_zero, List.set_cons_succ]
                refine wpAny_ready (rs := [16]) (by kernel_rfl) (by simp) ?_
                refine AllReady.cons rfl (fun K hK => ?_) ?_
                · refine step_append_lies _ rfl _ _ 177 rfl Bs 181 i0 (.agg #[.int .i32 0, .int .i32 0, .int .i32 0]) 3 12 Tryd.underlying177 hi hz0 hz1 hz2 rfl (by decide) _ _ _ rfl hown2.out ⟨wc.heap.size, 0, none⟩ 1 1 [.int .i32 (x : Int), .int .i32 (y : Int), .int .i32 (Ty : Int)] rfl rfl (World.news_of_block (Blk.new wc.drew #[.int .i32 (x : Int), .int .i32 (y : Int), .int .i32 (Ty : Int)] 181)) (by simp [Value.oneCell']) (by decide) HMX.out.1 HMX.out.2.1 HMX.out.2.2 _ rfl ?_
                  intro g1 cap1 w5 ho5 hg5 hb5 hs5
                  have hk5 := HK5.out _ hg5
                  have d3 := hk5.cellO c3 HVP.out
                  have df3 := (HP.out.kept hk5 HVP.out).free 3
                  have dpl := (HP.out.kept hk5 HVP.out).lt
                  refine hK _ _ ?_
                  clear hK K
                  try simp only [Act.put, List.getElem_toArray, List.getElem_cons_zero, List.getElem_cons_succ, List.setIfInBounds_toArray, List.set_cons_zero, List.set_cons_succ]
                  refine wpAny_take (i := 17) (v := ?_) rfl (by kernel_rfl) (by kernel_rfl) (by kernel_rfl) (fun _ _ _ h => h) (Or.inl ⟨by rfl, ?_⟩) ?_
                  rotate_left
                  · (intro w; simp only [List.getElem_toArray, List.getElem_cons_zero, List.getElem_cons_succ]; go_simp <;> with_reducible rfl)
                  try simp only [Act.put, List.getElem_toArray, List.getElem_cons_zero, List.getElem_cons_succ, List.setIfInBounds_toArray, List.set_cons_zero, List.set_cons_succ]
                  refine wpAny_take (i := 18) (v := ?_) rfl (by kernel_rfl) (by kernel_rfl) (by kernel_rfl) (fun _ _ _ h => h) (Or.inl ⟨by rfl, ?_⟩) ?_
                  rotate_left
                  · (intro w; simp only [List.getElem_toArray, List.getElem_cons_zero, List.getElem_cons_succ]; go_simp <;> with_reducible rfl)
                  try simp only [Act.put, List.getElem_toArray, List.getElem_cons_zero, List.getElem_cons_succ, List.setIfInBounds_toArray, List.set_cons_zero, List.set_cons_succ]
                  refine wpAny_ready (rs := [19]) (by kernel_rfl) (by simp) ?_
                  refine AllReady.cons rfl (fun K hK => ?_) ?_
                  · try simp only [List.getElem_toArray, List.getElem_cons_zero, List.getElem_cons_succ]
                    go_simp
                    refine hK _ _ ?_
                    clear hK K
                    try simp only [Act.put, List.getElem_toArray, List.getElem_cons_zero, List.getElem_cons_succ, List.setIfInBounds_toArray, List.set_cons_zero, List.set_cons_succ]
                    refine wpAny_done (by kernel_rfl) ?_ _
                    have HU6 := Lib.hid (HUC.out.setV hk5 ho5)
                    have HOB : Hid (vs.ownBlock = some g1 ∨ w.heap.size ≤ g1) := Lib.hid (hb5.imp id fun e => by rw [e]; exact HWB.out)
                    have HK6 := Lib.hid (HWC.out _ hk5 (.slice (some ⟨g1, 0, none⟩) (k2 + 1) cap1))
                    clear hk5 ho5 hg5 hb5 hs5 d3 df3 dpl
                    generalize World.setCell w5 _ _ = w6 at *
                    go_wp2_with fail
                    go_meet
                    exact Lib.hid ⟨_, g1, rfl, HOB.out, by first | exact HU6.out | exact HU6.out.keep (Keeps.refl _ _).drew, by first | exact HK6.out | exact HK6.out.drew⟩
                  exact AllReady.nil
                exact AllReady.nil
              exact AllReady.nil
            exact AllReady.nil
          exact AllReady.nil
        exact AllReady.nil
      case rest =>
        clear c0 c1 c2 c3 c3a hTy f3 hown2 HK5 HVP HP HMX HWB HWC KC HUC
        obtain ⟨v', g1, hv', hob, hu6, hk6⟩ := hcut.out
        have HU6 := Lib.hid hu6
        have HK6 := Lib.hid hk6
        have HOB : Hid (∀ q, v'.ownBlock = some q → vs.ownBlock = some q ∨ w.heap.size ≤ q) := Lib.hid fun q e => by rw [hv'] at e; cases e; exact hob
        clear hcut hv' hob hu6 hk6
        obtain ⟨c0, c1, c2, c3⟩ := HU6.out.heads
        have qa := HU6.out.b1.cell (i := x)
        rw [i32n_get (by rw [HLA.out]; exact hcl)] at qa
        have fa := (HU6.out.frees x).2.1
        have HU7 := Lib.hid (HU6.out.setA x y)
        have HK7 := Lib.hid (HK6.out.setIn a x (.int .i32 (y : Int)) (Or.inr (Or.inl rfl)))
        generalize hAx : A.getD x 0 = Ax at *
        go_upto_region 8 with fail
        clear qa fa c0 c1 c2 c3 HU6 HK6
        generalize World.setCell wc _ _ = w7 at *
        obtain ⟨c0, c1, c2, c3⟩ := HU7.out.heads
        have q1 := HU7.out.b2.cell (i := x)
        have q2 := HU7.out.b2.cell (i := y)
        rw [i32n_get (by rw [HLS.out]; exact hcl)] at q1
        rw [i32n_get (by rw [HLS.out]; exact hdl)] at q2
        have fs := (HU7.out.frees y).2.2.1
        have HU8 := Lib.hid (HU7.out.setS y (S.getD y 0 + S.getD x 0))
        have HK8 := Lib.hid (HK7.out.setIn s y (.int .i32 ((S.getD y 0 + S.getD x 0 : Nat) : Int)) (Or.inr (Or.inr (Or.inl rfl))))
        clear hgt' hd
        generalize hSx : S.getD x 0 = Sx at *
        generalize hSy : S.getD y 0 = Sy at *
        have HAD : Hid (((Sy + Sx : Nat) : Int) = (Sy : Int) + (Sx : Int)) := Lib.hid (by omega)
        rw [HAD.out] at HU8 HK8
        go_cut [] (fun wd => Hid (UX wd p a s t Bs n (k2 + 1) (A.set x y) (S.set y (Sy + Sx)) T v' ∧ Keeps (UX.own p a s t vs) w wd))
        case first =>
          go_region
          all_goals
            go_wp2_with fail
            go_meet
            exact Lib.hid ⟨by first | exact HU8.out | exact HU8.out.keep (Keeps.refl _ _).drew, by first | exact HK8.out | exact HK8.out.drew⟩
        case rest =>
          clear q1 q2 fs c0 c1 c2 c3 HU7 HK7 HU8 HK8 HAD
          obtain ⟨hu8, hk8⟩ := hcut.out
          have HU8 := Lib.hid hu8
          have HK8 := Lib.hid hk8
          clear hcut hu8 hk8
          obtain ⟨c0, c1, c2, c3⟩ := HU8.out.heads
          have q1 := HU8.out.b3.cell (i := x)
          have q2 := HU8.out.b3.cell (i := y)
          rw [i32n_get (by rw [HLT.out]; exact hcl)] at q1
          rw [i32n_get (by rw [HLT.out]; exact hdl), hTe] at q2
          have ft := (HU8.out.frees y).2.2.2
          have HU9 := Lib.hid (HU8.out.setT y (min Ty (T.getD x 0)))
          have HK9 := Lib.hid (HK8.out.setIn t y (.int .i32 ((min Ty (T.getD x 0) : Nat) : Int)) (Or.inr (Or.inr (Or.inr (Or.inl rfl)))))
          generalize hTx : T.getD x 0 = Tx at *
          have HMN : Hid (((min Ty Tx : Nat) : Int) = if Tx < Ty then (Tx : Int) else (Ty : Int)) := Lib.hid (by split <;> omega)
          rw [HMN.out] at HU9 HK9
          go_upto_region 9 with fail
          go_cut [] (fun wd => Hid (UX wd p a s t Bs n (k2 + 1) (A.set x y) (S.set y (Sy + Sx)) (T.set y (min Ty Tx)) v' ∧ Keeps (UX.own p a s t vs) w wd))
          case first =>
            by_cases hmn : (Tx : Int) < (Ty : Int)
            · have hmb : decide ((Tx : Int) < (Ty : Int)) = true := decide_eq_true hmn
              rw [if_pos (by omega)] at HU9 HK9
              go_region
              all_goals
                go_wp2_with fail
                go_meet
                exact Lib.hid ⟨by first | exact HU9.out | exact HU9.out.keep (Keeps.refl _ _).drew, by first | exact HK9.out | exact HK9.out.drew⟩
            · have hmb : decide ((Tx : Int) < (Ty : Int)) = false := decide_eq_false hmn
              rw [if_neg (by omega)] at HU9 HK9
              go_region
              all_goals
                go_wp2_with fail
                go_meet
                exact Lib.hid ⟨by first | exact HU9.out | exact HU9.out.keep (Keeps.refl _ _).drew, by first | exact HK9.out | exact HK9.out.drew⟩
          case rest =>
            clear q1 q2 ft c0 c1 c2 c3 HU8 HK8 HU9 HK9 HMN
            obtain ⟨hu9, hk9⟩ := hcut.out
            have HEND := Lib.hid (joined hu9 HRJ.out hn (show k2 + 1 ≤ k + 1 by omega) (by omega) HOB.out hk9)
            clear hcut hu9 hk9 HRJ HOB
            go_wp2_with fail
            obtain ⟨own', e1, e2, e3⟩ := HEND.out
            refine bodyPost_ret (v := .tuple #[.bool true, .nilIface]) (by simp [results, Tryd.results84, go_sem]) rfl ?_
            exact ⟨own', true, rfl, by first | exact e1 | (rw [HJ.out]; exact e1), e2, e3⟩
    · have hd : decide (((S.getD (rt v) 0 : Nat) : Int) < ((S.getD (rt u) 0 : Nat) : Int)) = false := decide_eq_false (by omega)
      have HJ : Hid (joinG g u v = joinG g u v) := Lib.hid rfl
      have hne' : rt u ≠ rt v := HNE.out
      have hcl := HR.out.rlt u hu
      have hdl := HR.out.rlt v hv
      have HRJ := Lib.hid (HR.out.join hu hv hne')
      obtain ⟨hsum, _, _⟩ := HR.out.sum hu hv hne'
      have hbw := HU1.out.Bw
      have hxy : rt u ≠ rt v := hne'
      have HLA := Lib.hid HR.out.la
      have HLS := Lib.hid HR.out.ls
      have HLT := Lib.hid HR.out.lt
      clear HNE HCM
      generalize hxe : rt u = x at *
      generalize hye : rt v = y at *
      go_quiet (fail)
      go_upto_region 6 with fail
      generalize hwc : World.drewN _ _ = wc at *
      have HUC : Hid (UX wc p a s t Bs n k2 A S T vs) := Lib.hid (by rw [← hwc]; exact HU1.out.keep ((Keeps.refl _ _).drewN _))
      have KC : Hid (Keeps (fun _ => False) w wc) := Lib.hid (by rw [← hwc]; exact H1.out.drewN _)
      clear hwc HU1 H1 c1 hsu hsv
      have hxI : (x : Int) < (n : Int) := by omega
      have hyI : (y : Int) < (n : Int) := by omega
      obtain ⟨c0, c1, c2, c3⟩ := HUC.out.heads
      have hTy : wc.cell? ⟨t, y, none⟩ = some (.int .i32 ((T.getD y 0 : Nat) : Int)) := by rw [HUC.out.b3.cell, i32n_get (by rw [HLT.out]; exact hdl)]
      obtain ⟨i0, hi, hz0, hz1, hz2⟩ := info_parts infoSt
      obtain ⟨xs, hst⟩ := HUC.out.st
      have hown2 : Hid ((wc.drew.alloc (.cells #[.int .i32 (x : Int), .int .i32 (y : Int), .int .i32 ((T.getD y 0 : Nat) : Int)] 181)).ownsRow Bs 181 3 vs k2 xs) := Lib.hid (hst.alloc _)
      have HK5 : Hid (∀ W, (wc.drew.alloc (.cells #[.int .i32 (x : Int), .int .i32 (y : Int), .int .i32 ((T.getD y 0 : Nat) : Int)] 181)).grownBy W vs.ownBlock → Keeps (fun q => vs.ownBlock = some q) wc W) := Lib.hid fun W hg => ((Keeps.refl _ _).drew.alloc _).trans' (keeps_of_grown hg)
      have HVP : Hid (¬ (vs.ownBlock = some p)) := Lib.hid fun e => by have := (hst.lt p e).1; have := HUC.out.lo.1; omega
      have f3 := HUC.out.head.free 3
      have HP := Lib.hid HUC.out.head
      have HMX : Hid (k2 + 1 ≤ maxLen ∧ (k2 + 1) * 12 ≤ 140737488355328 ∧ Bs ≤ (wc.drew.alloc (.cells #[.int .i32 (x : Int), .int .i32 (y : Int), .int .i32 ((T.getD y 0 : Nat) : Int)] 181)).heap.size) := Lib.hid ⟨by unfold maxLen; omega, by omega, by rw [size_allocs]; exact Nat.le_succ_of_le HUC.out.Bw⟩
      have HWB : Hid (w.heap.size ≤ (wc.drew.alloc (.cells #[.int .i32 (x : Int), .int .i32 (y : Int), .int .i32 ((T.getD y 0 : Nat) : Int)] 181)).heap.size) := Lib.hid (by rw [size_allocs]; exact Nat.le_succ_of_le KC.out.size)
      have HWC : Hid (∀ W, Keeps (fun q => vs.ownBlock = some q) wc W → ∀ z, Keeps (UX.own p a s t vs) w (W.setCell ⟨p, 3, none⟩ z)) := Lib.hid fun W h z => ((KC.out.mono (fp' := UX.own p a s t vs) fun _ _ q => q.elim).trans' (h.mono (fp' := UX.own p a s t vs) fun _ _ q => Or.inr (Or.inr (Or.inr (Or.inr q))))).setIn p 3 z (Or.inl rfl)
      clear hst
      generalize hTe : T.getD y 0 = Ty at *
      have c3a : (wc.alloc (.cells #[.int .i32 (x : Int), .int .i32 (y : Int), .int .i32 (Ty : Int)] 181)).cell? ⟨p, 3, none⟩ = some vs := ((Keeps.refl _ _).alloc _).cellF c3
      go_cut [] (fun wd => Hid (∃ v' g1, v'.ownBlock = some g1 ∧ (vs.ownBlock = some g1 ∨ w.heap.size ≤ g1) ∧ UX wd p a s t Bs n (k2 + 1) A S T v' ∧ Keeps (UX.own p a s t vs) w wd))
      case first =>
        as_aux_lemma =>
        refine wp_region_any (by kernel_rfl) ?_
        try (change wpAny _ _ _ _ _ _ _ (World.drew _))
        refine wpAny_take (i := 0) (v := ?_) rfl (by kernel_rfl) (by kernel_rfl) (by kernel_rfl) (fun _ _ _ h => h) (Or.inl ⟨by rfl, ?_⟩) ?_
        rotate_left
        · (intro w; simp only [List.getElem_toArray, List.getElem_cons_zero, List.getElem_cons_succ]; go_simp <;> with_reducible rfl)
        try simp only [Act.put, List.getElem_toArray, List.getElem_cons_zero, List.getElem_cons_succ, List.setIfInBounds_toArray, List.set_cons_zero, List.set_cons_succ]
        refine wpAny_take (i := 1) (v := ?_) rfl (by kernel_rfl) (by kernel_rfl) (by kernel_rfl) (fun _ _ _ h => h) (Or.inl ⟨by rfl, ?_⟩) ?_
        rotate_left
        · (intro w; simp only [List.getElem_toArray, List.getElem_cons_zero, List.getElem_cons_succ]; go_simp <;> with_reducible rfl)
        try simp only [Act.put, List.getElem_toArray, List.getElem_cons_zero, List.getElem_cons_succ, List.setIfInBounds_toArray, List.set_cons_zero, List.set_cons_succ]
        refine wpAny_take (i := 2) (v := ?_) rfl (by kernel_rfl) (by kernel_rfl) (by kernel_rfl) (fun _ _ _ h => h) (Or.inl ⟨by rfl, ?_⟩) ?_
        rotate_left
        · (intro w; simp only [List.getElem_toArray, List.getElem_cons_zero, List.getElem_cons_succ]; go_simp <;> with_reducible rfl)
        try simp only [Act.put, List.getElem_toArray, List.getElem_cons_zero, List.getElem_cons_succ, List.setIfInBounds_toArray, List.set_cons_zero, List.set_cons_succ]
        refine wpAny_take (i := 3) (v := ?_) rfl (by kernel_rfl) (by kernel_rfl) (by kernel_rfl) (fun _ _ _ h => h) (Or.inl ⟨by rfl, ?_⟩) ?_
        rotate_left
        · (intro w; simp only [List.getElem_toArray, List.getElem_cons_zero, List.getElem_cons_succ]; go_simp <;> with_reducible rfl)
        try simp only [Act.put, List.getElem_toArray, List.getElem_cons_zero, List.getElem_cons_succ, List.setIfInBounds_toArray, List.set_cons_zero, List.set_cons_succ]
        refine wpAny_take (i := 5) (v := ?_) rfl (by kernel_rfl) (by kernel_rfl) (by kernel_rfl) (fun _ _ _ h => h) (Or.inl ⟨by rfl, ?_⟩) ?_
        rotate_left
        · (intro w; simp only [List.getElem_toArray, List.getElem_cons_zero, List.getElem_cons_succ]; go_simp <;> with_reducible rfl)
        try simp only [Act.put, List.getElem_toArray, List.getElem_cons_zero, List.getElem_cons_succ, List.setIfInBounds_toArray, List.set_cons_zero, List.set_cons_succ]
        refine wpAny_take (i := 6) (v := ?_) rfl (by kernel_rfl) (by kernel_rfl) (by kernel_rfl) (fun _ _ _ h => h) (Or.inl ⟨by rfl, ?_⟩) ?_
        rotate_left
        · (intro w; simp only [List.getElem_toArray, List.getElem_cons_zero, List.getElem_cons_succ]; go_simp <;> with_reducible rfl)
        try simp only [Act.put, List.getElem_toArray, List.getElem_cons_zero, List.getElem_cons_succ, List.setIfInBounds_toArray, List.set_cons_zero, List.set_cons_succ]
        refine wpAny_take (i := 7) (v := ?_) rfl (by kernel_rfl) (by kernel_rfl) (by kernel_rfl) (fun _ _ _ h => h) (Or.inl ⟨by rfl, ?_⟩) ?_
        rotate_left
        · (intro w; simp only [List.getElem_toArray, List.getElem_cons_zero, List.getElem_cons_succ]; go_simp <;> with_reducible rfl)
        try simp only [Act.put, List.getElem_toArray, List.getElem_cons_zero, List.getElem_cons_succ, List.setIfInBounds_toArray, List.set_cons_zero, List.set_cons_succ]
        refine wpAny_take (i := 8) (v := ?_) rfl (by kernel_rfl) (by kernel_rfl) (by kernel_rfl) (fun _ _ _ h => h) (Or.inl ⟨by rfl, ?_⟩) ?_
        rotate_left
        · (intro w; simp only [List.getElem_toArray, List.getElem_cons_zero, List.getElem_cons_succ]; go_simp <;> with_reducible rfl)
        try simp only [Act.put, List.getElem_toArray, List.getElem_cons_zero, List.getElem_cons_succ, List.setIfInBounds_toArray, List.set_cons_zero, List.set_cons_succ]
        refine wpAny_take (i := 9) (v := ?_) rfl (by kernel_rfl) (by kernel_rfl) (by kernel_rfl) (fun _ _ _ h => h) (Or.inl ⟨by rfl, ?_⟩) ?_
        rotate_left
        · (intro w; simp only [List.getElem_toArray, List.getElem_cons_zero, List.getElem_cons_succ]; go_simp <;> with_reducible rfl)
        try simp only [Act.put, List.getElem_toArray, List.getElem_cons_zero, List.getElem_cons_succ, List.setIfInBounds_toArray, List.set_cons_zero, List.set_cons_succ]
        refine wpAny_take (i := 11) (v := ?_) rfl (by kernel_rfl) (by kernel_rfl) (by kernel_rfl) (fun _ _ _ h => h) (Or.inl ⟨by rfl, ?_⟩) ?_
        rotate_left
        · (intro w; simp only [List.getElem_toArray, List.getElem_cons_zero, List.getElem_cons_succ]; go_simp <;> with_reducible rfl)
        try simp only [Act.put, List.getElem_toArray, List.getElem_cons_zero, List.getElem_cons_succ, List.setIfInBounds_toArray, List.set_cons_zero, List.set_cons_succ]
        refine wpAny_ready (rs := [4, 10]) (by kernel_rfl) (by simp) ?_
        refine AllReady.cons rfl (fun K hK => ?_) ?_
        · try simp only [List.getElem_toArray, List.getElem_cons_zero, List.getElem_cons_succ]
          go_simp
          refine hK _ _ ?_
          clear hK K
          try simp only [Act.put, List.getElem_toArray, List.getElem_cons_zero, List.getElem_cons_succ, List.setIfInBounds_toArray, List.set_cons_zero, List.set_cons_succ]
          refine wpAny_ready (rs := [10]) (by kernel_rfl) (by simp) ?_
          refine AllReady.cons rfl (fun K hK => ?_) ?_
          · try simp only [List.getElem_toArray, List.getElem_cons_zero, List.getElem_cons_succ]
            go_simp
            refine hK _ _ ?_
            clear hK K
            try simp only [Act.put, List.getElem_toArray, List.getElem_cons_zero, List.getElem_cons_succ, List.setIfInBounds_toArray, List.set_cons_zero, List.set_cons_succ]
            refine wpAny_take (i := 12) (v := ?_) rfl (by kernel_rfl) (by kernel_rfl) (by kernel_rfl) (fun _ _ _ h => h) (Or.inl ⟨by rfl, ?_⟩) ?_
            rotate_left
            · (intro w; simp only [List.getElem_toArray, List.getElem_cons_zero, List.getElem_cons_succ]; go_simp <;> with_reducible rfl)
            try simp only [Act.put, List.getElem_toArray, List.getElem_cons_zero, List.getElem_cons_succ, List.setIfInBounds_toArray, List.set_cons_zero, List.set_cons_succ]
            refine wpAny_ready (rs := [13]) (by kernel_rfl) (by simp) ?_
            refine AllReady.cons rfl (fun K hK => ?_) ?_
            · try simp only [List.getElem_toArray, List.getElem_cons_zero, List.getElem_cons_succ]
              go_simp
              refine hK _ _ ?_
              clear hK K
              try simp only [Act.put, List.getElem_toArray, List.getElem_cons_zero, List.getElem_cons_succ, List.setIfInBounds_toArray, List.set_cons_zero, List.set_cons_succ]
              refine wpAny_take (i := 14) (v := ?_) rfl (by kernel_rfl) (by kernel_rfl) (by kernel_rfl) (fun _ _ _ h => h) (Or.inl ⟨by rfl, ?_⟩) ?_
              rotate_left
              · (intro w; simp only [List.getElem_toArray, List.getElem_cons_zero, List.getElem_cons_succ]; go_simp <;> with_reducible rfl)
              try simp only [Act.put, List.getElem_toArray, List.getElem_cons_zero, List.getElem_cons_succ, List.setIfInBounds_toArray, List.set_cons_zero, List.set_cons_succ]
              refine wpAny_ready (rs := [15]) (by kernel_rfl) (by simp) ?_
              refine AllReady.cons rfl (fun K hK => ?_) ?_
              · try simp only [List.getElem_toArray, List.getElem_cons_zero, List.getElem_cons_succ]
                go_simp
                refine hK _ _ ?_
                clear hK K
                try simp only [Act.put, List.getElem_toArray, List.getElem_cons_zero, List.getElem_cons_succ, List.setIfInBounds_toArray, List.set_cons_zero, List.set_cons_succ]
                refine wpAny_ready (rs := [16]) (by kernel_rfl) (by simp) ?_
                refine AllReady.cons rfl (fun K hK => ?_) ?_
                · refine step_append_lies _ rfl _ _ 177 rfl Bs 181 i0 (.agg #[.int .i32 0, .int .i32 0, .int .i32 0]) 3 12 Tryd.underlying177 hi hz0 hz1 hz2 rfl (by decide) _ _ _ rfl hown2.out ⟨wc.heap.size, 0, none⟩ 1 1 [.int .i32 (x : Int), .int .i32 (y : Int), .int .i32 (Ty : Int)] rfl rfl (World.news_of_block (Blk.new wc.drew #[.int .i32 (x : Int), .int .i32 (y : Int), .int .i32 (Ty : Int)] 181)) (by simp [Value.oneCell']) (by decide) HMX.out.1 HMX.out.2.1 HMX.out.2.2 _ rfl ?_
                  intro g1 cap1 w5 ho5 hg5 hb5 hs5
                  have hk5 := HK5.out _ hg5
                  have d3 := hk5.cellO c3 HVP.out
                  have df3 := (HP.out.kept hk5 HVP.out).free 3
                  have dpl := (HP.out.kept hk5 HVP.out).lt
                  refine hK _ _ ?_
                  clear hK K
                  try simp only [Act.put, List.getElem_toArray, List.getElem_cons_zero, List.getElem_cons_succ, List.setIfInBounds_toArray, List.set_cons_zero, List.set_cons_succ]
                  refine wpAny_take (i := 17) (v := ?_) rfl (by kernel_rfl) (by kernel_rfl) (by kernel_rfl) (fun _ _ _ h => h) (Or.inl ⟨by rfl, ?_⟩) ?_
                  rotate_left
                  · (intro w; simp only [List.getElem_toArray, List.getElem_cons_zero, List.getElem_cons_succ]; go_simp <;> with_reducible rfl)
                  try simp only [Act.put, List.getElem_toArray, List.getElem_cons_zero, List.getElem_cons_succ, List.setIfInBounds_toArray, List.set_cons_zero, List.set_cons_succ]
                  refine wpAny_take (i := 18) (v := ?_) rfl (by kernel_rfl) (by kernel_rfl) (by kernel_rfl) (fun _ _ _ h => h) (Or.inl ⟨by rfl, ?_⟩) ?_
                  rotate_left
                  · (intro w; simp only [List.getElem_toArray, List.getElem_cons_zero, List.getElem_cons_succ]; go_simp <;> with_reducible rfl)
                  try simp only [Act.put, List.getElem_toArray, List.getElem_cons_zero, List.getElem_cons_succ, List.setIfInBounds_toArray, List.set_cons_zero, List.set_cons_succ]
                  refine wpAny_ready (rs := [19]) (by kernel_rfl) (by simp) ?_
                  refine AllReady.cons rfl (fun K hK => ?_) ?_
                  · try simp only [List.getElem_toArray, List.getElem_cons_zero, List.getElem_cons_succ]
                    go_simp
                    refine hK _ _ ?_
                    clear hK K
                    try simp only [Act.put, List.getElem_toArray, List.getElem_cons_zero, List.getElem_cons_succ, List.setIfInBounds_toArray, List.set_cons_zero, List.set_cons_succ]
                    refine wpAny_done (by kernel_rfl) ?_ _
                    have HU6 := Lib.hid (HUC.out.setV hk5 ho5)
                    have HOB : Hid (vs.ownBlock = some g1 ∨ w.heap.size ≤ g1) := Lib.hid (hb5.imp id fun e => by rw [e]; exact HWB.out)
                    have HK6 := Lib.hid (HWC.out _ hk5 (.slice (some ⟨g1, 0, none⟩) (k2 + 1) cap1))
                    clear hk5 ho5 hg5 hb5 hs5 d3 df3 dpl
                    generalize World.setCell w5 _ _ = w6 at *
                    go_wp2_with fail
                    go_meet
                    exact Lib.hid ⟨_, g1, rfl, HOB.out, by first | exact HU6.out | exact HU6.out.keep (Keeps.refl _ _).drew, by first | exact HK6.out | exact HK6.out.drew⟩
                  exact AllReady.nil
                exact AllReady.nil
              exact AllReady.nil
            exact AllReady.nil
          exact AllReady.nil
        refine AllReady.cons rfl (fun K hK => ?_) ?_
        · try simp only [List.getElem_toArray, List.getElem_cons_zero, List.getElem_cons_succ]
          go_simp
          refine hK _ _ ?_
          clear hK K
          try simp only [Act.put, List.getElem_toArray, List.getElem_cons_zero, List.getElem_cons_succ, List.setIfInBounds_toArray, List.set_cons_zero, List.set_cons_succ]
          refine wpAny_take (i := 12) (v := ?_) rfl (by kernel_rfl) (by kernel_rfl) (by kernel_rfl) (fun _ _ _ h => h) (Or.inl ⟨by rfl, ?_⟩) ?_
          rotate_left
          · (intro w; simp only [List.getElem_toArray, List.getElem_cons_zero, List.getElem_cons_succ]; go_simp <;> with_reducible rfl)
          try simp only [Act.put, List.getElem_toArray, List.getElem_cons_zero, List.getElem_cons_succ, List.setIfInBounds_toArray, List.set_cons_zero, List.set_cons_succ]
          refine wpAny_ready (rs := [4, 13]) (by kernel_rfl) (by simp) ?_
          refine AllReady.cons rfl (fun K hK => ?_) ?_
          · try simp only [List.getElem_toArray, List.getElem_cons_zero, List.getElem_cons_succ]
            go_simp
            refine hK _ _ ?_
            clear hK K
            try simp only [Act.put, List.getElem_toArray, List.getElem_cons_zero, List.getElem_cons_succ, List.setIfInBounds_toArray, List.set_cons_zero, List.set_cons_succ]
            refine wpAny_ready (rs := [13]) (by kernel_rfl) (by simp) ?_
            refine AllReady.cons rfl (fun K hK => ?_) ?_
            · try simp only [List.getElem_toArray, List.getElem_cons_zero, List.getElem_cons_succ]
              go_simp
              refine hK _ _ ?_
              clear hK K
              try simp only [Act.put, List.getElem_toArray, List.getElem_cons_zero, List.getElem_cons_succ, List.setIfInBounds_toArray, List.set_cons_zero, List.set_cons_succ]
              refine wpAny_take (i := 14) (v := ?_) rfl (by kernel_rfl) (by kernel_rfl) (by kernel_rfl) (fun _ _ _ h => h) (Or.inl ⟨by rfl, ?_⟩) ?_
              rotate_left
              · (intro w; simp only [List.getElem_toArray, List.getElem_cons_zero, List.getElem_cons_succ]; go_simp <;> with_reducible rfl)
              try simp only [Act.put, List.getElem_toArray, List.getElem_cons_zero, List.getElem_cons_succ, List.setIfInBounds_toArray, List.set_cons_zero, List.set_cons_succ]
              refine wpAny_ready (rs := [15]) (by kernel_rfl) (by simp) ?_
              refine AllReady.cons rfl (fun K hK => ?_) ?_
              · try simp only [List.getElem_toArray, List.getElem_cons_zero, List.getElem_cons_succ]
                go_simp
                refine hK _ _ ?_
                clear hK K
                try simp only [Act.put, List.getElem_toArray, List.getElem_cons_zero, List.getElem_cons_succ, List.setIfInBounds_toArray, List.set_cons_zero, List.set_cons_succ]
                refine wpAny_ready (rs := [16]) (by kernel_rfl) (by simp) ?_
                refine AllReady.cons rfl (fun K hK => ?_) ?_
                · refine step_append_lies _ rfl _ _ 177 rfl Bs 181 i0 (.agg #[.int .i32 0, .int .i32 0, .int .i32 0]) 3 12 Tryd.underlying177 hi hz0 hz1 hz2 rfl (by decide) _ _ _ rfl hown2.out ⟨wc.heap.size, 0, none⟩ 1 1 [.int .i32 (x : Int), .int .i32 (y : Int), .int .i32 (Ty : Int)] rfl rfl (World.news_of_block (Blk.new wc.drew #[.int .i32 (x : Int), .int .i32 (y : Int), .int .i32 (Ty : Int)] 181)) (by simp [Value.oneCell']) (by decide) HMX.out.1 HMX.out.2.1 HMX.out.2.2 _ rfl ?_
                  intro g1 cap1 w5 ho5 hg5 hb5 hs5
                  have hk5 := HK5.out _ hg5
                  have d3 := hk5.cellO c3 HVP.out
                  have df3 := (HP.out.kept hk5 HVP.out).free 3
                  have dpl := (HP.out.kept hk5 HVP.out).lt
                  refine hK _ _ ?_
                  clear hK K
                  try simp only [Act.put, List.getElem_toArray, List.getElem_cons_zero, List.getElem_cons_succ, List.setIfInBounds_toArray, List.set_cons_zero, List.set_cons_succ]
                  refine wpAny_take (i := 17) (v := ?_) rfl (by kernel_rfl) (by kernel_rfl) (by kernel_rfl) (fun _ _ _ h => h) (Or.inl ⟨by rfl, ?_⟩) ?_
                  rotate_left
                  · (intro w; simp only [List.getElem_toArray, List.getElem_cons_zero, List.getElem_cons_succ]; go_simp <;> with_reducible rfl)
                  try simp only [Act.put, List.getElem_toArray, List.getElem_cons_zero, List.getElem_cons_succ, List.setIfInBounds_toArray, List.set_cons_zero, List.set_cons_succ]
                  refine wpAny_take (i := 18) (v := ?_) rfl (by kernel_rfl) (by kernel_rfl) (by kernel_rfl) (fun _ _ _ h => h) (Or.inl ⟨by rfl, ?_⟩) ?_
                  rotate_left
                  · (intro w; simp only [List.getElem_toArray, List.getElem_cons_zero, List.getElem_cons_succ]; go_simp <;> with_reducible rfl)
                  try simp only [Act.put, List.getElem_toArray, List.getElem_cons_zero, List.getElem_cons_succ, List.setIfInBounds_toArray, List.set_cons_zero, List.set_cons_succ]
                  refine wpAny_ready (rs := [19]) (by kernel_rfl) (by simp) ?_
                  refine AllReady.cons rfl (fun K hK => ?_) ?_
                  · try simp only [List.getElem_toArray, List.getElem_cons_zero, List.getElem_cons_succ]
                    go_simp
                    refine hK _ _ ?_
                    clear hK K
                    try simp only [Act.put, List.getElem_toArray, List.getElem_cons_zero, List.getElem_cons_succ, List.setIfInBounds_toArray, List.set_cons_zero, List.set_cons_succ]
                    refine wpAny_done (by kernel_rfl) ?_ _
                    have HU6 := Lib.hid (HUC.out.setV hk5 ho5)
                    have HOB : Hid (vs.ownBlock = some g1 ∨ w.heap.size ≤ g1) := Lib.hid (hb5.imp id fun e => by rw [e]; exact HWB.out)
                    have HK6 := Lib.hid (HWC.out _ hk5 (.slice (some ⟨g1, 0, none⟩) (k2 + 1) cap1))
                    clear hk5 ho5 hg5 hb5 hs5 d3 df3 dpl
                    generalize World.setCell w5 _ _ = w6 at *
                    go_wp2_with fail
                    go_meet
                    exact Lib.hid ⟨_, g1, rfl, HOB.out, by first | exact HU6.out | exact HU6.out.keep (Keeps.refl _ _).drew, by first | exact HK6.out | exact HK6.out.drew⟩
                  exact AllReady.nil
                exact AllReady.nil
              exact AllReady.nil
            exact AllReady.nil
          refine AllReady.cons rfl (fun K hK => ?_) ?_
          · try simp only [List.getElem_toArray, List.getElem_cons_zero, List.getElem_cons_succ]
            go_simp
            refine hK _ _ ?_
            clear hK K
            try simp only [Act.put, List.getElem_toArray, List.getElem_cons_zero, List.getElem_cons_succ, List.setIfInBounds_toArray, List.set_cons_zero, List.set_cons_succ]
            refine wpAny_take (i := 14) (v := ?_) rfl (by kernel_rfl) (by kernel_rfl) (by kernel_rfl) (fun _ _ _ h => h) (Or.inl ⟨by rfl, ?_⟩) ?_
            rotate_left
            · (intro w; simp only [List.getElem_toArray, List.getElem_cons_zero, List.getElem_cons_succ]; go_simp <;> with_reducible rfl)
            try simp only [Act.put, List.getElem_toArray, List.getElem_cons_zero, List.getElem_cons_succ, List.setIfInBounds_toArray, List.set_cons_zero, List.set_cons_succ]
            refine wpAny_ready (rs := [4, 15]) (by kernel_rfl) (by simp) ?_
            refine AllReady.cons rfl (fun K hK => ?_) ?_
            · try simp only [List.getElem_toArray, List.getElem_cons_zero, List.getElem_cons_succ]
              go_simp
              refine hK _ _ ?_
              clear hK K
              try simp only [Act.put, List.getElem_toArray, List.getElem_cons_zero, List.getElem_cons_succ, List.setIfInBounds_toArray, List.set_cons_zero, List.set_cons_succ]
              refine wpAny_ready (rs := [15]) (by kernel_rfl) (by simp) ?_
              refine AllReady.cons rfl (fun K hK => ?_) ?_
              · try simp only [List.getElem_toArray, List.getElem_cons_zero, List.getElem_cons_succ]
                go_simp
                refine hK _ _ ?_
                clear hK K
                try simp only [Act.put, List.getElem_toArray, List.getElem_cons_zero, List.getElem_cons_succ, List.setIfInBounds_toArray, List.set_cons_zero, List.set_cons_succ]
                refine wpAny_ready (rs := [16]) (by kernel_rfl) (by simp) ?_
                refine AllReady.cons rfl (fun K hK => ?_) ?_
                · refine step_append_lies _ rfl _ _ 177 rfl Bs 181 i0 (.agg #[.int .i32 0, .int .i32 0, .int .i32 0]) 3 12 Tryd.underlying177 hi hz0 hz1 hz2 rfl (by decide) _ _ _ rfl hown2.out ⟨wc.heap.size, 0, none⟩ 1 1 [.int .i32 (x : Int), .int .i32 (y : Int), .int .i32 (Ty : Int)] rfl rfl (World.news_of_block (Blk.new wc.drew #[.int .i32 (x : Int), .int .i32 (y : Int), .int .i32 (Ty : Int)] 181)) (by simp [Value.oneCell']) (by decide) HMX.out.1 HMX.out.2.1 HMX.out.2.2 _ rfl ?_
                  intro g1 cap1 w5 ho5 hg5 hb5 hs5
                  have hk5 := HK5.out _ hg5
                  have d3 := hk5.cellO c3 HVP.out
                  have df3 := (HP.out.kept hk5 HVP.out).free 3
                  have dpl := (HP.out.kept hk5 HVP.out).lt
                  refine hK _ _ ?_
                  clear hK K
                  try simp only [Act.put, List.getElem_toArray, List.getElem_cons_zero, List.getElem_cons_succ, List.setIfInBounds_toArray, List.set_cons_zero, List.set_cons_succ]
                  refine wpAny_take (i := 17) (v := ?_) rfl (by kernel_rfl) (by kernel_rfl) (by kernel_rfl) (fun _ _ _ h => h) (Or.inl ⟨by rfl, ?_⟩) ?_
                  rotate_left
                  · (intro w; simp only [List.getElem_toArray, List.getElem_cons_zero, List.getElem_cons_succ]; go_simp <;> with_reducible rfl)
                  try simp only [Act.put, List.getElem_toArray, List.getElem_cons_zero, List.getElem_cons_succ, List.setIfInBounds_toArray, List.set_cons_zero, List.set_cons_succ]
                  refine wpAny_take (i := 18) (v := ?_) rfl (by kernel_rfl) (by kernel_rfl) (by kernel_rfl) (fun _ _ _ h => h) (Or.inl ⟨by rfl, ?_⟩) ?_
                  rotate_left
                  · (intro w; simp only [List.getElem_toArray, List.getElem_cons_zero, List.getElem_cons_succ]; go_simp <;> with_reducible rfl)
                  try simp only [Act.put, List.getElem_toArray, List.getElem_cons_zero, List.getElem_cons_succ, List.setIfInBounds_toArray, List.set_cons_zero, List.set_cons_succ]
                  refine wpAny_ready (rs := [19]) (by kernel_rfl) (by simp) ?_
                  refine AllReady.cons rfl (fun K hK => ?_) ?_
                  · try simp only [List.getElem_toArray, List.getElem_cons_zero, List.getElem_cons_succ]
                    go_simp
                    refine hK _ _ ?_
                    clear hK K
                    try simp only [Act.put, List.getElem_toArray, List.getElem_cons_zero, List.getElem_cons_succ, List.setIfInBounds_toArray, List.set_cons_zero, List.set_cons_succ]
                    refine wpAny_done (by kernel_rfl) ?_ _
                    have HU6 := Lib.hid (HUC.out.setV hk5 ho5)
                    have HOB : Hid (vs.ownBlock = some g1 ∨ w.heap.size ≤ g1) := Lib.hid (hb5.imp id fun e => by rw [e]; exact HWB.out)
                    have HK6 := Lib.hid (HWC.out _ hk5 (.slice (some ⟨g1, 0, none⟩) (k2 + 1) cap1))
                    clear hk5 ho5 hg5 hb5 hs5 d3 df3 dpl
                    generalize World.setCell w5 _ _ = w6 at *
                    go_wp2_with fail
                    go_meet
                    exact Lib.hid ⟨_, g1, rfl, HOB.out, by first | exact HU6.out | exact HU6.out.keep (Keeps.refl _ _).drew, by first | exact HK6.out | exact HK6.out.drew⟩
                  exact AllReady.nil
                exact AllReady.nil
              exact AllReady.nil
            refine AllReady.cons rfl (fun K hK => ?_) ?_
            · try simp only [List.getElem_toArray, List.getElem_cons_zero, List.getElem_cons_succ]
              go_simp
              refine hK _ _ ?_
              clear hK K
              try simp only [Act.put, List.getElem_toArray, List.getElem_cons_zero, List.getElem_cons_succ, List.setIfInBounds_toArray, List.set_cons_zero, List.set_cons_succ]
              refine wpAny_ready (rs := [4]) (by kernel_rfl) (by simp) ?_
              refine AllReady.cons rfl (fun K hK => ?_) ?_
              · try simp only [List.getElem_toArray, List.getElem_cons_zero, List.getElem_cons_succ]
                go_simp
                refine hK _ _ ?_
                clear hK K
                try simp only [Act.put, List.getElem_toArray, List.getElem_cons_zero, List.getElem_cons_succ, List.setIfInBounds_toArray, List.set_cons_zero, List.set_cons_succ]
                refine wpAny_ready (rs := [16]) (by kernel_rfl) (by simp) ?_
                refine AllReady.cons rfl (fun K hK => ?_) ?_
                · refine step_append_lies _ rfl _ _ 177 rfl Bs 181 i0 (.agg #[.int .i32 0, .int .i32 0, .int .i32 0]) 3 12 Tryd.underlying177 hi hz0 hz1 hz2 rfl (by decide) _ _ _ rfl hown2.out ⟨wc.heap.size, 0, none⟩ 1 1 [.int .i32 (x : Int), .int .i32 (y : Int), .int .i32 (Ty : Int)] rfl rfl (World.news_of_block (Blk.new wc.drew #[.int .i32 (x : Int), .int .i32 (y : Int), .int .i32 (Ty : Int)] 181)) (by simp [Value.oneCell']) (by decide) HMX.out.1 HMX.out.2.1 HMX.out.2.2 _ rfl ?_
                  intro g1 cap1 w5 ho5 hg5 hb5 hs5
                  have hk5 := HK5.out _ hg5
                  have d3 := hk5.cellO c3 HVP.out
                  have df3 := (HP.out.kept hk5 HVP.out).free 3
                  have dpl := (HP.out.kept hk5 HVP.out).lt
                  refine hK _ _ ?_
                  clear hK K
                  try simp only [Act.put, List.getElem_toArray, List.getElem_cons_zero, List.getElem_cons_succ, List.setIfInBounds_toArray, List.set_cons_zero, List.set_cons_succ]
                  refine wpAny_take (i := 17) (v := ?_) rfl (by kernel_rfl) (by kernel_rfl) (by kernel_rfl) (fun _ _ _ h => h) (Or.inl ⟨by rfl, ?_⟩) ?_
                  rotate_left
                  · (intro w; simp only [List.getElem_toArray, List.getElem_cons_zero, List.getElem_cons_succ]; go_simp <;> with_reducible rfl)
                  try simp only [Act.put, List.getElem_toArray, List.getElem_cons_zero, List.getElem_cons_succ, List.setIfInBounds_toArray, List.set_cons_zero, List.set_cons_succ]
                  refine wpAny_take (i := 18) (v := ?_) rfl (by kernel_rfl) (by kernel_rfl) (by kernel_rfl) (fun _ _ _ h => h) (Or.inl ⟨by rfl, ?_⟩) ?_
                  rotate_left
                  · (intro w; simp only [List.getElem_toArray, List.getElem_cons_zero, List.getElem_cons_succ]; go_simp <;> with_reducible rfl)
                  try simp only [Act.put, List.getElem_toArray, List.getElem_cons_zero, List.getElem_cons_succ, List.setIfInBounds_toArray, List.set_cons_zero, List.set_cons_succ]
                  refine wpAny_ready (rs := [19]) (by kernel_rfl) (by simp) ?_
                  refine AllReady.cons rfl (fun K hK => ?_) ?_
                  · try simp only [List.getElem_toArray, List.getElem_cons_zero, List.getElem_cons_succ]
                    go_simp
                    refine hK _ _ ?_
                    clear hK K
                    try simp only [Act.put, List.getElem_toArray, List.getElem_cons_zero, List.getElem_cons_succ, List.setIfInBounds_toArray, List.set_cons_zero, List.set_cons_succ]
                    refine wpAny_done (by kernel_rfl) ?_ _
                    have HU6 := Lib.hid (HUC.out.setV hk5 ho5)
                    have HOB : Hid (vs.ownBlock = some g1 ∨ w.heap.size ≤ g1) := Lib.hid (hb5.imp id fun e => by rw [e]; exact HWB.out)
                    have HK6 := Lib.hid (HWC.out _ hk5 (.slice (some ⟨g1, 0, none⟩) (k2 + 1) cap1))
                    clear hk5 ho5 hg5 hb5 hs5 d3 df3 dpl
                    generalize World.setCell w5 _ _ = w6 at *
                    go_wp2_with fail
                    go_meet
                    exact Lib.hid ⟨_, g1, rfl, HOB.out, by first | exact HU6.out | exact HU6.out.keep (Keeps.refl _ _).drew, by first | exact HK6.out | exact HK6.out.drew⟩
                  exact AllReady.nil
                exact AllReady.nil
              exact AllReady.nil
            exact AllReady.nil
          exact AllReady.nil
        exact AllReady.nil
      case rest =>
        clear c0 c1 c2 c3 c3a hTy f3 hown2 HK5 HVP HP HMX HWB HWC KC HUC
        obtain ⟨v', g1, hv', hob, hu6, hk6⟩ := hcut.out
        have HU6 := Lib.hid hu6
        have HK6 := Lib.hid hk6
        have HOB : Hid (∀ q, v'.ownBlock = some q → vs.ownBlock = some q ∨ w.heap.size ≤ q) := Lib.hid fun q e => by rw [hv'] at e; cases e; exact hob
        clear hcut hv' hob hu6 hk6
        obtain ⟨c0, c1, c2, c3⟩ := HU6.out.heads
        have qa := HU6.out.b1.cell (i := x)
        rw [i32n_get (by rw [HLA.out]; exact hcl)] at qa
        have fa := (HU6.out.frees x).2.1
        have HU7 := Lib.hid (HU6.out.setA x y)
        have HK7 := Lib.hid (HK6.out.setIn a x (.int .i32 (y : Int)) (Or.inr (Or.inl rfl)))
        generalize hAx : A.getD x 0 = Ax at *
        go_upto_region 8 with fail
        clear qa fa c0 c1 c2 c3 HU6 HK6
        generalize World.setCell wc _ _ = w7 at *
        obtain ⟨c0, c1, c2, c3⟩ := HU7.out.heads
        have q1 := HU7.out.b2.cell (i := x)
        have q2 := HU7.out.b2.cell (i := y)
        rw [i32n_get (by rw [HLS.out]; exact hcl)] at q1
        rw [i32n_get (by rw [HLS.out]; exact hdl)] at q2
        have fs := (HU7.out.frees y).2.2.1
        have HU8 := Lib.hid (HU7.out.setS y (S.getD y 0 + S.getD x 0))
        have HK8 := Lib.hid (HK7.out.setIn s y (.int .i32 ((S.getD y 0 + S.getD x 0 : Nat) : Int)) (Or.inr (Or.inr (Or.inl rfl))))
        clear hgt' hd
        generalize hSx : S.getD x 0 = Sx at *
        generalize hSy : S.getD y 0 = Sy at *
        have HAD : Hid (((Sy + Sx : Nat) : Int) = (Sy : Int) + (Sx : Int)) := Lib.hid (by omega)
        rw [HAD.out] at HU8 HK8
        go_cut [] (fun wd => Hid (UX wd p a s t Bs n (k2 + 1) (A.set x y) (S.set y (Sy + Sx)) T v' ∧ Keeps (UX.own p a s t vs) w wd))
        case first =>
          go_region
          all_goals
            go_wp2_with fail
            go_meet
            exact Lib.hid ⟨by first | exact HU8.out | exact HU8.out.keep (Keeps.refl _ _).drew, by first | exact HK8.out | exact HK8.out.drew⟩
        case rest =>
          clear q1 q2 fs c0 c1 c2 c3 HU7 HK7 HU8 HK8 HAD
          obtain ⟨hu8, hk8⟩ := hcut.out
          have HU8 := Lib.hid hu8
          have HK8 := Lib.hid hk8
          clear hcut hu8 hk8
          obtain ⟨c0, c1, c2, c3⟩ := HU8.out.heads
          have q1 := HU8.out.b3.cell (i := x)
          have q2 := HU8.out.b3.cell (i := y)
          rw [i32n_get (by rw [HLT.out]; exact hcl)] at q1
          rw [i32n_get (by rw [HLT.out]; exact hdl), hTe] at q2
          have ft := (HU8.out.frees y).2.2.2
          have HU9 := Lib.hid (HU8.out.setT y (min Ty (T.getD x 0)))
          have HK9 := Lib.hid (HK8.out.setIn t y (.int .i32 ((min Ty (T.getD x 0) : Nat) : Int)) (Or.inr (Or.inr (Or.inr (Or.inl rfl)))))
          generalize hTx : T.getD x 0 = Tx at *
          have HMN : Hid (((min Ty Tx : Nat) : Int) = if Tx < Ty then (Tx : Int) else (Ty : Int)) := Lib.hid (by split <;> omega)
          rw [HMN.out] at HU9 HK9
          go_upto_region 9 with fail
          go_cut [] (fun wd => Hid (UX wd p a s t Bs n (k2 + 1) (A.set x y) (S.set y (Sy + Sx)) (T.set y (min Ty Tx)) v' ∧ Keeps (UX.own p a s t vs) w wd))
          case first =>
            by_cases hmn : (Tx : Int) < (Ty : Int)
            · have hmb : decide ((Tx : Int) < (Ty : Int)) = true := decide_eq_true hmn
              rw [if_pos (by omega)] at HU9 HK9
              go_region
              all_goals
                go_wp2_with fail
                go_meet
                exact Lib.hid ⟨by first | exact HU9.out | exact HU9.out.keep (Keeps.refl _ _).drew, by first | exact HK9.out | exact HK9.out.drew⟩
            · have hmb : decide ((Tx : Int) < (Ty : Int)) = false := decide_eq_false hmn
              rw [if_neg (by omega)] at HU9 HK9
              go_region
              all_goals
                go_wp2_with fail
                go_meet
                exact Lib.hid ⟨by first | exact HU9.out | exact HU9.out.keep (Keeps.refl _ _).drew, by first | exact HK9.out | exact HK9.out.drew⟩
          case rest =>
            clear q1 q2 ft c0 c1 c2 c3 HU8 HK8 HU9 HK9 HMN
            obtain ⟨hu9, hk9⟩ := hcut.out
            have HEND := Lib.hid (joined hu9 HRJ.out hn (show k2 + 1 ≤ k + 1 by omega) (by omega) HOB.out hk9)
            clear hcut hu9 hk9 HRJ HOB
            go_wp2_with fail
            obtain ⟨own', e1, e2, e3⟩ := HEND.out
            refine bodyPost_ret (v := .tuple #[.bool true, .nilIface]) (by simp [results, Tryd.results84, go_sem]) rfl ?_
            exact ⟨own', true, rfl, by first | exact e1 | (rw [HJ.out]; exact e1), e2, e3⟩
end
end Go.Proofs.YtdplphhlclhmfaaDoor
