/- plaitlaw03.ArenaRuns answers true whatever the input, and each argument reads behind the call as it read before: the row, and its card tied to the program's text. -/
import Derived.Test.YtiphdlhnoceeiaaDoorL3m
import Derived.Test.YtiphdlhnoceeiaaDoorOpenZ
import Derived.Test.YtiphdlhnoceeiaaDoorCards
import Derived.Test.YtiphdlhnoceeiaaDoorTie
import Derived.SevenTiedAt
namespace Go.Proofs.YtiphdlhnoceeiaaDoor.arenaRuns
open Go Go.ChangeShapes Go.WideShapes Go.ChangeAt Go.RowKit
set_option linter.unusedVariables false
set_option linter.unusedSimpArgs false
set_option maxRecDepth 100000 in
theorem lifted (os : Os) (started : os.Started) (H : Type) (enc : TypeId × Value → H) :
    ReturnsInHanded {} Tryd.checked os 14 .any (fun w args => (Rows.arenaRunsSpec.pre enc Tryd.prog Tryd.f14 [] false w args ∧ laidMetH Tryd.prog laid2 w) ∧ sizedMet enc Tryd.prog Tryd.f14 (OpenSpec.ofChange Rows.arenaRunsSpec) false w args)
      (Rows.arenaRunsSpec.post enc Tryd.prog Tryd.f14 false true false false) := by
  refine returnsInHanded_of_change_and (C := Tryd.checked) (X := fun w _ => laidMetH Tryd.prog laid2 w) (fun _ _ _ hh h => h.of_heap hh) kown started (by kernel_rfl) Tryd.func14
    (ChangeSpec.witness_at (enc := enc) (C := Tryd.checked) (os := os) (X := fun w _ => laidMetH Tryd.prog laid2 w) false (laidWorld os) #[.int .i64 0, .slice none 0 0, .slice none 0 0] 8 rfl (by kernel_rfl) (by kernel_rfl) (by kernel_rfl) (by kernel_rfl) (by kernel_rfl) (laidWorld_met2 os _)) ?_
  intro W base args ds gs before hval0 hW _ hszw hL hsz
  have hval : ∀ (j : Nat) t v, Tryd.f14.params[j]? = some t → args[j]? = some v → Value.okWide Tryd.prog W .any base t v := hval0
  have hW' := hW
  obtain ⟨p, q, hA0, hV, rfl, hfz, hnd⟩ := hW
  have hA : DataW.TrodAll enc Tryd.prog W 0 (fun _ => true) true Tryd.f14.params.toList args.toList ds p := hA0
  rw [Tryd.params14] at hA hval
  obtain ⟨v0, vs0, d0, ds0, p0, q0, hargs, rfl, rfl, h0, r0⟩ := trodAll_cons hA
  obtain ⟨v1, vs1, d1, ds1, p1, q1, rfl, rfl, rfl, h1, r1⟩ := trodAll_cons r0
  obtain ⟨v2, vs2, d2, ds2, p2, q2, rfl, rfl, rfl, h2, r2⟩ := trodAll_cons r1
  obtain ⟨rfl, rfl, rfl⟩ := trodAll_nil r2
  obtain rfl : args = #[v0, v1, v2] := by cases args; simp_all
  obtain ⟨rfl, rfl⟩ := trodVars_none hV
  have hsz' : (DataW.weightsEach Tryd.prog (Tryd.f14.params.toList ++ Rows.arenaRunsSpec.plain.varTypes Tryd.prog) _).all (· ≤ reachBytes) = true := hszw
  rw [Tryd.params14] at hsz' 
  obtain ⟨a0, rfl, rfl, rfl, w0⟩ := open_int Tryd.underlying3 (hval 0 3 v0 rfl rfl) h0
  obtain ⟨a1, len1, cap1, rfl⟩ := okWide_slice Tryd.underlying65 (hval 1 65 v1 rfl rfl)
  have hs1 := open_sized Tryd.underlying65 h1 hsz' 1 rfl rfl
  rw [show Tryd.prog.bytesOf 83 = 16 by kernel_rfl] at hs1
  have k1 := h1
  have lt1 : ∀ x ∈ p1, x.block < W.heap.size := by obtain ⟨m, hm⟩ := k1; exact DataW.trod_lt m _ _ _ hm
  obtain ⟨z1, w1⟩ : ∃ ls : List (Int × Int), ls.length = len1 ∧ Rd W a1 (ls.flatMap fun p => [.int .u32 p.1, .int .i64 p.2]) ∧ len1 ≤ 9223372036854775807 ∧ ∀ p ∈ ls, (Lit.int .u32 p.1).wf = true ∧ (Lit.int .i64 p.2).wf = true := by
    obtain ⟨fuel, hf⟩ := h1
    have hf' := by simpa only [Value.cells] using hf
    exact open_pairs .u32 .i64 Tryd.underlying65 Tryd.underlying83 (by kernel_rfl) (fun j hj => by
      match j, hj with
      | 0, _ => exact ⟨_, rfl, rfl, by kernel_rfl, Tryd.underlying44⟩
      | 1, _ => exact ⟨_, rfl, rfl, by kernel_rfl, Tryd.underlying3⟩) hf'
  obtain ⟨hl1, hr1, hm1, hw1⟩ := w1
  subst hl1
  obtain ⟨a2, len2, cap2, rfl⟩ := okWide_slice Tryd.underlying73 (hval 2 73 v2 rfl rfl)
  have k2 := h2
  have lt2 : ∀ x ∈ p2, x.block < W.heap.size := by obtain ⟨m, hm⟩ := k2; exact DataW.trod_lt m _ _ _ hm
  obtain ⟨z2, w2⟩ : ∃ ls : List (Int × Int × Int × Int), ls.length = len2 ∧ Rd W a2 (ls.flatMap fun p => [.int .i64 p.1, .int .u32 p.2.1, .int .u32 p.2.2.1, .int .i64 p.2.2.2]) ∧ len2 ≤ 9223372036854775807 ∧ ∀ p ∈ ls, (Lit.int .i64 p.1).wf = true ∧ (Lit.int .u32 p.2.1).wf = true ∧ (Lit.int .u32 p.2.2.1).wf = true ∧ (Lit.int .i64 p.2.2.2).wf = true := by
    obtain ⟨fuel, hf⟩ := h2
    have hf' := by simpa only [Value.cells] using hf
    exact open_quads .i64 .u32 .u32 .i64 Tryd.underlying73 Tryd.underlying79 (by kernel_rfl) (fun j hj => by
      match j, hj with
      | 0, _ => exact ⟨_, rfl, rfl, by kernel_rfl, Tryd.underlying3⟩
      | 1, _ => exact ⟨_, rfl, rfl, by kernel_rfl, Tryd.underlying44⟩
      | 2, _ => exact ⟨_, rfl, rfl, by kernel_rfl, Tryd.underlying44⟩
      | 3, _ => exact ⟨_, rfl, rfl, by kernel_rfl, Tryd.underlying3⟩) hf'
  obtain ⟨hl2, hr2, hm2, hw2⟩ := w2
  subst hl2
  clear hA0 hval0
  refine (arenaRuns_enter W (tab_of_laid2 hL) (err_of_laid2 hL) a0 w0 a1 _ z1 hr1 hm1 hw1 hs1 a2 _ z2 hr2 hm2 hw2).mono fun e W' ⟨he, hk⟩ => ?_
  subst he
  have bel : Below W.heap.size W W' := hk.whole
  exact ⟨_, rfl, _, _, _, [], _, [], hW', trodAll_mk1 (shut_bool Tryd.underlying4 _), (trodAll_cons_mk (shut_int Tryd.underlying3 w0) (trodAll_cons_mk (Below.trod klaidOut (by kernel_rfl) (of_decide_eq_true (by kernel_rfl)) k1 bel lt1) (trodAll_cons_mk (Below.trod klaidOut (by kernel_rfl) (of_decide_eq_true (by kernel_rfl)) k2 bel lt2) trodAll_mk0))), rfl, bel.frame _, fun h => by cases h⟩

theorem over : Rows.arenaRunsRow.holds Tryd.pinned (OpenSpec.ofChange Rows.arenaRunsSpec) :=
  OpenClaim.holds_of_wide 14 Tryd.f14 rfl rfl rfl rfl rfl rfl rfl ⟨rfl, rfl, rfl, rfl, rfl⟩ rfl rfl rfl rfl rfl (by kernel_rfl) Tryd.func14 (by kernel_rfl)
    (of_decide_eq_true (by kernel_rfl)) (by unfold Func.isWrapper; first | (rw [if_pos (by decide +kernel)]; kernel_rfl) | (rw [if_neg (by decide +kernel)]; exact ⟨rfl, rfl⟩))
    (fun os started H enc _ => lifted os started H enc)

theorem proved : Rows.ArenaRunsCardSaid :=
  Claim7.holds_tied_plain_at .later [] [.data, .handle] true (true, "9d210845a112f0c65e7f8a9da7fc0bfe95c232eb531fac1f5518acb9fd97e55f") true
    over (fun _ h => by cases h) (by kernel_rfl) (fun _ h => by cases h) arenaRuns_row_tie rfl ⟨rfl, rfl⟩ (by kernel_rfl) rfl
    (fun f fn hf hfn => by
      obtain rfl : f = 14 := Option.some.inj ((show Tryd.prog.funcNamed "plait/plaitlaw03.ArenaRuns" = some 14 by kernel_rfl).symm.trans hf) |>.symm
      obtain rfl : fn = Tryd.f14 := (Option.some.inj (Tryd.func14.symm.trans hfn)).symm
      exact ⟨by kernel_rfl, fun j t ht => by
        rw [Tryd.params14] at ht
        have h3 : t = 73 ∨ t = 65 ∨ t = 3 := by
          rcases j with _ | _ | _ | j
          · simp at ht; subst ht; simp
          · simp at ht; subst ht; simp
          · simp at ht; subst ht; simp
          · simp at ht
        rcases h3 with rfl | rfl | rfl
        · exact (show Tryd.prog.wantsStandIn 73 = false by kernel_rfl)
        · exact (show Tryd.prog.wantsStandIn 65 = false by kernel_rfl)
        · exact (show Tryd.prog.wantsStandIn 3 = false by kernel_rfl)
⟩)
    (by kernel_rfl)
#print axioms proved
end Go.Proofs.YtiphdlhnoceeiaaDoor.arenaRuns
