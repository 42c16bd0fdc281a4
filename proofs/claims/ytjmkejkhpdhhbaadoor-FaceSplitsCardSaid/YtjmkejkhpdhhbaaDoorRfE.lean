/- The document's Next, Round, Darts. -/
import Derived.Test.YtjmkejkhpdhhbaaDoorRfC
namespace Go.Proofs.YtjmkejkhpdhhbaaDoor
open Go Go.RowKit
set_option linter.unusedVariables false
set_option linter.unusedSimpArgs false
set_option maxRecDepth 100000

theorem ne_zero_of {j k : Nat} (h : j < k) : (k : Int) ≠ 0 ∧ ((k : Int) == 0) = false := ⟨by omega, by rw [beq_eq_false_iff_ne]; omega⟩
theorem add_tmod (a j k : Nat) : (((a : Nat) : Int) + (j : Int)).tmod (k : Int) = (((a + j) % k : Nat) : Int) := by
  rw [show ((a : Nat) : Int) + (j : Int) = ((a + j : Nat) : Int) by omega, ← Int.ofNat_tmod]
theorem fndV_at {E : Nat} {L : List (List Nat)} (h : WF E L) {d : Nat} (hd : Stands L d) : fndV L d = vtx L d ∧ fndI L d = pos L d := by
  unfold fndV fndI
  rw [Int.toNat_natCast, if_pos ⟨by omega, hd⟩, if_pos ⟨by omega, hd⟩]
  exact ⟨rfl, rfl⟩
section
variable {w : World} {B E : Nat} {v : Value} {L : List (List Nat)}
/-- The place so many steps on. -/
theorem step_at {n i : Nat} (hi : i < n) (hn : n ≤ 2097152) (by_ : Int) (hb : by_ = 1 ∨ by_ = -1) :
    ((i : Int) + by_ + n).tmod n = ((if by_ = 1 then sc n i else pc n i : Nat) : Int) := by
  rcases hb with rfl | rfl
  · rw [if_pos rfl, sc_mod hi, show (i : Int) + 1 + n = ((i + 1 + n : Nat) : Int) by omega, ← Int.ofNat_tmod, Nat.add_mod_right]
  · rw [if_neg (by decide), pc_mod hi, show (i : Int) + -1 + n = ((i + n - 1 : Nat) : Int) by omega, ← Int.ofNat_tmod]
theorem rnext (h : LsRow w B v L) (hw : WF E L) (hV : L.length ≤ 1048576) (hE : E ≤ 1048576) {d : Nat} (hd : Stands L d) (by_ : Int) (hb : by_ = 1 ∨ by_ = -1) :
    Calls Tryd.prog 63 #[rval E v, .int .i64 (d : Int), .int .i64 by_] w (RetPost (.int .i64 (if by_ = 1 then nxt L d else prv L d : Nat)) w) := by
  obtain ⟨n, l, i, hl, hi, rfl⟩ := stands_ex hd
  have hn := (List.getElem?_eq_some_iff.1 hl).1
  have h0 : 0 < L.length := by omega
  have HF := Lib.hid (fun W (hk : Keeps (fun _ => False) w W) => rfind (h.keep hk) hw h0 hV hE ((l.getD i 0 : Nat) : Int))
  obtain ⟨e1, e2⟩ := fnd_hit hw hl hi
  obtain ⟨_, _, e3, e4⟩ := hw.at_ hl hi
  rw [e1, e2] at HF
  rw [e3, e4]
  have hll : l.length ≤ 2 * E := by
    have h1 : l.length ≤ (List.range (2 * E)).length := List.Nodup.length_le_of_subset (hw.nd hl) (fun x hx => List.mem_range.2 (hw.bd hl hx))
    simpa using h1
  have hST := Lib.hid (step_at hi (by omega) by_ hb)
  obtain ⟨j, hj, hjl⟩ : ∃ j, j = (if by_ = 1 then sc l.length i else pc l.length i) ∧ j < l.length := ⟨_, rfl, by split; exact sc_lt hi; exact pc_lt hi⟩
  have hval : (if by_ = 1 then l.getD (sc l.length i) 0 else l.getD (pc l.length i) 0) = l.getD j 0 := by rw [hj]; split <;> rfl
  rw [hval]
  rw [← hj] at hST
  obtain ⟨g, c, rfl, hc, hB, hat⟩ := h.at_ h0
  obtain ⟨u, hu, hrow⟩ := hat n l hl
  have hgb : g < w.heap.size := World.block_lt_of_cell? w _ hu
  have HB : Hid (Blk (w.alloc (.cells #[.int .i64 (E : Int), .slice (some ⟨g, 0, none⟩) L.length c] 32)) w.heap.size #[.int .i64 (E : Int), .slice (some ⟨g, 0, none⟩) L.length c] 32) := Blk.new w _ _
  have HK := Lib.hid ((Keeps.refl (fun _ => False) w).alloc (.cells #[.int .i64 (E : Int), .slice (some ⟨g, 0, none⟩) L.length c] 32))
  obtain ⟨a, c2, rfl, hrd⟩ := hrow.rd
  obtain ⟨b, off, rfl, hcell⟩ := hrd.nat hjl
  have HU := Lib.hid hu
  have HC := Lib.hid hcell
  have HF2 := Lib.hid (HF.out _ HK.out)
  generalize ((l.getD i 0 : Nat) : Int) = x at *
  generalize ((l.getD j 0 : Nat) : Int) = y at *
  have hbw : b < w.heap.size := World.block_lt_of_cell? w _ hcell
  clear h hat hu hrow hrd hcell HF hw hd e1 e2 e3 e4 hval hl hj
  unfold rval RetPost at *
  go_enter Tryd.func63, Tryd.ntmps63
  go_wp2_with fail
  refine (HF2.out).mono ?_
  rintro e w2 ⟨rfl, hk2⟩
  have HK2 := Lib.hid (HK.out.trans' hk2)
  have b1 := (HB.out.kept hk2 id).cell (i := 1)
  simp only [List.getElem?_toArray, List.getElem?_cons_zero, List.getElem?_cons_succ] at b1
  have hu := HK2.out.cellF HU.out
  have hcell := HK2.out.cellF HC.out
  have hST' := hST.out
  have w1 : IntKind.i64.wrap ((i : Int) + by_) = (i : Int) + by_ := by rw [IntKind.wrap_i64]; omega
  have w2' : IntKind.i64.wrap ((i : Int) + by_ + (l.length : Int)) = (i : Int) + by_ + (l.length : Int) := by rw [IntKind.wrap_i64]; omega
  have w3 : IntKind.i64.wrap (j : Int) = (j : Int) := by rw [IntKind.wrap_i64]; omega
  have hl0 : ((l.length : Int) == 0) = false := by rw [beq_eq_false_iff_ne]; omega
  have hl1 : (l.length : Int) ≠ 0 := by omega
  have hjl2 : (j : Int) < (l.length : Int) := by omega
  have hj0 : (0 : Int) ≤ (j : Int) := by omega
  clear hk2
  go_wp2_with fail
  go_quiet (fail)
  go_wp2_with fail
  go_ret
  exact ⟨rfl, by first | exact HK2.out.drewN _ | exact HK2.out.drew⟩
/-- A list of darts told. -/
def LsPost (l : List Nat) (w : World) (e : Ending) (w' : World) : Prop := ∃ u, e = .returned u ∧ LRow w' w.heap.size u l ∧ Keeps (fun _ => False) w w'
set_option maxHeartbeats 1000000 in
theorem rround (h : LsRow w B v L) (hw : WF E L) (hV : L.length ≤ 1048576) (hE : E ≤ 1048576) {n : Nat} {l : List Nat} (hl : L[n]? = some l) (n' : Int) (hn' : n' = n) :
    Calls Tryd.prog 64 #[rval E v, .int .i64 n'] w (LsPost (rnd l) w) := by
  subst hn'
  have hn := (List.getElem?_eq_some_iff.1 hl).1
  have h0 : 0 < L.length := by omega
  obtain ⟨i0, hi, hz0, hz1, hz2⟩ := info_parts infoI
  have hnd := hw.nd hl
  have hll : l.length ≤ 2 * E := by
    have h1 : l.length ≤ (List.range (2 * E)).length := List.Nodup.length_le_of_subset (hw.nd hl) (fun x hx => List.mem_range.2 (hw.bd hl hx))
    simpa using h1
  obtain ⟨g, c, rfl, hc, hB, hat⟩ := h.at_ h0
  obtain ⟨u, hu, hrow⟩ := hat n l hl
  have hgb : g < w.heap.size := World.block_lt_of_cell? w _ hu
  obtain ⟨a, c2, rfl, hrd⟩ := hrow.rd
  have HRD := Lib.hid hrd
  obtain ⟨gt, hgt⟩ : ∃ gt : Nat → Nat, ∀ j, l.getD j 0 = gt j := ⟨_, fun _ => rfl⟩
  have HRND : Hid (∀ m, m < l.length → (∀ j, j < l.length → gt m ≤ gt j) → argm l = m) := fun m hm h => argm_eq hnd hm fun y hy => by
    obtain ⟨j, hj, rfl⟩ := mem_getD hy
    rw [hgt, hgt]; exact h j hj
  have HRG : Hid (∀ j, j < l.length → (rnd l).getD j 0 = gt ((argm l + j) % l.length)) := fun j hj => by rw [rnd_getD hj, hgt]
  have HRL : Hid ((rnd l).length = l.length) := rnd_length l
  have HRD2 : Hid (∀ {i : Nat}, i < l.length → ∃ b off, a = some ⟨b, off, none⟩ ∧ w.cell? ⟨b, off + i, none⟩ = some (.int .i64 ((gt i : Nat) : Int))) := fun hi => by
    have := hrd.nat hi
    rwa [hgt] at this
  have HBD : Hid (∀ i, i < l.length → gt i < 2 * E) := fun i hi => by rw [← hgt]; exact hw.bd hl (getD_mem hi)
  have HB : Hid (Blk (w.alloc (.cells #[.int .i64 (E : Int), .slice (some ⟨g, 0, none⟩) L.length c] 32)) w.heap.size #[.int .i64 (E : Int), .slice (some ⟨g, 0, none⟩) L.length c] 32) := Blk.new w _ _
  have HK := Lib.hid ((Keeps.refl (fun _ => False) w).alloc (.cells #[.int .i64 (E : Int), .slice (some ⟨g, 0, none⟩) L.length c] 32))
  clear h hat hrow hrd hw hl hnd hgt
  generalize rnd l = R at *
  generalize argm l = am at *
  generalize l.length = N at *
  unfold rval LsPost
  go_enter Tryd.func64, Tryd.ntmps64
  go_wp2_with fail
  generalize w.alloc _ = w0 at *
  go_loopw [6, 7] (fun t i wr => ∃ (q A k : Nat), k ≤ N ∧ t = .int .i64 (A : Int) ∧ i = .int .i64 (k : Int) ∧ wr = w0.drewN q ∧ (A < k ∨ k = 0 ∧ A = 0) ∧ Hid (∀ j, j < k → gt A ≤ gt j)) (fun _ i _ => N - (intOf i).toNat)
  case atStart => exact ⟨0, 0, 0, Nat.zero_le _, rfl, rfl, rfl, .inr ⟨rfl, rfl⟩, fun j h => absurd h (Nat.not_lt_zero _)⟩
  case round =>
    obtain ⟨q, A, k, hk, rfl, rfl, rfl, hA, HM⟩ := hrel
    have HKQ := Lib.hid (HK.out.drewN q)
    by_cases hkN : k < N
    · have hAN : A < N := by omega
      obtain ⟨b, off, hab, hcell⟩ := HRD2.out hkN
      obtain ⟨b', off', hab', hcellA⟩ := HRD2.out hAN
      obtain rfl := hab
      simp only [Option.some.injEq, Addr.mk.injEq, and_true] at hab'
      obtain ⟨rfl, rfl⟩ := hab'
      have hc1 := HK.out.cellF hcell
      have hc2 := HK.out.cellF hcellA
      have hkN2 : (k : Int) < (N : Int) := by omega
      have hAN2 : (A : Int) < (N : Int) := by omega
      have HMk : Hid (∀ m', gt m' ≤ gt A → gt m' ≤ gt k → ∀ j, j < k + 1 → gt m' ≤ gt j) := fun m' h1 h2 j hj => by
        by_cases e : j = k
        · subst e; exact h2
        · exact Nat.le_trans h1 (HM.out j (by omega))
      generalize hx : gt k = x at *
      generalize hy : gt A = y at *
      have HX := Lib.hid hx
      have HY := Lib.hid hy
      clear hx hy hcell hcellA
      by_cases hxy : x < y
      · have hd : decide ((x : Int) < (y : Int)) = true := by simp; exact hxy
        have hnew : Hid (∀ j, j < k + 1 → gt k ≤ gt j) := HMk.out k (by rw [HX.out]; omega) (by rw [HX.out]; exact Nat.le_refl _)
        go_wp2_with fail
        go_quiet (fail)
        go_wp2_with fail
        refine ⟨⟨_, k, k + 1, hkN, rfl, by go_num, by first | rfl | exact World.drewN_drewN _ _ _, .inl (Nat.lt_succ_self k), hnew⟩, by simp [intOf]; omega⟩
      · have hd : decide ((x : Int) < (y : Int)) = false := by simp; omega
        have hnew : Hid (∀ j, j < k + 1 → gt A ≤ gt j) := HMk.out A (by rw [HY.out]; exact Nat.le_refl _) (by rw [HY.out]; omega)
        go_wp2_with fail
        go_quiet (fail)
        go_wp2_with fail
        refine ⟨⟨_, A, k + 1, hkN, rfl, by go_num, by first | rfl | exact World.drewN_drewN _ _ _, .inl (by omega), hnew⟩, by simp [intOf]; omega⟩
    · obtain rfl : k = N := by omega
      have hst : Hid ((w0.drewN q).ownsRow w.heap.size 3 1 (.slice none 0 0) 0 (nats (R.take 0)) ∧ Keeps (fun _ => False) w (w0.drewN q)) := ⟨World.ownsRow_nil _ _ _ _, HKQ.out⟩
      have HAM : Hid (k = 0 ∨ A < k ∧ am = A) := by
        rcases hA with h | ⟨h, _⟩
        · exact .inr ⟨h, HRND.out A h HM.out⟩
        · exact .inl h
      clear hA HM
      go_wp2_with fail
      go_loopw [8, 9] (fun o i wr2 => ∃ j : Nat, j ≤ k ∧ i = .int .i64 (j : Int) ∧ wr2.ownsRow w.heap.size 3 1 o j (nats (R.take j)) ∧ Keeps (fun _ => False) w wr2 ∧ (j = 0 → o = .slice none 0 0)) (fun _ i _ => k - (intOf i).toNat)
      case atStart => exact ⟨0, Nat.zero_le _, rfl, hst.out.1, hst.out.2, fun _ => rfl⟩
      case round =>
        obtain ⟨j, hj, rfl, hown, hkr, hnil⟩ := hrel
        clear hst
        have HO := Lib.hid (And.intro hown (And.intro hkr hnil))
        have hws := hkr.size
        by_cases hjN : j < k
        · obtain ⟨hAN, rfl⟩ : A < k ∧ am = A := by
            rcases HAM.out with h | h
            · exact absurd hjN (by rw [h]; exact Nat.not_lt_zero _)
            · exact h
          have hmod := add_tmod am j k
          have hml := Nat.mod_lt (am + j) (Nat.lt_of_le_of_lt (Nat.zero_le j) hjN)
          obtain ⟨b, off, rfl, hcell⟩ := HRD2.out hml
          have hc1 := hkr.cellF hcell
          have HTN : Hid (R.take (j + 1) = R.take j ++ [gt ((am + j) % k)]) := by
            have h1 := take_next (l := R) (k := j) (by rw [HRL.out]; exact hjN)
            rw [HRG.out j hjN] at h1
            exact Lib.hid h1
          have hbx := HBD.out _ hml
          generalize gt ((am + j) % k) = x at *
          generalize (am + j) % k = m at *
          have hml2 : (m : Int) ≤ 2097152 := Int.ofNat_le.2 (Nat.le_trans (Nat.le_of_lt hml) (Nat.le_trans hll (Nat.mul_le_mul_left 2 hE)))
          obtain ⟨hl1, hl0⟩ := ne_zero_of hjN
          have hm1 : (m : Int) < (k : Int) := Int.ofNat_lt.2 hml
          have hcap : j + 1 ≤ maxLen ∧ (j + 1) * 8 ≤ 140737488355328 := ar_cap hjN hll hE
          clear hcell hkr hnil
          go_wp2_with (first | (at_builtin; refine wpList_app1 rfl _ _ 47 rfl w.heap.size 3 i0 (.int .i64 0) 1 8 Tryd.underlying47 hi hz0 hz1 hz2 rfl (by decide) _ _ _ rfl hown _ 1 1 [.int .i64 ((x : Nat) : Int)] 3 rfl rfl rfl ?c1 ?c2 ?c3 ?c4 ?_))
          case c1 => simp [Value.oneCell']
          intro v1 w1 ho hk1' _ _ _
          have HO1 : Hid (w1.ownsRow w.heap.size 3 1 v1 (j + 1) (nats (R.take (j + 1))) ∧ Keeps (fun _ => False) w w1) := by
            refine ⟨?_, HO.out.2.1.trans hk1' fun i hi e => absurd hi (Nat.not_lt.2 (HO.out.1.lt i e).1)⟩
            rw [HTN.out, nats_append]
            exact ho
          clear ho hk1' hown
          go_wp2_with fail
          refine ⟨⟨j + 1, hjN, by go_num, HO1.out.1, HO1.out.2, fun h => absurd h (Nat.succ_ne_zero j)⟩, by simp only [intOf, Array.getD_eq_getD_getElem?]; simp; exact ar_less hjN⟩
        · obtain rfl : j = k := Nat.le_antisymm hj (Nat.not_lt.1 hjN)
          clear hown hkr hnil
          go_wp2_with fail
          go_ret
          refine ⟨_, rfl, ⟨?_, fun h => HO.out.2.2 ?_⟩, HO.out.2.1⟩
          · have h1 := HO.out.1
            rw [List.take_of_length_le (by rw [HRL.out]; exact Nat.le_refl _)] at h1
            rw [HRL.out]
            exact h1
          · rw [← HRL.out, h]; rfl
end
end Go.Proofs.YtjmkejkhpdhhbaaDoor
