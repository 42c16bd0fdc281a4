/- Chapter 12's laws: SphereLoops. -/
import Derived.Test.YtdplphhlclhmfaaSpF
import Derived.Test.YtdplphhlclhmfaaSpG
import Derived.Test.YtdplphhlclhmfaaSpL
import Derived.Test.YtdplphhlclhmfaaSpR
import Derived.Deep.RegionHeld3
namespace Go.Proofs.Ytdplphhlclhmfaa
open Go Go.RowKit
set_option linter.unusedVariables false
set_option linter.unusedSimpArgs false
set_option maxRecDepth 100000

theorem and_one (x : Int) : bits BinOp.and IntKind.i64 x 1 = ((unsg x % 2 : Nat) : Int) := by
  have h1 : ((BitVec.ofInt 64 x &&& BitVec.ofInt 64 1).toNat) = unsg x % 2 := by
    rw [BitVec.toNat_and, BitVec.toNat_ofInt, BitVec.toNat_ofInt]
    have e1 : ((1 : Int) % ((2 ^ 64 : Nat) : Int)).toNat = 1 := by decide
    rw [e1, Nat.and_one_is_mod]
    rfl
  show IntKind.i64.wrap (((BitVec.ofInt 64 x &&& BitVec.ofInt 64 1).toNat : Nat) : Int) = _
  rw [h1, IntKind.wrap_i64]
  have := Nat.mod_lt (unsg x) (show 2 > 0 by decide)
  generalize unsg x % 2 = r at *
  omega
set_option maxHeartbeats 8000000 in
theorem sphereLoops_walk (za : Option Addr) (zc : Nat) (zs : List Int) (w : World) (hv : Rd w za (i64s zs)) (hvl : zs.length ≤ 9223372036854775807) :
    Calls Try.prog 3 #[.slice za zs.length zc] w (TruePost w) := by
  have HV := Lib.hid hv
  clear hv
  have HSU := Lib.hid (fun W => sure12 W)
  unfold TruePost at HSU
  unfold TruePost
  go_enter Try.func3, Try.ntmps3
  go_wp2_with fail
  refine (tnew 1 12 w (by decide) (by decide) (by decide) (by decide)).mono ?_
  rintro e w1 ⟨p, own, rfl, ht, hge, hk1⟩
  have H1 := Lib.hid (And.intro ht (And.intro hge hk1))
  have hg1 := Good.new 12 1
  have hl := Lib.hid (tlay ht hg1 0 (0, -1) (0, -1))
  have e1 : layErr 12 (List.replicate 1 []) 0 (0, -1) (0, -1) = 0 := by decide
  have e2 : lay 12 (List.replicate 1 []) 0 (0, -1) (0, -1) = [[0, 1]] := by decide
  rw [e1, e2, errVal_zero] at hl
  clear ht hge hk1 e1 e2 hg1
  unfold tptr cval TPost at *
  go_wp2_with fail
  refine hl.out.mono ?_
  rintro e w2 ⟨rfl, ht2, hk2⟩
  have H2 : Hid (LoopAt 12 1 [[0, 1]] ∧ Tu w2 own p 12 [[0, 1]] ∧ Keeps (fun _ => False) w w2) := Lib.hid ⟨LoopAt.start, ht2, H1.out.2.2.thin hk2 H1.out.2.1⟩
  have HOW : Hid (∀ k, own k → w.heap.size ≤ k) := Lib.hid H1.out.2.1
  clear hl ht2 hk2 H1
  go_wp2_with fail
  go_loopw [5, 6] (fun t i wr => ∃ (n k : Nat), k ≤ zs.length ∧ k ≤ 10 ∧ t = .int .i64 (n : Int) ∧ i = .int .i64 (k : Int) ∧ Hid (n = k + 1 ∧ ∃ L, LoopAt 12 n L ∧ Tu wr own p 12 L ∧ Keeps (fun _ => False) w wr)) (fun _ i _ => zs.length - (intOf i).toNat)
  case atStart => exact ⟨1, 0, Nat.zero_le _, by decide, rfl, rfl, Lib.hid ⟨rfl, _, H2.out⟩⟩
  case round =>
    obtain ⟨n, k, hk, hk10, rfl, rfl, HS⟩ := hrel
    clear H2
    by_cases hlt : k < zs.length ∧ k < 10
    · as_aux_lemma =>
      obtain ⟨hnk, L, hla, htu, hkw⟩ := HS.out
      obtain ⟨hlt, hlt2⟩ := hlt
      have hkI : (k : Int) < (zs.length : Int) := by omega
      have hkI2 : (k : Int) < 10 := by omega
      obtain ⟨b, off, rfl, hx⟩ := (HV.out.keep hkw).i64 hlt
      generalize zs.getD k 0 = x at *
      have hn1 : 1 ≤ n := by omega
      have hn11 : n ≤ 10 := by omega
      have hM := mod_val x n hn1 (by omega)
      have hMK := mod_valK x n hn1 (by omega)
      have hn64 : IntKind.u64.wrap (n : Int) = (n : Int) := by rw [IntKind.wrap_u64]; omega
      have hbt := and_one x
      have hql := Nat.mod_lt (unsg x) hn1
      have hr2 := Nat.mod_lt (unsg x) (show 2 > 0 by decide)
      generalize unsg x % n = q at *
      generalize unsg x % 2 = r at *
      obtain ⟨d, hd⟩ : ∃ d : Nat, d = 2 * q + r := ⟨_, rfl⟩
      have hd2 : d < 2 * n := by clear hM hMK hn64 hbt; omega
      have hn0 : ¬ n = 0 := by clear hM hMK hn64 hbt; omega
      have hx2 := ((Keeps.refl (fun _ => False) wr).alloc (.cells #[.int .i64 0, .int .i64 0] 30)).cellF hx
      have hx3 := ((Keeps.refl (fun _ => False) wr).alloc (.cells #[.int .i64 0, .int .i64 0] 30)).drew.cellF hx
      have h2q : IntKind.i64.wrap (2 * (q : Int)) = 2 * (q : Int) := by rw [IntKind.wrap_i64]; omega
      have h2q' : wrap64 (2 * (q : Int)) = 2 * (q : Int) := by unfold wrap64; omega
      have hsd : IntKind.i64.wrap (2 * (q : Int) + (r : Int)) = (d : Int) := by rw [IntKind.wrap_i64]; omega
      have hsd' : wrap64 (2 * (q : Int) + (r : Int)) = (d : Int) := by unfold wrap64; omega
      have hst := hla.step (by omega) hd2
      have HLG : Hid (∀ W, Keeps (fun _ => False) wr W → Calls Try.prog 7 #[tptr p, cval 0 (d : Int), cval 0 (d : Int)] W (RetPost (.tuple #[.bool true, .nilIface]) W)) := Lib.hid fun W hk => by
        have := slegal (htu.keep hk) hla.good (0, (d : Int)) (0, (d : Int))
        have hc := hla.chk hd2
        have h0 : sameErr L (0, (d : Int)) (0, (d : Int)) = 0 := by unfold sameErr; rw [if_neg (by rw [hc]; exact fun q => q rfl)]; exact hc
        rw [h0, errVal_zero, decide_eq_true (⟨rfl, Or.inl (sameC_self _ _ _)⟩ : (0 : Nat) = 0 ∧ legalC L 12 (0, (d : Int)) (0, (d : Int)))] at this
        exact this
      have HLY : Hid (∀ W, Keeps (fun _ => False) wr W → Calls Try.prog 6 #[tptr p, .int .i64 (n : Int), cval 0 (d : Int), cval 0 (d : Int)] W (TPost own p 12 (lay 12 L (n : Int) (0, (d : Int)) (0, (d : Int))) .nilIface W)) := Lib.hid fun W hk => by
        have := tlay (htu.keep hk) hla.good (n : Int) (0, (d : Int)) (0, (d : Int))
        rw [hst.1, errVal_zero] at this
        exact this
      have HNX : Hid (∀ W, TPost own p 12 (lay 12 L (n : Int) (0, (d : Int)) (0, (d : Int))) .nilIface W (.returned .nilIface) W → True) := Lib.hid fun _ _ => trivial
      have HLA := Lib.hid hst.2
      have HKW := Lib.hid hkw
      have HNK := Lib.hid hnk
      have hwn : IntKind.i64.wrap ((n : Int) + 1) = (n : Int) + 1 := by rw [IntKind.wrap_i64]; omega
      clear hla htu hst HS hd hd2 hql hr2 HNX hkw hnk
      generalize lay 12 L (n : Int) (0, (d : Int)) (0, (d : Int)) = L2 at *
      unfold tptr cval RetPost at HLG
      unfold tptr cval TPost at HLY
      go_upto_region 8 with fail
      go_cut [7] (fun s wc => Hid (∃ pb, s = .pointer (some ⟨pb, 0, none⟩) ∧ Blk wc pb #[.int .i64 0, .int .i64 (d : Int)] 30 ∧ Keeps (fun _ => False) wr wc))
      case first =>
        go_region
        all_goals
          go_wp2_with fail
          go_meet
          refine Lib.hid ⟨_, rfl, ?_, ?_⟩
          · repeat (first | with_reducible exact Blk.new _ _ _ | with_reducible refine Blk.set2 (x := .int .i64 0) (y := .int .i64 0) ?_ | with_reducible refine Blk.drew ?_)
          · repeat (first | with_reducible exact Keeps.refl _ _ | with_reducible refine Keeps.set2 ?_ (by first | omega | (simp; omega) | simp) | with_reducible refine Keeps.drew ?_ | with_reducible refine Keeps.alloc ?_ _)
      case rest =>
        obtain ⟨pb, rfl, hpb, hkc⟩ := hcut.out
        have HPB := Lib.hid hpb
        have HKC := Lib.hid hkc
        obtain ⟨c0, c1, _, _, _⟩ := hpb.cells
        clear hcut hpb hkc hx hx2 hx3
        go_wp2_with fail
        with_reducible refine (HLG.out _ HKC.out).mono ?_
        rintro e w5 ⟨rfl, hk⟩
        have HK5 := Lib.hid (HKC.out.trans' hk)
        obtain ⟨c0, c1, _, _, _⟩ := (HPB.out.kept hk id).cells
        clear hk HKC HPB HLG
        go_wp2_with fail
        with_reducible refine (HLY.out _ HK5.out).mono ?_
        rintro e w6 ⟨rfl, ht6, hk⟩
        have HS6 : Hid (n + 1 = k + 1 + 1 ∧ ∃ L, LoopAt 12 (n + 1) L ∧ Tu w6 own p 12 L ∧ Keeps (fun _ => False) w w6) := Lib.hid ⟨by rw [HNK.out], _, HLA.out, ht6, (HKW.out.trans' HK5.out).thin hk HOW.out⟩
        clear ht6 hk HK5 HLY HKW HLA c0 c1
        go_wp2_with fail
        exact ⟨⟨n + 1, k + 1, by omega, by omega, by first | rfl | trivial, by first | rfl | trivial, HS6⟩, by simp [intOf]; omega⟩
    · rcases (show k < zs.length ∧ ¬ k < 10 ∨ ¬ k < zs.length by omega) with ⟨hja, hjb⟩ | hja
      all_goals
        obtain ⟨hnk, L, hla, htu, hkw⟩ := HS.out
        have he := hla.each
        have hone := hla.one
        have HFL := Lib.hid (fun W (hk : Keeps (fun _ => False) wr W) b (hb : Blk W b #[.int .i64 0] 3) => (by
          have hrd : Rd W (some ⟨b, 0, none⟩) (i64s (intsN [0])) := by
            have := nats_cells (l := [0]) (t := 3) hb
            rwa [nats_i64s] at this
          have hm : ∀ v ∈ [0], v < L.length := by intro v hv; rw [List.mem_singleton.1 hv, hone]; decide
          have hv : VOk L [0] := ⟨hm, by simp, fun v hv _ => List.mem_singleton.2 (by omega)⟩
          refine ⟨?_, ?_⟩
          · refine (sflat (htu.keep hk) hla.good (some ⟨b, 0, none⟩) 1 [0] hrd (by decide) hv.chk hm).mono ?_
            rintro e w' ⟨t, rfl, q1, q2⟩
            rw [q1.2 (fun j y hj hy => by
              have : j = 0 := by omega
              rw [this, he.1] at hy
              cases hy
              simp only
              omega)]
            exact ⟨rfl, q2⟩
          · have := scount (htu.keep hk) hla.good (some ⟨b, 0, none⟩) 1 [0] hrd (by decide) hv.chk hm
            have e1 : cntM (eachM L (grp L 12) [0] (faces L 12)) L.length = (1, (n : Int), (n : Int) + 1, 1) := by
              rw [hone]
              unfold cntM sumM sumM
              rw [if_pos rfl, he.1]
              simp only [Prod.mk.injEq]
              refine ⟨by omega, by omega, by omega, by omega⟩
            rw [e1] at this
            exact this : Calls Try.prog 8 #[tptr p, .slice (some ⟨b, 0, none⟩) 1 1] W (RetPost (.tuple #[.bool true, .nilIface]) W) ∧ Calls Try.prog 9 #[tptr p, .slice (some ⟨b, 0, none⟩) 1 1] W (RetPost (.tuple #[.agg #[.int .i64 1, .int .i64 (n : Int), .int .i64 ((n : Int) + 1), .int .i64 1], .nilIface]) W)))
        have HKW := Lib.hid hkw
        have hwn : IntKind.i64.wrap ((n : Int) + 1) = (n : Int) + 1 := by rw [IntKind.wrap_i64]; omega
        clear hla htu hkw he hone HS HV hnk
        unfold tptr RetPost at HFL
        go_upto_region 13 with fail
        have hb4 := Blk.new wr #[.int .i64 0] 3
        have HK4 : Hid (Keeps (fun _ => False) wr (wr.alloc (.cells #[.int .i64 0] 3))) := Lib.hid ((Keeps.refl _ _).alloc _)
        have HC4 := Lib.hid (HFL.out _ HK4.out _ hb4).1
        clear hb4
        go_wp2_with fail
        with_reducible refine HC4.out.mono ?_
        rintro e w3 ⟨rfl, hk⟩
        have HK3 := Lib.hid (HK4.out.trans' hk)
        clear hk HC4 HK4
        go_upto_region 14 with fail
        have hb6 := Blk.new w3 #[.int .i64 0] 3
        have HK6 : Hid (Keeps (fun _ => False) wr (w3.alloc (.cells #[.int .i64 0] 3))) := Lib.hid (HK3.out.alloc _)
        have HC6 := Lib.hid (HFL.out _ HK6.out _ hb6).2
        clear hb6 HK3
        go_wp2_with fail
        with_reducible refine HC6.out.mono ?_
        rintro e w7 ⟨rfl, hk⟩
        have HCB := Lib.hid (Blk.new w7 #[.int .i64 1, .int .i64 (n : Int), .int .i64 ((n : Int) + 1), .int .i64 1] 36)
        have HK7 := Lib.hid (HKW.out.trans' ((HK6.out.trans' hk).alloc (.cells #[.int .i64 1, .int .i64 (n : Int), .int .i64 ((n : Int) + 1), .int .i64 1] 36)))
        clear hk HC6 HK6 HFL
        go_upto_region 15 with fail
        generalize World.alloc w7 _ = w8 at *
        generalize w7.heap.size = cb at *
        obtain ⟨d0, d1, d2, d3⟩ := HCB.out.cells4
        go_wp2_with fail
        with_reducible refine (HSU.out _).mono ?_
        rintro e w9 ⟨rfl, hk⟩
        have HF := Lib.hid (HK7.out.trans' hk)
        clear hk
        go_wp2_with fail
        go_ret
        exact ⟨rfl, HF.out⟩
theorem sphereLoops_enter (W : World) (za : Option Addr) (zc : Nat) (zs : List Int) (hz : Rd W za (zs.map fun z => Value.int .i64 z)) (hzl : zs.length ≤ 9223372036854775807) (_ : ∀ z ∈ zs, (Lit.int .i64 z).wf = true) :
    Calls Try.prog 3 #[.slice za zs.length zc] W (TruePost W) := sphereLoops_walk za zc zs W hz hzl
end Go.Proofs.Ytdplphhlclhmfaa
