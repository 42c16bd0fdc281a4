/- Chapter 3's laws: ArenaLoads. -/
import Derived.Test.YtiphdlhnoceeiaaDoorL3j
namespace Go.Proofs.YtiphdlhnoceeiaaDoor
open Go Go.RowKit
set_option linter.unusedVariables false
set_option linter.unusedSimpArgs false
set_option maxRecDepth 100000

set_option maxHeartbeats 8000000 in
theorem arenaLoads_walk (x : Int) (a : Option Addr) (c : Nat) (L : List (Int × Int)) (w : World) (hT : Tab w) (hE : ErrT w) (hr : Rd w a (plVals L)) (hl : L.length * 16 ≤ 140737488351232) (hb : ∀ q ∈ L, 0 ≤ q.1 ∧ q.1 ≤ 4294967295) :
    Calls Tryd.prog 15 #[.int .i64 x, .slice a L.length c] w (TruePost w) := by
  have HT := Lib.hid hT
  have HE := Lib.hid hE
  have HR := Lib.hid hr
  have HB := Lib.hid hb
  clear hT hE hr hb
  have hcs : (500 < L.length ∧ (L.length : Int) ≤ x) ∨ (500 < L.length ∧ x < (L.length : Int)) ∨ L.length ≤ 500 := by omega
  have hdec := Classical.em (LoadOk x L)
  rcases hcs with ⟨h5, hx⟩ | hcs
  · have hsu := Lib.hid (sure03 w HT.out)
    clear hdec
    go_enter Tryd.func15, Tryd.ntmps15
    go_wp2_with fail
    refine hsu.out.mono ?_
    rintro e w5 ⟨rfl, hk⟩
    have HKE := Lib.hid hk
    clear hk
    go_wp2_with fail
    go_ret
    exact ⟨rfl, HKE.out⟩
  · rcases hdec with hok | hok
    · have hlen : L.length ≤ 500 := by
        have := hok.le
        omega
      clear hcs
      obtain ⟨n, rfl⟩ := Int.eq_ofNat_of_zero_le (show 0 ≤ x by have := hok.lo; omega)
      have hLn : L.length ≤ n := by have := hok.le; omega
      have hn2 : n ≤ 1048576 := by have := hok.hi; omega
      have HOK := Lib.hid hok
      clear hok
      go_enter Tryd.func15, Tryd.ntmps15
      go_wp2_with fail
      refine (givePl a c w HR.out hl).mono ?_
      rintro e w1 ⟨v, rfl, ho, hk1⟩
      obtain ⟨va, vc, rfl, hr1, hva⟩ := PlRow.rd ho
      have hld := Lib.hid (lload (n : Int) n rfl va vc w w1 hk1 hr1 hva HB.out HOK.out)
      clear ho hk1 hr1 hva
      go_wp2_with fail
      refine hld.out.mono ?_
      rintro e w2 ⟨p, own, rfl, hal⟩
      have H2 := Lib.hid hal
      have hrl := Lib.hid (refLoad3 (n : Int) a c w2 (HR.out.keep hal.keep) (by omega))
      clear hal hld
      go_wp2_with fail
      refine hrl.out.mono ?_
      rintro e w3 ⟨v, k, rfl, hres, hk⟩
      have H3 := Lib.hid (H2.out.quiet hk)
      obtain ⟨rfl, rfl⟩ : v = RV n a L.length c ∧ k = 0 := by
        rcases hres with ⟨_, h1, h2⟩ | ⟨h, _⟩
        · exact ⟨h1, h2⟩
        · exact absurd HOK.out h
      have hB : Blk (w3.alloc (.cells #[.int .i64 n, .slice a L.length c] 75)) w3.heap.size #[.int .i64 n, .slice a L.length c] 75 := Blk.new w3 _ _
      have H4 := Lib.hid (And.intro (H3.out.quiet ((Keeps.refl _ _).alloc (.cells #[.int .i64 n, .slice a L.length c] 75))) hB)
      unfold RV
      clear hres hk H2 hB hrl
      go_wp2_with fail
      refine (num03_nil _).mono ?_
      rintro e w5 ⟨rfl, hk⟩
      have H5 := Lib.hid (And.intro (H4.out.1.quiet hk) (H4.out.2.quiet hk))
      have c0 := H5.out.2.cell (i := 0)
      have c1 := H5.out.2.cell (i := 1)
      simp only [List.getElem?_toArray, List.getElem?_cons_zero, List.getElem?_cons_succ] at c0 c1
      clear hk H3 H4
      obtain ⟨fb, hfb⟩ : ∃ fb, decide (cnt (tak L) n = n) = fb := ⟨_, rfl⟩
      have hll := liv_le L
      have hpl := Lib.hid (fun (W : World) (hk : Keeps (fun _ => False) w5 W) => aplaces (H5.out.1.quiet hk).ar)
      have hsm := Lib.hid (fun (W : World) (hk : Keeps (fun _ => False) w5 W) (a1 : Option Addr) (c1 : Nat) (h1 : Rd W a1 (plVals L)) => samePl a1 a c1 c W h1 (HR.out.keep (H5.out.1.keep.trans' hk)) (by omega))
      have hal := Lib.hid (fun (W : World) (hk : Keeps (fun _ => False) w5 W) => lall (H5.out.1.quiet hk))
      have hra := Lib.hid (fun (W : World) (hk : Keeps (fun _ => False) w5 W) => refAll3 n a c W (HR.out.keep (H5.out.1.keep.trans' hk)) (by omega))
      have hin := Lib.hid (fun (W : World) (a1 a2 : Option Addr) (c1 c2 : Nat) (h1 : Rd W a1 (ints (allOf (lvs L) L.length))) (h2 : Rd W a2 (ints (allOf (lvs L) L.length))) => ints03 a1 a2 c1 c2 (liv L) _ (by rw [allOf_len, cnt_lvs]) (by omega) W h1 h2)
      have hfu := Lib.hid (fun (W : World) (hk : Keeps (fun _ => False) w5 W) => (afull (H5.out.1.quiet hk).ar).mono (fun e w' h => (⟨h.1.trans (by rw [hfb]), by obtain ⟨_, q, rfl⟩ := h; exact (Keeps.refl _ _).drewN q⟩ : BoolPost fb W e w')))
      have hrf := Lib.hid (fun (W : World) (hk : Keeps (fun _ => False) w5 W) => hfb ▸ refFull3 n a c W (HR.out.keep (H5.out.1.keep.trans' hk)) hLn (by omega))
      have hle := Lib.hid (fun (W : World) (hk : Keeps (fun _ => False) w5 W) => llen (H5.out.1.quiet hk) (liv L) rfl)
      have hsu := Lib.hid (fun (W : World) (hk : Keeps (fun _ => False) w5 W) => sure03 W (HT.out.keep (H5.out.1.keep.trans' hk)))
      have hK : Keeps (fun _ => False) w5 w5.drew := (Keeps.refl _ _).drew
      unfold RV at hra hrf
      clear hfb
      go_wp2_with fail
      go_region_held3 (fun w' => w'.cell? ⟨w3.heap.size, 0, none⟩ = some (.int .i64 (n : Int)) ∧ w'.cell? ⟨w3.heap.size, 1, none⟩ = some (.slice a L.length c))
        (first | exact ⟨hK.cellF c0, hK.cellF c1⟩ | assumption)
        (first
          | (go_at_call 45; refine (hpl.out _ hK).mono ?_; rintro e wP ⟨vP, rfl, hoP, hkP⟩; obtain ⟨aP, cP, rfl, hrP, _⟩ := PlRow.rd hoP; have hK := hK.trans' hkP)
          | (go_at_call 52; refine (hsm.out _ hK _ _ (by assumption)).mono ?_; rintro e wS ⟨rfl, hkS⟩; have hK := hK.trans' hkS)
          | (go_at_call 44; refine (hal.out _ hK).mono ?_; rintro e wA ⟨aA, cA, rfl, hrA, hkA⟩; have hK := hK.trans' hkA)
          | (go_at_call 53; refine (hra.out _ hK).mono ?_; rintro e wB ⟨aB, cB, rfl, hrB, hkB⟩; have hK := hK.trans' hkB)
          | (go_at_call 55; refine (hin.out _ _ _ _ _ (by first | assumption | exact Rd.keep (by assumption) hkB) (by first | assumption | exact Rd.keep (by assumption) hkA)).mono ?_; rintro e wI ⟨rfl, hkI⟩; have hK := hK.trans' hkI)
          | (go_at_call 29; refine (hfu.out _ hK).mono ?_; rintro e wF ⟨rfl, hkF⟩; have hK := hK.trans' hkF)
          | (go_at_call 54; refine (hrf.out _ hK).mono ?_; rintro e wG ⟨rfl, hkG⟩; have hK := hK.trans' hkG)
          | (go_at_call 31; refine (hle.out _ hK).mono ?_; rintro e w' ⟨rfl, rfl⟩)
          | (go_at_call 32; refine (hsu.out _ hK).mono ?_; rintro e wT ⟨rfl, hkT⟩; have hK := hK.trans' hkT))
      all_goals
        have HKE := Lib.hid (H5.out.1.keep.trans' hK)
        go_wp2_with fail
        go_ret
        exact ⟨by first | rfl | simp, HKE.out⟩
    · have hcs2 : ((500 : Int) < (L.length : Int) ∧ x < (L.length : Int)) ∨ ((L.length : Int) ≤ 500 ∧ True) := by
        rcases hcs with ⟨h1, h2⟩ | h
        · exact .inl ⟨by omega, h2⟩
        · exact .inr ⟨by omega, trivial⟩
      clear hcs
      have HNK := Lib.hid hok
      clear hok
      rcases hcs2 with ⟨h5, h6⟩ | ⟨h5, h6⟩
      all_goals
        go_enter Tryd.func15, Tryd.ntmps15
        go_wp2_with fail
        refine (givePl a c w HR.out hl).mono ?_
        rintro e w1 ⟨v, rfl, ho, hk1⟩
        obtain ⟨va, vc, rfl, hr1, hva⟩ := PlRow.rd ho
        have hld := Lib.hid (aload_bad x va vc w1 hr1 HNK.out)
        have HK1 := Lib.hid hk1
        clear ho hk1 hr1 hva
        go_wp2_with fail
        refine hld.out.mono ?_
        rintro e w2 ⟨rfl, hk⟩
        have HK2 := Lib.hid (HK1.out.trans' hk)
        have hrl := Lib.hid (refLoad3 x a c w2 (HR.out.keep HK2.out) (by omega))
        clear hk hld
        go_wp2_with fail
        refine hrl.out.mono ?_
        rintro e w3 ⟨v, k, rfl, hres, hk⟩
        have HK3 := Lib.hid (HK2.out.trans' hk)
        obtain ⟨rfl, rfl⟩ : v = .agg #[.int .i64 0, .slice none 0 0] ∧ k = 1 := by
          rcases hres with ⟨h, _⟩ | ⟨_, h1, h2⟩
          · exact absurd h HNK.out
          · exact ⟨h1, h2⟩
        have HK4 := Lib.hid (HK3.out.alloc (.cells #[.int .i64 0, .slice none 0 0] 75))
        clear hres hk hrl
        go_wp2_with fail
        refine (num03_err 1 _ (HE.out.keep HK4.out)).mono ?_
        rintro e w5 ⟨rfl, hk⟩
        have HK5 := Lib.hid (HK4.out.trans' hk)
        have hsu := Lib.hid (sure03 w5 (HT.out.keep HK5.out))
        clear hk
        go_wp2_with fail
        refine hsu.out.mono ?_
        rintro e w6 ⟨rfl, hk⟩
        have HKE := Lib.hid (HK5.out.trans' hk)
        clear hk
        go_wp2_with fail
        go_ret
        exact ⟨rfl, HKE.out⟩
theorem arenaLoads_enter (W : World) (hT : Tab W) (hE : ErrT W) (n : Int) (_ : (Lit.int .i64 n).wf = true) (a : Option Addr) (c : Nat) (ls : List (Int × Int)) (hr : Rd W a (ls.flatMap fun p => [Value.int .u32 p.1, .int .i64 p.2])) (_ : ls.length ≤ 9223372036854775807)
    (hw : ∀ p ∈ ls, (Lit.int .u32 p.1).wf = true ∧ (Lit.int .i64 p.2).wf = true) (hs : ls.length * 16 ≤ 140737488351232) :
    Calls Tryd.prog 15 #[.int .i64 n, .slice a ls.length c] W (TruePost W) := arenaLoads_walk n a c ls W hT hE hr hs (wf32 hw)
end Go.Proofs.YtiphdlhnoceeiaaDoor
