/- kin: Bridges. -/
import Derived.Test.YtdplphhlclhmfaaDoorKiJ
namespace Go.Proofs.YtdplphhlclhmfaaDoor
open Go Go.RowKit
set_option linter.unusedVariables false
set_option linter.unusedSimpArgs false
set_option maxRecDepth 100000

section
variable {w : World} {own : Nat → Prop} {p E : Nat} {L : List (List Nat)}
theorem keqz (n : Nat) : ((n : Int) == 0) = decide (n = 0) := kbeq n 0
theorem nats_zeros (n : Nat) : nats (List.replicate n 0) = List.replicate n (.int .i64 0) := by unfold nats; rw [List.map_replicate]; rfl
/-- The walker, fresh: whichever of its lists was made first. -/
theorem walker_new {w : World} (h : Tu w own p E L) {nb bb wb : Nat} {W : World} (hk : Keeps (fun _ => False) w W) (hn : Blk W nb (nats (List.replicate L.length 0)).toArray 3) (hb : Blk W bb (nats (List.replicate L.length 0)).toArray 3) (hw : Blk W wb #[.pointer (some ⟨p, 0, none⟩), .slice (some ⟨nb, 0, none⟩) L.length L.length, .slice (some ⟨bb, 0, none⟩) L.length L.length, .int .i64 0, .slice none 0 0] 111)
    (h1 : w.heap.size ≤ nb) (h2 : w.heap.size ≤ bb) (h3 : w.heap.size ≤ wb) (h4 : wb ≠ nb ∧ wb ≠ bb ∧ nb ≠ bb) : WkAt own p E W.heap.size wb nb bb L (List.replicate L.length 0) (List.replicate L.length 0) 0 (.slice none 0 0) [] W :=
  ⟨h.keep hk, hw, hn, hb, World.ownsRow_nil _ _ _ _, by simp, by simp, ⟨h4.1, h4.2.1, h4.2.2, hw.lt, hn.lt, hb.lt⟩, fun k o => by
    have := h.lt k o
    have := hw.lt
    omega⟩
theorem walker_both {w w1 : World} (h : Tu w own p E L) (hk : Keeps (fun _ => False) w w1) {cs : Array Value} (hcs : (nats (List.replicate L.length 0)).toArray = cs) {nb bb : Nat} (hb : nb = w1.heap.size ∧ bb = w1.heap.size + 1 ∨ nb = w1.heap.size + 1 ∧ bb = w1.heap.size) {W : World} (hW : W = (((w1.alloc (.cells cs 3)).alloc (.cells cs 3)).alloc (.cells #[.pointer (some ⟨p, 0, none⟩), .slice (some ⟨nb, 0, none⟩) L.length L.length, .slice (some ⟨bb, 0, none⟩) L.length L.length, .int .i64 0, .slice none 0 0] 111)).drew) :
    ∃ nb bb, w.heap.size ≤ nb ∧ w.heap.size ≤ bb ∧ w.heap.size ≤ w1.heap.size + 1 + 1 ∧ WkAt own p E W.heap.size (w1.heap.size + 1 + 1) nb bb L (List.replicate L.length 0) (List.replicate L.length 0) 0 (.slice none 0 0) [] W ∧ Keeps (fun _ => False) w W := by
  subst hcs
  have hs := hk.size
  have hkW : Keeps (fun _ => False) w W := by rw [hW]; exact (((hk.alloc _).alloc _).alloc _).drew
  have b1 : Blk W w1.heap.size (nats (List.replicate L.length 0)).toArray 3 := by rw [hW]; exact (((Blk.new w1 _ _).alloc _).alloc _).drew
  have b2 : Blk W (w1.heap.size + 1) (nats (List.replicate L.length 0)).toArray 3 := by
    rw [hW]
    have := ((Blk.new (w1.alloc (.cells (nats (List.replicate L.length 0)).toArray 3)) (nats (List.replicate L.length 0)).toArray 3).alloc (.cells #[.pointer (some ⟨p, 0, none⟩), .slice (some ⟨nb, 0, none⟩) L.length L.length, .slice (some ⟨bb, 0, none⟩) L.length L.length, .int .i64 0, .slice none 0 0] 111)).drew
    rwa [size_alloc] at this
  have b3 : Blk W (w1.heap.size + 1 + 1) #[.pointer (some ⟨p, 0, none⟩), .slice (some ⟨nb, 0, none⟩) L.length L.length, .slice (some ⟨bb, 0, none⟩) L.length L.length, .int .i64 0, .slice none 0 0] 111 := by
    rw [hW]
    have := (Blk.new ((w1.alloc (.cells (nats (List.replicate L.length 0)).toArray 3)).alloc (.cells (nats (List.replicate L.length 0)).toArray 3)) #[.pointer (some ⟨p, 0, none⟩), .slice (some ⟨nb, 0, none⟩) L.length L.length, .slice (some ⟨bb, 0, none⟩) L.length L.length, .int .i64 0, .slice none 0 0] 111).drew
    rwa [size_alloc, size_alloc] at this
  clear hW
  rcases hb with ⟨rfl, rfl⟩ | ⟨rfl, rfl⟩
  · exact ⟨_, _, by omega, by omega, by omega, walker_new h hkW b1 b2 b3 (by omega) (by omega) (by omega) (by omega), hkW⟩
  · exact ⟨_, _, by omega, by omega, by omega, walker_new h hkW b2 b1 b3 (by omega) (by omega) (by omega) (by omega), hkW⟩
set_option maxHeartbeats 4000000 in
theorem kbridges (h : Tu w own p E L) (hg : Good E L) : Calls Tryd.prog 29 #[tptr p] w (OwnPost (brl L E) w) := by
  have hV := h.v2
  have HT := Lib.hid h
  have HG := Lib.hid hg
  have HS := Lib.hid (tsizes h)
  obtain ⟨ib, hib, hb0, hb1, hb2⟩ := info_parts infoI
  have hmkI : ∀ W, (Instr.makeSlice 23 (.int .i64 (L.length : Int)) (.int .i64 (L.length : Int))).run Tryd.prog W = .ok (.slice (some ⟨W.heap.size, 0, none⟩) L.length L.length) (W.alloc (.cells (nats (List.replicate L.length 0)).toArray 3)) := fun W => by
    have := run_make (P := Tryd.prog) W 23 3 ib _ Tryd.underlying23 hib hb0 .i64 .i64 (L.length : Int) (L.length : Int) (by omega) (Int.le_refl _) (by rw [hb2]; omega) (by omega)
    rw [this, hb1, show (Value.int .i64 0).cells = #[.int .i64 0] from rfl, Int.toNat_natCast, Nat.mul_one, madeCells_one, nats_zeros]
  clear hib hb0 hb1 hb2 h hg
  unfold RetPost tptr at HS
  unfold OwnPost tptr
  go_enter Tryd.func29, Tryd.ntmps29
  go_wp2_with fail
  with_reducible refine HS.out.mono ?_
  rintro e w1 ⟨rfl, hk⟩
  have HK1 := Lib.hid hk
  clear hk HS
  generalize hcs : (nats (List.replicate L.length 0)).toArray = cs at *
  have HCS := Lib.hid hcs
  clear hcs
  go_upto_region 2 with fail
  go_cut [5] (fun x wd => ∃ wb, x = .pointer (some ⟨wb, 0, none⟩) ∧ Hid (∃ nb bb, w.heap.size ≤ nb ∧ w.heap.size ≤ bb ∧ w.heap.size ≤ wb ∧ WkAt own p E wd.heap.size wb nb bb L (List.replicate L.length 0) (List.replicate L.length 0) 0 (.slice none 0 0) [] wd ∧ Keeps (fun _ => False) w wd))
  case first =>
    go_region
    all_goals
      go_wp2_with fail
      go_meet
      first
        | exact ⟨_, rfl, Lib.hid (walker_both HT.out HK1.out HCS.out (Or.inl ⟨rfl, rfl⟩) rfl)⟩
        | exact ⟨_, rfl, Lib.hid (walker_both HT.out HK1.out HCS.out (Or.inr ⟨rfl, rfl⟩) rfl)⟩
  case rest =>
    obtain ⟨wb, rfl, HX⟩ := hcut
    clear hmkI HK1 HCS HT
    obtain ⟨B, HB⟩ : ∃ B, Hid (∃ nb bb, w.heap.size ≤ nb ∧ w.heap.size ≤ bb ∧ w.heap.size ≤ wb ∧ WkAt own p E B wb nb bb L (List.replicate L.length 0) (List.replicate L.length 0) 0 (.slice none 0 0) [] wc ∧ Keeps (fun _ => False) w wc ∧ w.heap.size ≤ B ∧ B ≤ wc.heap.size) := ⟨_, Lib.hid (by
      obtain ⟨nb, bb, h1, h2, h3, h4, h5⟩ := HX.out
      exact ⟨nb, bb, h1, h2, h3, h4, h5, h5.size, Nat.le_refl _⟩)⟩
    clear HX
    obtain ⟨nb, bb, h1, h2, h3, h4, h5, h6, h7⟩ := HB.out
    clear HB
    have HLO : Hid (w.heap.size ≤ nb ∧ w.heap.size ≤ bb ∧ w.heap.size ≤ wb ∧ w.heap.size ≤ B) := Lib.hid ⟨h1, h2, h3, h6⟩
    have H0 : Hid (∃ num low met bv br, WkAt own p E B wb nb bb L num low met bv br wc ∧ Gst L num low met br [] ∧ (∀ v, v < 0 → num.getD v 0 ≠ 0) ∧ Keeps (fun _ => False) w wc ∧ B ≤ wc.heap.size) := Lib.hid ⟨_, _, _, _, _, h4, Gst.start L, fun v hv => absurd hv (Nat.not_lt_zero _), h5, h7⟩
    clear h1 h2 h3 h4 h5 h6 h7
    go_upto_region 4 with fail
    go_loopw [20] (fun i wr => ∃ (k : Nat), k ≤ L.length ∧ i = .int .i64 (k : Int) ∧ Hid (∃ num low met bv br, WkAt own p E B wb nb bb L num low met bv br wr ∧ Gst L num low met br [] ∧ (∀ v, v < k → num.getD v 0 ≠ 0) ∧ Keeps (fun _ => False) w wr ∧ B ≤ wr.heap.size)) (fun i _ => L.length - (intOf i).toNat)
    case atStart => exact ⟨0, Nat.zero_le _, rfl, H0⟩
    case round =>
      obtain ⟨k, hk, rfl, HR⟩ := hrel
      clear H0
      obtain ⟨num, low, met, bv, br, hw, hgs, hm, hkp, hB⟩ := HR.out
      obtain ⟨c0, c1, c2, c3, c4⟩ := hw.blk.cells5
      by_cases hkV : k < L.length
      · have hkI : (k : Int) < (L.length : Int) := Int.ofNat_lt.2 hkV
        have qn := hw.nm.cell k
        rw [List.getElem?_toArray, nats_get (by rw [hw.nl]; exact hkV)] at qn
        have HST : Hid (∀ num' : List Nat, Met num num' → num'.getD k 0 ≠ 0 → ∀ v, v < k + 1 → num'.getD v 0 ≠ 0) := Lib.hid fun num' hmt h0 v hv => by
          by_cases e : v = k
          · rw [e]; exact h0
          · exact hmt v (hm v (by omega))
        by_cases h0 : num.getD k 0 = 0
        · have HWK := Lib.hid ((kwalk hw hgs HG.out hkV h0 hB hV).mono (R' := fun e w' => e = .returned (.tuple #[]) ∧ Hid (∃ num low met bv br, WkAt own p E B wb nb bb L num low met bv br w' ∧ Gst L num low met br [] ∧ (∀ v, v < k + 1 → num.getD v 0 ≠ 0) ∧ Keeps (fun _ => False) w w' ∧ B ≤ w'.heap.size)) (by
            rintro e w' ⟨num', low', met', bv', br', rfl, g1, g2, g3, g4, g5, g6⟩
            refine ⟨rfl, Lib.hid ⟨num', low', met', bv', br', g1, g2, HST.out _ g3 g4, hkp.thin g5 fun i e => ?_, Nat.le_trans hB g5.size⟩⟩
            rcases e with e | e
            · have := HLO.out
              unfold wkF at e
              omega
            · have := (hw.br.lt i e).1
              have := HLO.out
              omega))
          rw [h0] at qn
          clear HR hw hgs hm hkp hB HST h0 hkV
          go_wp2_with (go_at_call 58; with_reducible refine HWK.out.mono ?_; rintro e w5 ⟨rfl, HN⟩)
          exact ⟨⟨k + 1, by omega, by simp, HN⟩, by simp [intOf]; omega⟩
        · have HN : Hid (∃ num low met bv br, WkAt own p E B wb nb bb L num low met bv br wr ∧ Gst L num low met br [] ∧ (∀ v, v < k + 1 → num.getD v 0 ≠ 0) ∧ Keeps (fun _ => False) w wr ∧ B ≤ wr.heap.size) := Lib.hid ⟨num, low, met, bv, br, hw, hgs, HST.out _ (fun _ q => q) h0, hkp, hB⟩
          clear HR hw hgs hm hkp hB HST
          generalize num.getD k 0 = nk at *
          have hne := keqz nk
          rw [decide_eq_false h0] at hne
          go_wp2_with fail
          exact ⟨⟨k + 1, by omega, by simp, HN⟩, by simp [intOf]; omega⟩
      · obtain rfl : k = L.length := by omega
        have hfew := hgs.few HG.out.toWF
        have hE2 := hw.tu.e2
        have HSO := Lib.hid (ssort hw.br (by omega))
        have HAL := Lib.hid (hgs.all HG.out hm)
        have HBV : Hid (∀ q, bv.ownBlock = some q → B ≤ q ∧ q ≠ wb) := Lib.hid fun q e => by have := hw.brB e; have := hw.ne; omega
        have HBL := Lib.hid hw.blk
        have HKP := Lib.hid hkp
        have HLE : Hid ((brl L E).length = br.length) := Lib.hid (by rw [← HAL.out, srt_length])
        clear HR hw hgs hm hkp hB hfew hE2
        unfold SrtPost at HSO
        go_wp2_with fail
        with_reducible refine HSO.out.mono ?_
        rintro e w5 ⟨rfl, ho5, hk5⟩
        have d4 := hk5.cellO c4 (fun e => (HBV.out wb e).2 rfl)
        have HFI : Hid (w5.ownsRow w.heap.size 3 1 bv (brl L E).length (nats (brl L E)) ∧ Keeps (fun _ => False) w w5) := Lib.hid ⟨by
          have := owns_low ho5 HLO.out.2.2.2
          rwa [HAL.out, ← HLE.out] at this, HKP.out.thin hk5 fun q e => Nat.le_trans HLO.out.2.2.2 (HBV.out q e).1⟩
        clear ho5 hk5 HSO c0 c1 c2 c3 c4
        go_wp2_with fail
        go_ret
        exact ⟨bv, rfl, HFI.out⟩
end
end Go.Proofs.YtdplphhlclhmfaaDoor
