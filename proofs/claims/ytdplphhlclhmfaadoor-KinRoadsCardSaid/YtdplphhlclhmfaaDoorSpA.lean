/- sphere: ends, groups. -/
import Derived.Test.YtdplphhlclhmfaaDoorKj
import Derived.Test.YtdplphhlclhmfaaDoorUfB
import Derived.Test.YtdplphhlclhmfaaDoorUfC
namespace Go.Proofs.YtdplphhlclhmfaaDoor
open Go Go.RowKit
set_option linter.unusedVariables false
set_option linter.unusedSimpArgs false
set_option maxRecDepth 100000

theorem Uf.more {w : World} {own : Nat → Prop} {p n k k' : Nat} {g : List Nat} (h : Uf w own p n k g) (h1 : k ≤ k') (h2 : k' ≤ 2097152) : Uf w own p n k' g := by
  obtain ⟨a, s, t, Bs, k2, A, S, T, vs, rt, hgt, H, hx, hr, e, q1, q2, q3⟩ := h
  exact ⟨a, s, t, Bs, k2, A, S, T, vs, rt, hgt, H, hx, hr, e, q1, Nat.le_trans q2 h1, h2⟩
section
variable {w : World} {own : Nat → Prop} {p E : Nat} {L : List (List Nat)}
theorem sends (h : Tu w own p E L) (hg : Good E L) {e : Nat} (hs : Stands L (2 * e)) :
    Calls Tryd.prog 83 #[tptr p, .int .i64 (e : Int)] w (RetPost (.tuple #[.int .i64 (vtx L (2 * e) : Nat), .int .i64 (vtx L (2 * e + 1) : Nat), .nilIface]) w) := by
  have hE := h.e2
  have hb := h.wf.bdS hs
  have hs1 := (hg.pair e).2 hs
  have H1 : Hid (Calls Tryd.prog 38 #[tptr p, .int .i64 (2 * (e : Int))] w (RetPost (.tuple #[.int .i64 (vtx L (2 * e) : Nat), .nilIface]) w)) := by
    have := torigin h ((2 * e : Nat) : Int)
    rw [dErr_stands h.wf hs, if_pos rfl, Int.toNat_natCast, errVal_zero, show ((2 * e : Nat) : Int) = 2 * (e : Int) by omega] at this
    exact Lib.hid this
  have H2 : Hid (∀ W, Keeps (fun _ => False) w W → Calls Tryd.prog 38 #[tptr p, .int .i64 (2 * (e : Int) + 1)] W (RetPost (.tuple #[.int .i64 (vtx L (2 * e + 1) : Nat), .nilIface]) W)) := by
    refine Lib.hid fun W hk => ?_
    have := torigin (h.keep hk) ((2 * e + 1 : Nat) : Int)
    rw [dErr_stands h.wf hs1, if_pos rfl, Int.toNat_natCast, errVal_zero, show ((2 * e + 1 : Nat) : Int) = 2 * (e : Int) + 1 by omega] at this
    exact this
  clear h hg hs hs1
  generalize vtx L (2 * e) = a at *
  generalize vtx L (2 * e + 1) = b at *
  unfold RetPost tptr at *
  go_enter Tryd.func83, Tryd.ntmps83
  go_wp2_with fail
  with_reducible refine H1.out.mono ?_
  rintro r w1 ⟨rfl, hk⟩
  have HK := Lib.hid hk
  clear hk
  go_wp2_with fail
  with_reducible refine (H2.out _ HK.out).mono ?_
  rintro r w2 ⟨rfl, hk⟩
  have HK2 := Lib.hid (HK.out.trans' hk)
  clear hk
  go_wp2_with fail
  refine bodyPost_ret (v := .tuple #[.int .i64 (a : Int), .int .i64 (b : Int), .nilIface]) (by simp [results, Tryd.results83, go_sem]) rfl ?_
  exact ⟨rfl, HK2.out⟩
/-- The groups that edges make, laid anew. -/
def GrpAt (n k : Nat) (g : List Nat) (w : World) (pp : Nat) (wr : World) : Prop := ∃ ow, Uf wr ow pp n k g ∧ (∀ q, ow q → w.heap.size ≤ q) ∧ Keeps (fun _ => False) w wr
def GrpPost (n k : Nat) (g : List Nat) (w : World) (e : Ending) (w' : World) : Prop := ∃ pp, e = .returned (.tuple #[tptr pp, .nilIface]) ∧ GrpAt n k g w pp w'
theorem GrpAt.keep {n k : Nat} {g : List Nat} {pp : Nat} {wr w2 : World} (h : GrpAt n k g w pp wr) (hk : Keeps (fun _ => False) wr w2) : GrpAt n k g w pp w2 := by
  obtain ⟨ow, h1, h2, h3⟩ := h
  exact ⟨ow, h1.keep hk, h2, h3.trans' hk⟩
theorem GrpAt.joined {n k : Nat} {g g' : List Nat} {pp : Nat} {wr w2 : World} (h : GrpAt n k g w pp wr) {ow : Nat → Prop} (hu : Uf wr ow pp n k g) (hl : ∀ q, ow q → w.heap.size ≤ q) (hw : Keeps (fun _ => False) w wr) {ow' : Nat → Prop} (h1 : Uf w2 ow' pp n (k + 1) g') (h2 : ∀ q, ow' q → ow q ∨ wr.heap.size ≤ q) (h3 : Keeps ow wr w2) : GrpAt n (k + 1) g' w pp w2 := by
  refine ⟨ow', h1, fun q hq => ?_, hw.trans h3 fun i hi e => ?_⟩
  · rcases h2 q hq with e | e
    · exact hl q e
    · exact Nat.le_trans hw.size e
  · have := hl i e
    omega
theorem GrpAt.step {n k : Nat} {g : List Nat} {a b : Nat} {pp : Nat} {wr : World} (h : GrpAt n k g w pp wr) (hk : k < 2097152) (ha : a < n) (hb : b < n) :
    Calls Tryd.prog 84 #[tptr pp, .int .i64 (a : Int), .int .i64 (b : Int)] wr (fun e w2 => ∃ t, e = .returned (.tuple #[.bool t, .nilIface]) ∧ GrpAt n (k + 1) (joinG g a b) w pp w2) := by
  obtain ⟨ow, h1, h2, h3⟩ := h
  refine (ujoin h1 hk ha hb).mono ?_
  rintro e w2 ⟨ow', t, rfl, q1, q2, q3⟩
  exact ⟨t, rfl, GrpAt.joined ⟨ow, h1, h2, h3⟩ h1 h2 h3 q1 q2 q3⟩
set_option maxHeartbeats 2000000 in
theorem sgroups (h : Tu w own p E L) (hg : Good E L) :
    Calls Tryd.prog 46 #[tptr p] w (GrpPost L.length E (grp L E) w) := by
  have hE := h.e2
  have hV := h.v2
  have hV1 := h.v1
  have HS := Lib.hid (tsizes h)
  have HN := Lib.hid fun W => unew L.length W hV1 hV
  have HH := Lib.hid (fun W (hk : Keeps (fun _ => False) w W) (x : Int) => thas (h.keep hk) x)
  have HE := Lib.hid (fun W (hk : Keeps (fun _ => False) w W) (e : Nat) (hs : Stands L (2 * e)) => sends (h.keep hk) hg hs)
  have HL := Lib.hid (fun d (hs : Stands L d) => h.wf.vtx_lt hs)
  have HP := Lib.hid hg.pair
  clear h hg
  unfold UNewPost RetPost at *
  unfold GrpPost
  simp only [tptr] at *
  go_enter Tryd.func46, Tryd.ntmps46
  go_wp2_with fail
  with_reducible refine HS.out.mono ?_
  rintro r w1 ⟨rfl, hk⟩
  have HK := Lib.hid hk
  clear hk
  go_wp2_with fail
  with_reducible refine (HN.out _).mono ?_
  rintro r w2 ⟨pp, ow, rfl, hu, hl, hk⟩
  have H0 : Hid (GrpAt L.length 0 (grpN L 0) w pp w2) := Lib.hid ⟨ow, hu, fun q e => Nat.le_trans HK.out.size (hl q e), HK.out.trans' hk⟩
  clear hu hl hk HK HN HS
  go_wp2_with fail
  go_loopw [28] (fun i wr => ∃ e : Nat, e ≤ E ∧ i = .int .i64 (e : Int) ∧ Hid (GrpAt L.length e (grpN L e) w pp wr)) (fun i _ => E - (intOf i).toNat)
  case atStart => exact ⟨0, Nat.zero_le _, rfl, H0⟩
  case round =>
    obtain ⟨e, he, rfl, HR⟩ := hrel
    have HRK : Hid (Keeps (fun _ => False) w wr) := Lib.hid (by obtain ⟨_, _, _, hk⟩ := HR.out; exact hk)
    by_cases hlt : e < E
    · have hI : (e : Int) < (E : Int) := by omega
      have hh := HH.out _ HRK.out (e : Int)
      by_cases hs : Stands L (2 * e)
      · rw [decide_eq_true (show 0 ≤ (e : Int) ∧ (e : Int) < E ∧ Stands L (2 * (e : Int).toNat) from ⟨by omega, by omega, by rw [Int.toNat_natCast]; exact hs⟩)] at hh
        have H1 := Lib.hid hh
        have H2 := Lib.hid (fun W hk => HE.out W hk e hs)
        have ha := HL.out _ hs
        have hb := HL.out _ ((HP.out e).2 hs)
        have HX : Hid (grpN L (e + 1) = joinG (grpN L e) (vtx L (2 * e)) (vtx L (2 * e + 1))) := Lib.hid (by rw [grpN, if_pos hs])
        clear hh hs HH HE HL HP
        generalize vtx L (2 * e) = a at *
        generalize vtx L (2 * e + 1) = b at *
        have HJ := Lib.hid (fun W (q : GrpAt L.length e (grpN L e) w pp W) => q.step (a := a) (b := b) (by omega) ha hb)
        simp only [tptr] at HJ
        go_wp2_with fail
        with_reducible refine H1.out.mono ?_
        rintro r w3 ⟨rfl, hk⟩
        have HK3 := Lib.hid hk
        clear hk
        go_wp2_with fail
        with_reducible refine (H2.out _ (HRK.out.trans' HK3.out)).mono ?_
        rintro r w4 ⟨rfl, hk⟩
        have HK4 := Lib.hid (HK3.out.trans' hk)
        clear hk
        go_wp2_with fail
        with_reducible refine (HJ.out _ (HR.out.keep HK4.out)).mono ?_
        rintro r w5 ⟨t, rfl, hq⟩
        have HQ := Lib.hid hq
        clear hq
        go_wp2_with fail
        exact ⟨⟨e + 1, by omega, by first | rfl | trivial, by rw [HX.out]; exact HQ⟩, by simp [intOf]; omega⟩
      · rw [decide_eq_false (show ¬ (0 ≤ (e : Int) ∧ (e : Int) < E ∧ Stands L (2 * (e : Int).toNat)) from fun q => hs (by have := q.2.2; rwa [Int.toNat_natCast] at this))] at hh
        have H1 := Lib.hid hh
        have HX : Hid (grpN L (e + 1) = grpN L e) := Lib.hid (by rw [grpN, if_neg hs])
        clear hh hs HH HE HL HP
        go_wp2_with fail
        with_reducible refine H1.out.mono ?_
        rintro r w3 ⟨rfl, hk⟩
        have HK3 := Lib.hid hk
        clear hk
        go_wp2_with fail
        refine ⟨⟨e + 1, by omega, by first | rfl | trivial, Lib.hid ?_⟩, by simp [intOf]; omega⟩
        obtain ⟨ow, h1, h2, h3⟩ := HR.out.keep HK3.out
        rw [HX.out]
        exact ⟨ow, h1.more (by omega) (by omega), h2, h3⟩
    · obtain rfl : e = E := by omega
      clear HH HE HL HP
      go_wp2_with fail
      refine bodyPost_ret (v := .tuple #[tptr pp, .nilIface]) (by simp [results, Tryd.results46, go_sem, tptr]) rfl ?_
      exact ⟨pp, rfl, HR.out⟩
end
end Go.Proofs.YtdplphhlclhmfaaDoor
