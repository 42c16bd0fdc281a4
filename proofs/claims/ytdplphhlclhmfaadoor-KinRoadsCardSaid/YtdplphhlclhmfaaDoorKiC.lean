/- kin: around, end. -/
import Derived.Test.YtdplphhlclhmfaaDoorKiS
import Derived.Test.YtdplphhlclhmfaaDoorKiA
namespace Go.Proofs.YtdplphhlclhmfaaDoor
open Go Go.RowKit
set_option linter.unusedVariables false
set_option linter.unusedSimpArgs false
set_option maxRecDepth 100000

/-- The darts round a vertex, ascending. -/
def arL (L : List (List Nat)) (v : Nat) : List Nat := srt (rnd (L.getD v []))
theorem arL_mem {L : List (List Nat)} {v d : Nat} : d ∈ arL L v ↔ d ∈ L.getD v [] := by
  unfold arL
  rw [srt_mem, rnd_mem]
theorem arL_iff {L : List (List Nat)} {E : Nat} (h : WF E L) {v : Nat} (hv : v < L.length) {d : Nat} : d ∈ arL L v ↔ Stands L d ∧ vtx L d = v := by
  rw [arL_mem]
  constructor
  · intro q
    exact ⟨stands_iff.2 ⟨v, _, some_getD hv, q⟩, vtx_in h hv q⟩
  · rintro ⟨q1, q2⟩
    obtain ⟨u, l, hu, hl, e⟩ := vtx_S h q1
    rw [q2] at e
    rw [e, getD_some hu]
    exact hl
theorem arL_length (L : List (List Nat)) (v : Nat) : (arL L v).length = (L.getD v []).length := by
  unfold arL
  rw [srt_length, rnd_length]
/-- A list of the call's own. -/
def OwnPost (l : List Nat) (w : World) (e : Ending) (w' : World) : Prop := ∃ v, e = .returned v ∧ w'.ownsRow w.heap.size 3 1 v l.length (nats l) ∧ Keeps (fun _ => False) w w'
section
variable {w : World} {own : Nat → Prop} {p E : Nat} {L : List (List Nat)}
theorem karound (h : Tu w own p E L) {n : Nat} (hn : n < L.length) : Calls Tryd.prog 61 #[tptr p, .int .i64 (n : Int)] w (OwnPost (arL L n) w) := by
  have HR := Lib.hid (tround h hn)
  have hlen : (rnd (L.getD n [])).length = (arL L n).length := by rw [arL_length, rnd_length]
  have hl : (rnd (L.getD n [])).length ≤ 4194304 := by
    rw [rnd_length]
    have := h.len (some_getD hn)
    have := h.e2
    omega
  have hE : srt (rnd (L.getD n [])) = arL L n := rfl
  clear h hn
  rw [← hE] at hlen ⊢
  generalize rnd (L.getD n []) = l at *
  unfold LPost tptr at HR
  unfold OwnPost tptr
  rw [errVal_zero] at HR
  go_enter Tryd.func61, Tryd.ntmps61
  go_wp2_with fail
  with_reducible refine HR.out.mono ?_
  rintro e w1 ⟨v, rfl, ho, hk⟩
  have HS := Lib.hid (ssort ho (by omega))
  have HK := Lib.hid hk
  have HV : Hid (∀ q, v.ownBlock = some q → w.heap.size ≤ q) := Lib.hid fun q e => (ho.lt q e).1
  clear HR ho hk
  unfold SrtPost at HS
  go_wp2_with fail
  with_reducible refine HS.out.mono ?_
  rintro e w2 ⟨rfl, ho, hk⟩
  have HO : Hid (w2.ownsRow w.heap.size 3 1 v (srt l).length (nats (srt l)) ∧ Keeps (fun _ => False) w w2) := Lib.hid ⟨by rw [← hlen]; exact ho, HK.out.thin hk fun q e => HV.out q e⟩
  clear HS ho hk HK HV hlen hl hE
  go_wp2_with fail
  refine bodyPost_ret (v := v) (by simp [results, Tryd.results61, go_sem]) rfl ?_
  exact ⟨v, rfl, HO.out.1, HO.out.2⟩
theorem kend (h : Tu w own p E L) (hg : Good E L) {d : Nat} (hs : Stands L d) : Calls Tryd.prog 62 #[tptr p, .int .i64 (d : Int)] w (RetPost (.int .i64 (De L d : Nat)) w) := by
  have hb := hg.toWF.bdS hs
  have hE := h.e2
  have hst := hg.twin _ hs
  have HO := Lib.hid (torigin h ((tw d : Nat) : Int))
  rw [dErr_stands hg.toWF hst, if_pos rfl, Int.toNat_natCast, errVal_zero] at HO
  have hxo := xor_one d (by omega)
  have hD : vtx L (tw d) = De L d := rfl
  rw [hD] at HO
  clear h hg hs hst hD hb hE
  generalize De L d = y at *
  unfold RetPost tptr at *
  go_enter Tryd.func62, Tryd.ntmps62
  go_wp2_with fail
  with_reducible refine HO.out.mono ?_
  rintro e w1 ⟨rfl, hk⟩
  have HK := Lib.hid hk
  clear hk HO
  go_wp2_with fail
  go_ret
  exact ⟨rfl, HK.out⟩
end
end Go.Proofs.YtdplphhlclhmfaaDoor
