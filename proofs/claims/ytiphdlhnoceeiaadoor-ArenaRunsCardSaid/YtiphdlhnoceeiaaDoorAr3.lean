/- arena: Add. -/
import Derived.Test.YtiphdlhnoceeiaaDoorAr2
import Derived.Handy
namespace Go.Proofs.YtiphdlhnoceeiaaDoor
open Go Go.RowKit
set_option linter.unusedVariables false
set_option linter.unusedSimpArgs false
set_option maxRecDepth 100000

theorem infoPl : (Tryd.prog.info? 72).map (fun i => (i.zero, i.size, i.bytes)) = some (some (.agg #[.int .u32 0, .int .i64 0]), 2, 16) := by kernel_rfl
section
variable {w : World} {own : Nat → Prop} {p n : Nat} {L : List (Int × Int)}

/-- The places behind Add, and the age that is given. -/
def nage (L : List (Int × Int)) (z : Nat) : Int := (L.getD z (0, 0)).1 + 1
def addM (L : List (Int × Int)) (z : Nat) : List (Int × Int) := if z < L.length then L else L ++ [(0, 0)]
def addL (L : List (Int × Int)) (z : Nat) : List (Int × Int) := (addM L z).set z (nage L z, 1)
def AddPost (w : World) (own : Nat → Prop) (p n : Nat) (L : List (Int × Int)) (z : Nat) (e : Ending) (w' : World) : Prop :=
  e = .returned (.tuple #[hval (nage L z) z, .nilIface]) ∧ ∃ own', Ar w' own' p n (addL L z) ∧ Step w own w' own'

theorem aadd_full (h : Ar w own p n L) (hf : cnt (tak L) n = n) : Calls Tryd.prog 28 #[.pointer (some ⟨p, 0, none⟩)] w fun e w' => e = .returned (.tuple #[hval 0 0, errno 16]) ∧ Keeps (fun _ => False) w w' := by
  obtain ⟨⟨b, ownS, v, h1, rfl⟩, _⟩ := h
  have H1 := Lib.hid (h1.keep ((Keeps.refl _ _).alloc (.cells #[.int .u32 0, .int .u32 0] 46)))
  have g2 := h1.c2
  have hpb := h1.head.lt
  have hc := Lib.hid (take_none H1.out.sl hf)
  have hr : Hid (Blk (w.alloc (.cells #[.int .u32 0, .int .u32 0] 46)) w.heap.size #[.int .u32 0, .int .u32 0] 46) := Blk.new w _ _
  clear h1 hf
  go_enter Tryd.func28, Tryd.ntmps28
  go_wp2_with fail
  refine hc.out.mono ?_
  rintro e w2 ⟨he, hk, hs⟩
  obtain rfl : e = .returned (.tuple #[.int .i64 0, .iface 92 (.int .i64 16)]) := he
  have HR := Lib.hid (hr.out.quiet hk)
  have r0 := HR.out.cell (i := 0)
  have r1 := HR.out.cell (i := 1)
  have q0 := HR.out.free 0
  have q1 := HR.out.free 1
  simp only [List.getElem?_toArray, List.getElem?_cons_zero, List.getElem?_cons_succ] at r0 r1
  have HK := Lib.hid (((Keeps.refl (fun _ => False) w).alloc (.cells #[.int .u32 0, .int .u32 0] 46)).trans' hk)
  clear hk hs
  go_wp2_with fail
  have HW := Lib.hid ((HR.out.set 0 (.int .u32 0)).set 1 (.int .u32 0))
  have HKW : Hid (Keeps (fun _ => False) w ((w2.setCell ⟨w.heap.size, 0, none⟩ (.int .u32 0)).setCell ⟨w.heap.size, 1, none⟩ (.int .u32 0))) :=
    (HK.out.setCell _ _ fun h => absurd h (Nat.lt_irrefl _)).setCell _ _ fun h => absurd h (Nat.lt_irrefl _)
  generalize (w2.setCell ⟨w.heap.size, 0, none⟩ (.int .u32 0)).setCell ⟨w.heap.size, 1, none⟩ (.int .u32 0) = W at *
  have k0 := HW.out.cell (i := 0)
  have k1 := HW.out.cell (i := 1)
  refine bodyPost_ret (v := .tuple #[hval 0 0, errno 16]) (by simp at k0 k1; simp [results, Tryd.results28, go_sem, k0, k1, hval, errno]) rfl ?_
  exact ⟨rfl, HKW.out⟩

theorem tak_le {L : List (Int × Int)} {z : Nat} (hlo : ∀ y, y < z → tak L y = true) : z ≤ L.length := by
  by_cases h : z ≤ L.length
  · exact h
  · have := hlo L.length (by omega)
    rw [tak_out L _ (Nat.le_refl _)] at this
    exact absurd this (by decide)

/-- The places behind the loop: there is one at z, and it is free. -/
structure AddMid (L : List (Int × Int)) (z : Nat) (M : List (Int × Int)) : Prop where
  eq : M = addM L z
  lt : z < M.length
  is : ∀ h : z < M.length, M[z].2 = 0 ∧ M[z].1 + 1 = nage L z ∧ 0 ≤ M[z].1 ∧ M[z].1 < 4294967295
theorem AddMid.of {L : List (Int × Int)} {z : Nat} (hok : ∀ q ∈ L, OkP q) (hS : tak L z = false) (hle : z ≤ L.length) : AddMid L z (addM L z) := by
  unfold addM
  by_cases h : z < L.length
  · rw [if_pos h]
    have h2 : L[z].2 = 0 := by rw [tak_in L z h] at hS; simpa using hS
    obtain ⟨o1, o2, o3⟩ := hok L[z] (List.getElem_mem h)
    refine ⟨by unfold addM; rw [if_pos h], h, fun _ => ⟨h2, by simp [nage, h], o1, ?_⟩⟩
    rw [h2] at o3
    simp at o3
    omega
  · obtain rfl : z = L.length := by omega
    rw [if_neg h]
    refine ⟨by unfold addM; rw [if_neg h], by simp, fun _ => ?_⟩
    simp [nage]

theorem Ar.added {w' : World} {b : Nat} {ownS : Nat → Prop} {v : Value} {z : Nat} {M : List (Int × Int)} (hle : L.length ≤ n) (hok : ∀ q ∈ L, OkP q) (hla : ∀ q, L.getLast? = some q → q.1 ≠ 0) (hzl : z ≤ L.length) (hz : z < n)
    (hm : AddMid L z M) (hx : AX w' p b n ownS v (M.set z (nage L z, 1)) (upd (tak L) z true) ((liv L : Nat) + 1 : Int)) : Ar w' (AX.own p ownS v) p n (addL L z) := by
  obtain ⟨rfl, hlt, his⟩ := hm
  obtain ⟨i1, i2, i3, i4⟩ := his hlt
  have hl := liv_set (addM L z) z (nage L z, 1) hlt
  rw [i1] at hl
  simp at hl
  have htak : tak (addM L z) = tak L := by unfold addM; split <;> first | rfl | exact tak_free L 0
  have hliv : liv (addM L z) = liv L := by unfold addM; split <;> first | rfl | exact liv_append L 0
  have hlen : (addM L z).length ≤ n := by unfold addM; split <;> first | exact hle | (simp; omega)
  refine ⟨⟨b, ownS, v, ?_, rfl⟩, by simpa [addL] using hlen, fun q hm => ?_, fun q hm => ?_⟩
  · unfold addL
    rw [tak_set _ z _ hlt, htak, hl, hliv]
    simpa using hx
  · rcases List.mem_or_eq_of_mem_set hm with hm | rfl
    · unfold addM at hm
      split at hm
      · exact hok q hm
      · rcases List.mem_append.1 hm with hm | hm
        · exact hok q hm
        · simp at hm; subst hm; exact ⟨by decide, by decide, .inl ⟨rfl, by decide⟩⟩
    · exact ⟨by show 0 ≤ nage L z; omega, by show nage L z ≤ _; omega, .inr (.inl ⟨rfl, by show nage L z ≠ 0; omega⟩)⟩
  · unfold addL at hm
    rw [List.getLast?_eq_getElem?, List.length_set, List.getElem?_set] at hm
    split at hm
    · simp at hm
      obtain ⟨_, rfl⟩ := hm
      show nage L z ≠ 0
      omega
    · rename_i hne
      unfold addM at hm hne
      by_cases h : z < L.length
      · rw [if_pos h] at hm
        exact hla q (by rw [List.getLast?_eq_getElem?]; exact hm)
      · rw [if_neg h] at hne
        simp at hne
        omega

def AddRel (w w1 : World) (p b n z : Nat) (ownS : Nat → Prop) (v : Value) (L : List (Int × Int)) (wr : World) : Prop :=
  ∃ M v', AX wr p b n ownS v' M (upd (tak L) z true) (liv L : Nat) ∧ (M = L ∧ wr.heap.size = w1.heap.size ∧ v' = v ∨ M = L ++ [(0, 0)] ∧ z = L.length ∧ w1.heap.size < wr.heap.size) ∧ Keeps (AX.own p ownS v) w wr ∧
    (∀ g, v'.ownBlock = some g → v.ownBlock = some g ∨ w.heap.size < g) ∧ Blk wr w.heap.size #[.int .u32 0, .int .u32 0] 46

set_option maxHeartbeats 2000000 in
theorem aadd (h : Ar w own p n L) (hT : Tab w) (z : Nat) (hz : z < n) (hS : tak L z = false) (hlo : ∀ y, y < z → tak L y = true) :
    Calls Tryd.prog 28 #[.pointer (some ⟨p, 0, none⟩)] w (AddPost w own p n L z) := by
  obtain ⟨i0, hi, hz0, hz1, hz2⟩ := info_parts infoPl
  have hzl := tak_le hlo
  have hbn := h.bound
  have hln := h.le
  have hok := Lib.hid h.ok
  have hla := Lib.hid h.last
  obtain ⟨⟨b, ownS, v, h1, rfl⟩, _⟩ := h
  have H1 := Lib.hid (h1.keep ((Keeps.refl _ _).alloc (.cells #[.int .u32 0, .int .u32 0] 46)))
  have hlt := Lib.hid h1.lt
  have g2 := h1.c2
  have hpb := h1.head.lt
  have hc := Lib.hid (stake H1.out.sl (hT.keep ((Keeps.refl _ _).alloc _)) z hz hS hlo)
  have hr : Hid (Blk (w.alloc (.cells #[.int .u32 0, .int .u32 0] 46)) w.heap.size #[.int .u32 0, .int .u32 0] 46) := Blk.new w _ _
  have HS := Lib.hid (And.intro hS hlo)
  clear h1 hS hlo hT
  go_enter Tryd.func28, Tryd.ntmps28
  go_wp2_with fail
  refine hc.out.mono ?_
  rintro e w1 ⟨rfl, hk, hs⟩
  have H0 : Hid (AddRel w w1 p b n z ownS v L w1) := ⟨L, v, H1.out.bits hk hs, .inl ⟨rfl, rfl, rfl⟩, ((Keeps.refl _ w).alloc _).trans' (hk.mono fun _ _ e => .inr (.inl e)), fun g e => .inl e,
    hr.out.kept hk (fun e => Nat.lt_irrefl _ (hlt.out _ (.inr (.inl e))))⟩
  have hw1 : w.heap.size < w1.heap.size := by have := hk.size; simp at this; omega
  clear hk hs g2 H1 hr
  go_wp2_with fail
  go_loopw [] (fun wr => AddRel w w1 p b n z ownS v L wr) (fun wr => if wr.heap.size = w1.heap.size then 1 else 0)
  case atStart => exact H0.out
  case round =>
    obtain ⟨M, v', hx, hM, hK, hob, hB⟩ := hrel
    clear H0
    have HX := Lib.hid hx
    have g1 := hx.c1
    obtain ⟨va, vc, hv⟩ := ownsRow_slice hx.row
    have HM := Lib.hid hM
    have HK := Lib.hid hK
    have HOB := Lib.hid hob
    have HB := Lib.hid hB
    rw [hv] at g1
    have HV := Lib.hid hv
    clear hx hM hK hob hB hv
    by_cases hzM : z < M.length
    · have hmid : M = addM L z := by
        unfold addM
        rcases HM.out with ⟨rfl, _⟩ | ⟨rfl, rfl, _⟩
        · rw [if_pos hzM]
        · rw [if_neg (Nat.lt_irrefl _)]
      have HMID := Lib.hid (AddMid.of hok.out HS.out.1 hzl)
      rw [← hmid] at HMID
      obtain ⟨his, hag, ha0, ha1⟩ := HMID.out.is hzM
      obtain ⟨g, c, hgv, hgc⟩ := HX.out.some_ (by omega)
      rw [HV.out] at hgv
      simp only [Value.slice.injEq, true_and] at hgv
      obtain ⟨rfl, rfl⟩ := hgv
      obtain rfl := HV.out
      have hgp := HX.out.gp
      have e1 := HX.out.age z hzM
      have e2 := HX.out.is z hzM
      have f1 := HX.out.fr (z * 2)
      have f2 := HX.out.fr (z * 2 + 1)
      have g3 := HX.out.c3
      have f3 := HX.out.f 3
      rw [his] at e2
      have hage := Lib.hid hag
      have hw32 : IntKind.u32.wrap (M[z].1 + 1) = M[z].1 + 1 := by rw [IntKind.wrap_u32]; omega
      have hwz : IntKind.u32.wrap (z : Int) = z := by rw [IntKind.wrap_u32]; omega
      have hwl : IntKind.i64.wrap ((liv L : Nat) + 1 : Int) = (liv L : Nat) + 1 := by have := liv_le L; simp [IntKind.wrap_i64]; omega
      have r0 := HB.out.cell (i := 0)
      have r1 := HB.out.cell (i := 1)
      have q0 := HB.out.free 0
      have q1 := HB.out.free 1
      have hrp : p ≠ w.heap.size := fun e => by omega
      have hrg : g ≠ w.heap.size := fun e => by
        rcases HOB.out g rfl with h | h
        · have := hlt.out g (.inr (.inr h)); omega
        · omega
      simp only [List.getElem?_toArray, List.getElem?_cons_zero, List.getElem?_cons_succ] at r0 r1
      generalize M[z].1 = age at *
      clear his hag hmid
      have HXP := HX.out.place z hzM (age + 1) 1
      rw [show M.length = (M.set z (age + 1, 1)).length from by simp] at HXP
      have HXF := Lib.hid (HXP.live ((liv L : Nat) + 1 : Int))
      rw [List.length_set] at HXF
      have HKF : Hid (Keeps (AX.own p ownS (.slice (some ⟨g, 0, none⟩) M.length vc)) wr (((wr.setCell ⟨g, z * 2, none⟩ (.int .u32 (age + 1))).setCell ⟨g, z * 2 + 1, none⟩ (.int .i64 1)).setCell ⟨p, 3, none⟩ (.int .i64 ((liv L : Nat) + 1 : Int)))) :=
        (((Keeps.refl _ wr).setCell _ _ fun _ => .inr (.inr rfl)).setCell _ _ fun _ => .inr (.inr rfl)).setCell _ _ fun _ => .inl rfl
      have HBF := Lib.hid (((HB.out.set_other ⟨g, z * 2, none⟩ (.int .u32 (age + 1)) (Ne.symm hrg)).set_other ⟨g, z * 2 + 1, none⟩ (.int .i64 1) (Ne.symm hrg)).set_other ⟨p, 3, none⟩ (.int .i64 ((liv L : Nat) + 1 : Int)) (Ne.symm hrp))
      clear HXP
      go_wp2_with fail
      generalize ((wr.setCell ⟨g, z * 2, none⟩ (.int .u32 (age + 1))).setCell ⟨g, z * 2 + 1, none⟩ (.int .i64 1)).setCell ⟨p, 3, none⟩ (.int .i64 ((liv L : Nat) + 1 : Int)) = W1 at *
      have HW := Lib.hid ((HBF.out.set 0 (.int .u32 (age + 1))).set 1 (.int .u32 (z : Int)))
      have hkr : Keeps (fun k => k = w.heap.size) W1 ((W1.setCell ⟨w.heap.size, 0, none⟩ (.int .u32 (age + 1))).setCell ⟨w.heap.size, 1, none⟩ (.int .u32 (z : Int))) :=
        ((Keeps.refl (fun k => k = w.heap.size) W1).setCell ⟨w.heap.size, 0, none⟩ (.int .u32 (age + 1)) fun _ => rfl).setCell ⟨w.heap.size, 1, none⟩ (.int .u32 (z : Int)) fun _ => rfl
      have HKR := Lib.hid hkr
      clear hkr
      generalize (W1.setCell ⟨w.heap.size, 0, none⟩ (.int .u32 (age + 1))).setCell ⟨w.heap.size, 1, none⟩ (.int .u32 (z : Int)) = W2 at *
      have k0 := HW.out.cell (i := 0)
      have k1 := HW.out.cell (i := 1)
      refine bodyPost_ret (v := .tuple #[hval (age + 1) z, .nilIface]) (by simp at k0 k1; simp [results, Tryd.results28, go_sem, k0, k1, hval]) rfl ?_
      have hno : ∀ k, AX.own p ownS (.slice (some ⟨g, 0, none⟩) M.length vc) k → AX.own p ownS v k ∨ w.heap.size < k := fun k e => by
        rcases e with e | e | e
        · exact .inl (.inl e)
        · exact .inl (.inr (.inl e))
        · rcases HOB.out k e with h | h
          · exact .inl (.inr (.inr h))
          · exact .inr h
      have hnr : ¬ AX.own p ownS (.slice (some ⟨g, 0, none⟩) M.length vc) w.heap.size := fun e => by
        rcases hno _ e with h | h
        · have := hlt.out _ h; omega
        · omega
      have hXW := HXF.out.kept HKR.out (fun k hk e => hnr (e ▸ hk))
      rw [hage.out] at hXW
      refine ⟨by rw [hage.out], AX.own p ownS (.slice (some ⟨g, 0, none⟩) M.length vc), Ar.added hln hok.out hla.out hzl hz HMID.out hXW, ?_, fun k e => ?_⟩
      · refine (HK.out.trans HKF.out fun i hi e => ?_).trans HKR.out fun i hi e => by omega
        rcases hno i e with h | h
        · exact h
        · omega
      · rcases hno k e with h | h
        · exact .inl h
        · exact .inr (by omega)
    · have hML : M = L ∧ wr.heap.size = w1.heap.size ∧ v' = v := by
        rcases HM.out with h | ⟨rfl, rfl, _⟩
        · exact h
        · simp at hzM
      obtain ⟨rfl, hwr, rfl⟩ := hML
      have HWR := Lib.hid hwr
      clear hwr
      obtain rfl : z = M.length := by omega
      have hrow := HX.out.row
      rw [HV.out] at hrow
      go_wp2_with (first | (at_builtin; refine wpList_app1 rfl _ _ 63 rfl 0 72 i0 (.agg #[.int .u32 0, .int .i64 0]) 2 16 Tryd.underlying63 hi hz0 hz1 hz2 rfl (by decide) _ _ _ rfl hrow _ 1 1 [.int .u32 0, .int .i64 0] 72 rfl rfl rfl ?c1 ?c2 ?c3 ?c4 ?_))
      case c1 => simp [Value.oneCell']
      case c2 => unfold maxLen; omega
      case c3 => omega
      intro v1 w2 ho hk1 hob1 hsz1 hne1
      obtain ⟨a1, c1, rfl⟩ := ownsRow_slice ho
      have hhead : Hid (Blk w2 p #[.int .i64 n, v', .pointer (some ⟨b, 0, none⟩), .int .i64 (liv M : Nat)] 109) := HX.out.head.kept hk1 (fun e => (HX.out.d2 p (by rw [HV.out]; exact e)).1 rfl)
      have hsl : Hid (Sl w2 b ownS n (upd (tak M) M.length true)) := HX.out.sl.kept hk1 (fun k hk e => (HX.out.d2 k (by rw [HV.out]; exact e)).2 hk)
      have k1 := hhead.out.cell (i := 1)
      have kf := hhead.out.free 1
      have HO := Lib.hid ho
      have HK1 := Lib.hid hk1
      have HOB1 := Lib.hid hob1
      have HSZ := Lib.hid hsz1
      simp only [HV.out] at k1
      simp at k1
      clear ho hk1 hob1 hsz1 hne1 hrow
      go_wp2_with fail
      have hd' : ∀ g, (Value.slice a1 (M.length + 1) c1).ownBlock = some g → g ≠ p ∧ ¬ ownS g := fun g e => by
        rcases HOB1.out g e with e2 | e2
        · exact HX.out.d2 g (by rw [HV.out]; exact e2)
        · refine ⟨fun q => ?_, fun q => ?_⟩
          · have := HX.out.head.lt; omega
          · have := HX.out.sl.lt g q; omega
      have hkp : Keeps (fun k => k = p) w2 (w2.setCell ⟨p, 1, none⟩ (.slice a1 (M.length + 1) c1)) := (Keeps.refl _ _).setCell _ _ fun _ => rfl
      have hrow2 : w2.ownsRow 0 72 2 (.slice a1 (M.length + 1) c1) (M ++ [(0, 0)]).length (plVals (M ++ [(0, 0)])) := by
        rw [plVals_append, List.length_append]; exact HO.out
      refine ⟨⟨M ++ [(0, 0)], .slice a1 (M.length + 1) c1, ⟨hhead.out.set 1 _, ownsRow_kept hrow2 hkp (fun k e => (hd' k e).1), hsl.out.kept hkp (fun k e q => HX.out.d1 (q ▸ e)), HX.out.d1, hd'⟩,
        .inr ⟨rfl, rfl, ?_⟩, ?_, fun g e => ?_, ?_⟩, ?_⟩
      · have := HSZ.out; have := HWR.out; simp [World.setCell]; omega
      · refine (HK.out.trans HK1.out fun i hi e => .inr (.inr ?_)).trans hkp fun i _ e => .inl e
        rw [HV.out]; exact e
      · rcases HOB1.out g e with e2 | e2
        · exact .inl (by rw [HV.out]; exact e2)
        · have := HK.out.size; exact .inr (by omega)
      · refine (HB.out.kept HK1.out (fun e => ?_)).kept hkp (fun e => ?_)
        · have := hlt.out w.heap.size (.inr (.inr (by rw [HV.out]; exact e))); omega
        · omega
      · have := HSZ.out; have := HWR.out
        rw [if_pos HWR.out, if_neg (by simp [World.setCell]; omega)]
        omega
end
end Go.Proofs.YtiphdlhnoceeiaaDoor
