/- kin: Road. kin: Road: the errors, and the road. -/
import Derived.Test.YtdplphhlclhmfaaDoorKnB
import Derived.Test.YtdplphhlclhmfaaDoorSpC
import Derived.Test.YtdplphhlclhmfaaDoorKiM
namespace Go.Proofs.YtdplphhlclhmfaaDoor
open Go Go.RowKit
set_option linter.unusedVariables false
set_option linter.unusedSimpArgs false
set_option maxRecDepth 100000

/-! kin: Road. -/
/-- What asking for a road answers. -/
def roadErr (E : Nat) (L : List (List Nat)) (a b : Int) : Nat := if a < 0 ∨ (L.length : Int) ≤ a ∨ b < 0 ∨ (L.length : Int) ≤ b then 12 else if (grp L E).getD a.toNat 0 = (grp L E).getD b.toNat 0 then 0 else 21
section
variable {w : World} {own : Nat → Prop} {p E : Nat} {L : List (List Nat)}
set_option maxHeartbeats 2000000 in
/-- Whether a dart leads nearer. -/
theorem knear (h : Tu w own p E L) (hg : Good E L) {fb db tb ab a d : Nat} {f : List Int} (hd : w.cell? ⟨db, 0, none⟩ = some (.slice (some ⟨fb, 0, none⟩) L.length L.length)) (ht : w.cell? ⟨tb, 0, none⟩ = some (.pointer (some ⟨p, 0, none⟩))) (ha : w.cell? ⟨ab, 0, none⟩ = some (.int .i64 (a : Int)))
    (hf : Blk w fb (i64s f).toArray 3) (hfl : f.length = L.length) (hal : a < L.length) (hb0 : -1 ≤ f.getD a 0) (hb1 : f.getD a 0 ≤ 1048576) (hs : Stands L d) :
    Calls Tryd.prog 65 #[.int .i64 (d : Int), .pointer (some ⟨db, 0, none⟩), .pointer (some ⟨tb, 0, none⟩), .pointer (some ⟨ab, 0, none⟩)] w (BoolPost (decide (f.getD (De L d) 0 = f.getD a 0 - 1)) w) := by
  have hyl : De L d < L.length := hg.toWF.vtx_lt (hg.twin _ hs)
  have HE := Lib.hid fun W (hk : Keeps (fun _ => False) w W) => kend (h.keep hk) hg hs
  have q1 := hf.cell (De L d)
  have q2 := hf.cell a
  rw [List.getElem?_toArray, i64s_get (by rw [hfl]; exact hyl)] at q1
  rw [List.getElem?_toArray, i64s_get (by rw [hfl]; exact hal)] at q2
  have hyI : ((De L d : Nat) : Int) < (L.length : Int) := Int.ofNat_lt.2 hyl
  have haI : (a : Int) < (L.length : Int) := Int.ofNat_lt.2 hal
  clear h hg hs hf hfl
  generalize De L d = y at *
  generalize f.getD y 0 = fy at *
  generalize f.getD a 0 = fa at *
  have hw2 : IntKind.i64.wrap (fa - 1) = fa - 1 := by rw [IntKind.wrap_i64]; omega
  obtain ⟨r, hr⟩ : ∃ r, decide (fy = fa - 1) = r := ⟨_, rfl⟩
  have hbe : (fy == fa - 1) = r := by
    rw [← hr]
    by_cases q : fy = fa - 1
    · rw [decide_eq_true q]; exact beq_iff_eq.2 q
    · rw [decide_eq_false q]; exact beq_eq_false_iff_ne.2 q
  rw [hr]
  clear hr hyl hal hb0 hb1
  unfold RetPost tptr at HE
  unfold BoolPost
  have hK : Keeps (fun _ => False) w w.drew := (Keeps.refl _ _).drew
  go_enter Tryd.func65, Tryd.ntmps65
  go_upto_region 1 with fail
  go_region_held3 (fun w' => w'.cell? ⟨db, 0, none⟩ = some (.slice (some ⟨fb, 0, none⟩) L.length L.length) ∧ w'.cell? ⟨tb, 0, none⟩ = some (.pointer (some ⟨p, 0, none⟩)) ∧ w'.cell? ⟨ab, 0, none⟩ = some (.int .i64 (a : Int)) ∧ w'.cell? ⟨fb, y, none⟩ = some (.int .i64 fy) ∧ w'.cell? ⟨fb, a, none⟩ = some (.int .i64 fa))
    (first | exact ⟨hK.cellF hd, hK.cellF ht, hK.cellF ha, hK.cellF q1, hK.cellF q2⟩ | fail)
    (first
      | (go_at_call 62; with_reducible refine (HE.out _ hK).mono ?_; rintro e5 w5 ⟨rfl, hk5⟩; have hK : Keeps (fun _ => False) w w5 := hK.trans' hk5)
      | fail)
  all_goals
    have HK := Lib.hid hK
    clear hK
    go_wp2_with fail
    go_ret
    exact ⟨by first | rfl | (show Ending.returned (Value.bool (fy == IntKind.i64.wrap (fa - 1))) = _; rw [hw2, hbe]) | (show Ending.returned (Value.bool (fy == fa - 1)) = _; rw [hbe]), HK.out⟩
/-- The first that is so. -/
def IdxNPost (P : Nat → Bool) (l : List Nat) (w : World) (e : Ending) (w' : World) : Prop := ∃ i : Nat, e = .returned (.int .i64 (i : Int)) ∧ i < l.length ∧ l.find? P = some (l.getD i 0) ∧ Keeps (fun _ => False) w w'
theorem idxN (x1 x2 x3 : Value) (P : Nat → Bool) (a : Option Addr) (c : Nat) (l : List Nat) (w : World) (hp : ∀ W, Keeps (fun _ => False) w W → ∀ d ∈ l, Calls Tryd.prog 65 #[.int .i64 (d : Int), x1, x2, x3] W (BoolPost (P d) W)) (hr : Rd w a (nats l)) (hl : l.length ≤ 4194304) (hex : ∃ d ∈ l, P d = true) :
    Calls Tryd.prog 66 #[.slice a l.length c, .func (.func 65) #[] #[x1, x2, x3]] w (IdxNPost P l w) := by
  have HR := Lib.hid hr
  have HP := Lib.hid hp
  have HX := Lib.hid hex
  clear hr hp hex
  go_enter Tryd.func66, Tryd.ntmps66
  go_wp2_with fail
  go_loopw [8] (fun i wr => ∃ f : Nat, f ≤ l.length ∧ i = .int .i64 (f : Int) ∧ Hid (Keeps (fun _ => False) w wr ∧ (l.take f).find? P = none)) (fun i _ => l.length - (intOf i).toNat)
  case atStart => exact ⟨0, Nat.zero_le _, rfl, Keeps.refl _ _, rfl⟩
  case round =>
    obtain ⟨f, hf, rfl, hrel⟩ := hrel
    by_cases hlt : f < l.length
    · obtain ⟨b, off, rfl, e1⟩ := (HR.out.keep hrel.out.1).nat hlt
      have ho := Lib.hid (HP.out wr hrel.out.1 _ (getD_mem hlt))
      have HT := Lib.hid (show l.take (f + 1) = l.take f ++ [l.getD f 0] by rw [List.take_add_one, List.getElem?_eq_getElem hlt, List.getD_eq_getElem?_getD, List.getElem?_eq_getElem hlt]; rfl)
      have HTD := Lib.hid (show l = l.take f ++ l.getD f 0 :: l.drop (f + 1) by
        have h1 := List.take_append_drop f l
        rw [List.drop_eq_getElem_cons hlt] at h1
        rw [List.getD_eq_getElem?_getD, List.getElem?_eq_getElem hlt]
        exact h1.symm)
      have HFN : Hid (P (l.getD f 0) = true → l.find? P = some (l.getD f 0)) := Lib.hid fun hq => by
        have h1 := HTD.out
        generalize l.getD f 0 = q at *
        rw [h1, List.find?_append, hrel.out.2]
        simp [hq]
      have hltI : (f : Int) < (l.length : Int) := by omega
      clear HTD
      unfold BoolPost at ho
      cases hq : P (l.getD f 0) with
      | true =>
        rw [hq] at ho
        have HF := Lib.hid (HFN.out hq)
        clear hq HFN HT
        obtain ⟨q, hq⟩ : ∃ q, l.getD f 0 = q := ⟨_, rfl⟩
        rw [hq] at e1 ho
        have HQ := Lib.hid hq
        clear hq
        go_wp2_with fail
        refine ho.out.mono ?_
        rintro e w2 ⟨rfl, hk⟩
        have HK := Lib.hid (hrel.out.1.trans' hk)
        clear hk
        go_wp2_with fail
        go_ret
        exact ⟨f, rfl, hlt, HF.out, HK.out⟩
      | false =>
        rw [hq] at ho
        have HQ := Lib.hid hq
        clear hq HFN
        have HN : Hid ((l.take (f + 1)).find? P = none) := Lib.hid (by
          have h1 := HQ.out
          rw [HT.out, List.find?_append, hrel.out.2]
          generalize l.getD f 0 = q at *
          simp [h1])
        clear HQ HT
        generalize l.getD f 0 = q at *
        go_wp2_with fail
        refine ho.out.mono ?_
        rintro e w2 ⟨rfl, hk⟩
        have HK : Hid (Keeps (fun _ => False) w w2 ∧ (l.take (f + 1)).find? P = none) := Lib.hid ⟨hrel.out.1.trans' hk, HN.out⟩
        clear hk
        go_wp2_with fail
        refine ⟨⟨f + 1, hlt, by go_num, HK⟩, by simp [intOf]; omega⟩
    · obtain rfl : f = l.length := by omega
      exfalso
      obtain ⟨d, hd, hq⟩ := HX.out
      have h1 := hrel.out.2
      rw [List.take_length] at h1
      have := List.find?_eq_none.1 h1 d hd
      exact this hq
end
/-! kin: Road: the errors, and the road. -/
section
variable {w : World} {own : Nat → Prop} {p E : Nat} {L : List (List Nat)}
theorem kroad_nil (a b : Int) : Calls Tryd.prog 36 #[.pointer none, .int .i64 a, .int .i64 b] w (RetPost (.tuple #[.slice none 0 0, errno 1]) w) := by
  generalize hW : (w.alloc (.cells #[.pointer none] 24)).alloc (.cells #[.int .i64 a] 3) = w0
  have hK0 : Keeps (fun _ => False) w w0 := by rw [← hW]; exact ((Keeps.refl _ _).alloc _).alloc _
  have HB : Hid (Blk w0 w.heap.size #[.pointer none] 24) := by rw [← hW]; exact Lib.hid ((Blk.new _ _ _).alloc _)
  have HK0 := Lib.hid hK0
  have HS := Lib.hid (nsizes (w := w0))
  have x0 := HB.out.cell 0
  simp only [List.getElem?_toArray, List.getElem?_cons_zero] at x0
  clear hK0
  unfold RetPost errno at *
  go_enter Tryd.func36, Tryd.ntmps36
  go_upto_region 1 with fail
  clear hW
  go_wp2_with fail
  with_reducible refine HS.out.mono ?_
  rintro e w1 ⟨rfl, hk⟩
  have HK := Lib.hid (HK0.out.trans' hk)
  have y0 := hk.cellF x0
  clear hk HS x0
  go_wp2_with fail
  go_ret2
  exact ⟨rfl, HK.out⟩
theorem kroad_range (h : Tu w own p E L) (a b : Int) (hr : a < 0 ∨ (L.length : Int) ≤ a ∨ b < 0 ∨ (L.length : Int) ≤ b) : Calls Tryd.prog 36 #[tptr p, .int .i64 a, .int .i64 b] w (RetPost (.tuple #[.slice none 0 0, errno 12]) w) := by
  generalize hW : (w.alloc (.cells #[tptr p] 24)).alloc (.cells #[.int .i64 a] 3) = w0
  have hK0 : Keeps (fun _ => False) w w0 := by rw [← hW]; exact ((Keeps.refl _ _).alloc _).alloc _
  have HB : Hid (Blk w0 w.heap.size #[tptr p] 24) := by rw [← hW]; exact Lib.hid ((Blk.new _ _ _).alloc _)
  have HB2 : Hid (Blk w0 (w.heap.size + 1) #[.int .i64 a] 3) := by rw [← hW]; exact Lib.hid (Blk.newAt _ _ _ (by simp))
  have HK0 := Lib.hid hK0
  have HS := Lib.hid (tsizes (h.keep hK0))
  have x0 := HB.out.cell 0
  have x1 := HB2.out.cell 0
  simp only [List.getElem?_toArray, List.getElem?_cons_zero] at x0 x1
  clear hK0 h
  unfold RetPost tptr errno at *
  have hor : decide (a < 0) = true ∨ (decide (a < 0) = false ∧ decide ((L.length : Int) ≤ a) = true) ∨ (decide (a < 0) = false ∧ decide ((L.length : Int) ≤ a) = false ∧ decide (b < 0) = true) ∨ (decide (a < 0) = false ∧ decide ((L.length : Int) ≤ a) = false ∧ decide (b < 0) = false ∧ decide ((L.length : Int) ≤ b) = true) := by
    by_cases q1 : a < 0
    · exact Or.inl (decide_eq_true q1)
    · refine Or.inr ?_
      by_cases q2 : (L.length : Int) ≤ a
      · exact Or.inl ⟨decide_eq_false q1, decide_eq_true q2⟩
      · refine Or.inr ?_
        by_cases q3 : b < 0
        · exact Or.inl ⟨decide_eq_false q1, decide_eq_false q2, decide_eq_true q3⟩
        · exact Or.inr ⟨decide_eq_false q1, decide_eq_false q2, decide_eq_false q3, decide_eq_true (by omega)⟩
  clear hr
  go_enter Tryd.func36, Tryd.ntmps36
  go_upto_region 1 with fail
  clear hW
  go_wp2_with fail
  with_reducible refine HS.out.mono ?_
  rintro e w1 ⟨rfl, hk⟩
  have HK := Lib.hid (HK0.out.trans' hk)
  have y0 := hk.cellF x0
  have y1 := hk.cellF x1
  clear hk HS x0 x1
  rcases hor with h1 | ⟨h1, h2⟩ | ⟨h1, h2, h3⟩ | ⟨h1, h2, h3, h4⟩
  all_goals
    go_wp2_with fail
    go_ret2
    exact ⟨rfl, HK.out⟩
/-- What a road answers. -/
def RoadPost (L : List (List Nat)) (b a : Nat) (w : World) (e : Ending) (w' : World) : Prop :=
  ∃ f, FarOk L b f ∧ (f.getD a 0 < 0 ∧ e = .returned (.tuple #[.slice none 0 0, errno 21]) ∧ Keeps (fun _ => False) w w' ∨
    0 ≤ f.getD a 0 ∧ ∃ v, e = .returned (.tuple #[v, .nilIface]) ∧ w'.ownsRow w.heap.size 3 1 v (roadL L f (f.getD a 0).toNat a).length (nats (roadL L f (f.getD a 0).toNat a)) ∧ Keeps (fun _ => False) w w')
/-- On the road: who stands where, and what was told. -/
structure RdAt (w3 : World) (L : List (List Nat)) (f : List Int) (ab : Nat) (R : List Nat) (m k : Nat) (o : Value) (wr : World) : Prop where
  ex : ∃ x l, x < L.length ∧ f.getD x 0 = (k : Int) ∧ l ++ roadL L f k x = R ∧ m = l.length ∧ wr.ownsRow w3.heap.size 3 1 o m (nats l) ∧ Blk wr ab #[.int .i64 (x : Int)] 3
  kp : Keeps (fun q => q = ab) w3 wr
set_option maxHeartbeats 8000000 in
theorem kroad (h : Tu w own p E L) (hg : Good E L) {a b : Nat} (ha : a < L.length) (hb : b < L.length) : Calls Tryd.prog 36 #[tptr p, .int .i64 (a : Int), .int .i64 (b : Int)] w (RoadPost L b a w) := by
  generalize hW : (w.alloc (.cells #[tptr p] 24)).alloc (.cells #[.int .i64 (a : Int)] 3) = w0
  have hK0 : Keeps (fun _ => False) w w0 := by rw [← hW]; exact ((Keeps.refl _ _).alloc _).alloc _
  have HB : Hid (Blk w0 w.heap.size #[tptr p] 24) := by rw [← hW]; exact Lib.hid ((Blk.new _ _ _).alloc _)
  have HB2 : Hid (Blk w0 (w.heap.size + 1) #[.int .i64 (a : Int)] 3) := by rw [← hW]; exact Lib.hid (Blk.newAt _ _ _ (by simp))
  have HK0 := Lib.hid hK0
  have HT := Lib.hid h
  have HG := Lib.hid hg
  have HOW : Hid (∀ k, own k → k < w.heap.size) := Lib.hid fun k q => h.lt k q
  have hV := h.v2
  have HS := Lib.hid (tsizes (h.keep hK0))
  have HST := Lib.hid fun W (hk : Keeps (fun _ => False) w0 W) => ksteps ((h.keep hK0).keep hk) hg hb
  have x0 := HB.out.cell 0
  have x1 := HB2.out.cell 0
  simp only [List.getElem?_toArray, List.getElem?_cons_zero] at x0 x1
  have h1 : decide ((a : Int) < 0) = false := decide_eq_false (by omega)
  have h2 : decide ((L.length : Int) ≤ (a : Int)) = false := decide_eq_false (by omega)
  have h3 : decide ((b : Int) < 0) = false := decide_eq_false (by omega)
  have h4 : decide ((L.length : Int) ≤ (b : Int)) = false := decide_eq_false (by omega)
  have haI : (a : Int) < (L.length : Int) := Int.ofNat_lt.2 ha
  clear hK0 h hg
  unfold RetPost tptr at HS
  unfold FarPost tptr at HST
  unfold tptr at hW HB x0
  unfold RoadPost tptr errno
  go_enter Tryd.func36, Tryd.ntmps36
  go_upto_region 1 with fail
  clear hW
  go_wp2_with fail
  with_reducible refine HS.out.mono ?_
  rintro e w1 ⟨rfl, hk⟩
  have HK1 := Lib.hid hk
  have y0 := hk.cellF x0
  have y1 := hk.cellF x1
  clear hk HS x0 x1
  go_upto_region 7 with (go_at_call 64; with_reducible refine (HST.out _ HK1.out).mono ?_; rintro e w2 ⟨fb, f, rfl, hfo, hfb, hge, hk2⟩; have HFO := Lib.hid hfo; have HFB := Lib.hid hfb; have HGE := Lib.hid hge; have HK2 := Lib.hid (HK1.out.trans' hk2); have x0 := hk2.cellF y0; have x1 := hk2.cellF y1; clear hfo hfb hge hk2 y0 y1 HST)
  have hd3 : Blk (w2.alloc (.cells #[.slice (some ⟨fb, 0, none⟩) L.length L.length] 23)) w2.heap.size #[.slice (some ⟨fb, 0, none⟩) L.length L.length] 23 := Blk.new _ _ _
  have hk3 : Keeps (fun _ => False) w2 (w2.alloc (.cells #[.slice (some ⟨fb, 0, none⟩) L.length L.length] 23)) := (Keeps.refl _ _).alloc _
  generalize World.alloc w2 _ = w3 at *
  have HD3 := Lib.hid hd3
  have HK3 := Lib.hid (HK2.out.trans' hk3)
  have HFB3 := Lib.hid (HFB.out.kept hk3 id)
  have z0 := hk3.cellF x0
  have z1 := hk3.cellF x1
  have zd := hd3.cell 0
  simp only [List.getElem?_toArray, List.getElem?_cons_zero] at zd
  have za := HFB3.out.cell a
  rw [List.getElem?_toArray, i64s_get (by rw [HFO.out.len]; exact ha)] at za
  have HSZ : Hid (w0.heap.size ≤ fb ∧ fb < w2.heap.size ∧ w0.heap.size ≤ w2.heap.size) := Lib.hid ⟨by have := HK1.out.size; have := HGE.out; omega, HFB.out.lt, HK2.out.size⟩
  have HDB : Hid (w0.heap.size ≤ w2.heap.size ∧ w.heap.size + 1 < w0.heap.size) := Lib.hid ⟨HK2.out.size, HB2.out.lt⟩
  clear hd3 hk3 x0 x1 HFB HK2 HGE HK1
  generalize w2.heap.size = db at *
  by_cases hneg : f.getD a 0 < 0
  · have HF : Hid (∃ f, FarOk L b f ∧ f.getD a 0 < 0 ∧ Keeps (fun _ => False) w w3) := Lib.hid ⟨f, HFO.out, hneg, HK0.out.trans' HK3.out⟩
    generalize f.getD a 0 = fa at *
    clear HFB3 HD3 HFO HK3
    go_wp2_with fail
    go_ret2
    obtain ⟨f, q1, q2, q3⟩ := HF.out
    exact ⟨f, q1, Or.inl ⟨q2, rfl, q3⟩⟩
  · obtain ⟨N, hN⟩ := Int.eq_ofNat_of_zero_le (show 0 ≤ f.getD a 0 by omega)
    have HTW : Hid (∀ W, Keeps (fun q => q = w.heap.size + 1) w3 W → Tu W own p E L ∧ Blk W w.heap.size #[.pointer (some ⟨p, 0, none⟩)] 24 ∧ Blk W db #[.slice (some ⟨fb, 0, none⟩) L.length L.length] 23 ∧ Blk W fb (i64s f).toArray 3) := Lib.hid fun W hk => by
      have h1 := HSZ.out
      have h2 := HB2.out.lt
      refine ⟨((HT.out.keep HK0.out).keep HK3.out).kept hk fun q o e => ?_, (HB.out.kept HK3.out id).kept hk (by omega), HD3.out.kept hk ?_, HFB3.out.kept hk (by omega)⟩
      · have := HOW.out q o; omega
      · have := HDB.out; omega
    have HBD : Hid (∀ x, x < L.length → -1 ≤ f.getD x 0 ∧ f.getD x 0 ≤ 1048576) := Lib.hid fun x hx => by have := HFO.out.lt HG.out hx; omega
    have hNV : N < L.length := by have := (HFO.out.lt HG.out ha).2; omega
    have HIN : Hid (RdAt w3 L f (w.heap.size + 1) (roadL L f N a) 0 N (.slice none 0 0) w3) := Lib.hid ⟨⟨a, [], ha, hN, rfl, rfl, World.ownsRow_nil _ _ _ _, HB2.out.kept HK3.out id⟩, Keeps.refl _ _⟩
    have HEND : Hid (∀ v W, W.ownsRow w3.heap.size 3 1 v (roadL L f N a).length (nats (roadL L f N a)) → Keeps (fun q => q = w.heap.size + 1) w3 W → ∃ f, FarOk L b f ∧ 0 ≤ f.getD a 0 ∧ W.ownsRow w.heap.size 3 1 v (roadL L f (f.getD a 0).toNat a).length (nats (roadL L f (f.getD a 0).toNat a)) ∧ Keeps (fun _ => False) w W) := Lib.hid fun v W ho hk => by
      refine ⟨f, HFO.out, by omega, ?_, (HK0.out.trans' HK3.out).thin hk fun q e => by omega⟩
      rw [hN, Int.toNat_natCast]
      exact owns_low ho (HK0.out.trans' HK3.out).size
    rw [hN] at za
    have hRl : (roadL L f N a).length = N := roadL_length N a
    generalize roadL L f N a = R at *
    obtain ⟨i0, hi, hz0, hz1, hz2⟩ := info_parts infoI
    have HW3 : Hid (w.heap.size + 1 < w3.heap.size) := Lib.hid (HB2.out.kept HK3.out id).lt
    clear HFB3 HD3 HK3 hneg hN HSZ HB HB2
    go_upto_region 10 with fail
    clear z0 z1 zd za
    go_loopg [11] N (fun k o wr => ∃ (m : Nat) (ga : Option Addr) (gc : Nat), o = .slice ga m gc ∧ Hid (RdAt w3 L f (w.heap.size + 1) R m k o wr))
    case atStart => exact ⟨0, none, 0, rfl, HIN⟩
    case round =>
      obtain ⟨m, ga, gc, rfl, HR⟩ := hrel
      clear HIN
      obtain ⟨⟨x, l, hx, hfx, hlR, hml, hro, hbx⟩, hkp⟩ := HR.out
      clear HR
      have HML := Lib.hid hml
      clear hml
      obtain ⟨htw, htb, htd, htf⟩ := HTW.out _ hkp
      have y0 := htb.cell 0
      have y1 := hbx.cell 0
      have fz := hbx.free 0
      simp only [List.getElem?_toArray, List.getElem?_cons_zero] at y0 y1
      cases gk with
      | zero =>
        have hxb : x = b := (HFO.out.zero_iff hb hx).1 hfx
        subst hxb
        have HF := Lib.hid (HEND.out _ _ (by
          have h1 : l = R := by rw [← hlR]; simp [roadL]
          rw [← h1, ← HML.out]
          exact hro) hkp)
        clear htw htb htd htf hkp hbx hro hlR HML HEND HTW
        go_wp2_with fail
        go_ret2
        obtain ⟨f, q1, q2, q3, q4⟩ := HF.out
        exact ⟨f, q1, Or.inr ⟨q2, _, rfl, q3, q4⟩⟩
      | succ k =>
        obtain ⟨hsm, hst, hsv, hsf, hsl, hfd⟩ := HFO.out.stepD HG.out hx hfx
        have hxb : x ≠ b := fun e => by
          have := (HFO.out.zero_iff hb hx).2 e
          omega
        have hxn : ((x : Int) != (b : Int)) = true := by rw [bne_iff_ne]; omega
        have hxe : ((x : Int) == (b : Int)) = false := by rw [beq_eq_false_iff_ne]; omega
        have HAR := Lib.hid (karound htw hx)
        have HRO := Lib.hid hro
        have HKP := Lib.hid hkp
        have HSM := Lib.hid (And.intro hsm hfd)
        have hlen : m + (k + 1) = N := by
          have := congrArg List.length hlR
          rw [List.length_append, roadL_length, hRl] at this
          have := HML.out
          omega
        have HLR : Hid (∀ d, stepD L f x = d → (l ++ [d]) ++ roadL L f k (De L d) = R) := Lib.hid fun d e => by
          rw [← hlR, ← e]
          show _ = l ++ (stepD L f x :: roadL L f k (De L (stepD L f x)))
          simp
        have HST : Hid (∀ d, stepD L f x = d → Stands L d ∧ De L d < L.length ∧ f.getD (De L d) 0 = (k : Int)) := Lib.hid fun d e => by
          rw [← e]; exact ⟨hst, hsl, hsf⟩
        have HSZ5 : Hid (w3.heap.size ≤ wr.heap.size) := Lib.hid hkp.size
        have HALL : Hid (∀ d ∈ arL L x, Stands L d) := Lib.hid fun d hd => ((arL_iff HG.out.toWF hx).1 hd).1
        have hall : (arL L x).length ≤ 4194304 := by
          rw [arL_length]
          have h5 := HT.out.len (some_getD hx)
          have h6 := HT.out.e2
          omega
        have HBW := Lib.hid hbx
        clear htw htb htd htf hkp hro hlR hsm hst hsv hsf hsl hfd hbx hxb
        unfold OwnPost tptr at HAR
        go_upto_region 13 with (go_at_call 61; with_reducible refine HAR.out.mono ?_; rintro e w5 ⟨av, rfl, ho5, hk5⟩; obtain ⟨a5, c5, rfl, hr5, _⟩ := Rd.of_own ho5; have HFS := Lib.hid (Fresh.of_own ho5 rfl (Nat.le_refl _)); have HR5 := Lib.hid hr5; have HK5 := Lib.hid hk5; have v0 := hk5.cellF y0; have v1 := hk5.cellF y1; clear hr5 ho5 hk5 HAR y0 y1 fz)
        have HNR : Hid (∀ W, Keeps (fun _ => False) w5 W → ∀ d ∈ arL L x, Calls Tryd.prog 65 #[.int .i64 (d : Int), .pointer (some ⟨db, 0, none⟩), .pointer (some ⟨w.heap.size, 0, none⟩), .pointer (some ⟨w.heap.size + 1, 0, none⟩)] W (BoolPost (decide (f.getD (De L d) 0 = f.getD x 0 - 1)) W)) := Lib.hid fun W hk d hd => by
          obtain ⟨t1, t2, t3, t4⟩ := HTW.out W ((HKP.out.trans' (HK5.out.mono fun _ _ q => q.elim)).trans' (hk.mono fun _ _ q => q.elim))
          have t5 := t2.cell 0
          have t6 := t3.cell 0
          have t7 := ((HBW.out.kept HK5.out id).kept hk id).cell 0
          simp only [List.getElem?_toArray, List.getElem?_cons_zero] at t5 t6 t7
          exact knear t1 HG.out t6 t5 t7 t4 HFO.out.len hx (HBD.out x hx).1 (HBD.out x hx).2 (HALL.out d hd)
        have HIX := Lib.hid (idxN _ _ _ (fun d => decide (f.getD (De L d) 0 = f.getD x 0 - 1)) a5 c5 (arL L x) w5 HNR.out HR5.out hall ⟨_, HSM.out.1, List.find?_some (p := fun d => decide (f.getD (De L d) 0 = f.getD x 0 - 1)) HSM.out.2⟩)
        unfold IdxNPost at HIX
        clear HNR
        obtain ⟨d, hd⟩ : ∃ d, stepD L f x = d := ⟨_, rfl⟩
        have HLR2 := Lib.hid (HLR.out d hd)
        obtain ⟨hds, hdl, hdf⟩ := HST.out d hd
        have HDF := Lib.hid hdf
        have hfd := HSM.out.2
        rw [hd] at hfd
        have HKE := Lib.hid fun W (hk : Keeps (fun q => q = w.heap.size + 1) w3 W) => kend (HTW.out W hk).1 HG.out hds
        clear hd HLR HST HSM HALL hds hdf
        have HFD := Lib.hid hfd
        clear hfd
        generalize arL L x = al at *
        generalize De L d = y at *
        go_upto_region 14 with (go_at_call 66; with_reducible refine HIX.out.mono ?_; rintro e w6 ⟨i, rfl, hil, hfi, hk6⟩; have HFI := Lib.hid hfi; have HK6 := Lib.hid hk6; have u0 := hk6.cellF v0; have u1 := hk6.cellF v1; clear hfi hk6 HIX v0 v1)
        obtain ⟨b5, o5, rfl, hcd⟩ := (HR5.out.keep HK6.out).nat hil
        have hdi : al.getD i 0 = d := by
          have h1 := HFI.out
          rw [HFD.out] at h1
          exact (Option.some.inj h1).symm
        rw [hdi] at hcd
        have hal0 : al ≠ [] := fun e => by rw [e] at hil; simp at hil
        have HR6 := Lib.hid (HR5.out.keep HK6.out)
        have HK56 := Lib.hid (HK5.out.trans' HK6.out)
        have HRO6 := Lib.hid (ownsRow_kept HRO.out HK56.out fun _ _ q => q)
        have hilI : (i : Int) < (al.length : Int) := by omega
        have HKP6 := Lib.hid (HKP.out.trans' (HK56.out.mono fun _ _ q => q.elim))
        have HBW6 := Lib.hid (HBW.out.kept HK56.out id)
        have hb5 := rd_lt HR6.out hal0 rfl
        have hown := HRO6.out
        have hmN : m ≤ 1048576 := by omega
        have hB6 : w3.heap.size ≤ w6.heap.size := HKP6.out.size
        have HSP : Hid (∀ q, (Value.slice ga m gc).ownBlock = some q → q ≠ b5 ∧ q ≠ w.heap.size + 1 ∧ w3.heap.size ≤ q) := Lib.hid fun q e => by
          have h1 := HRO.out.lt q e
          have h2 := HFS.out b5 o5 rfl
          have h3 := HW3.out
          omega
        clear HFI HFD HR5 HK5 HK6 HRO HKP HBW HRO6
        go_wp2_with (first | (at_builtin; refine wpList_app1 rfl _ _ 23 rfl w3.heap.size 3 i0 (.int .i64 0) 1 8 Tryd.underlying23 hi hz0 hz1 hz2 rfl (by decide) _ _ _ rfl hown _ 1 1 [.int .i64 (d : Int)] 3 rfl rfl rfl ?c1 ?c2 ?c3 ?c4 ?_))
        case c1 => simp [Value.oneCell']
        case c2 => unfold maxLen; omega
        case c3 => omega
        case c4 => exact hB6
        intro v7 w7 ho7 hk7 hb7 _ _
        obtain ⟨g7, c7, rfl, _⟩ := ho7.form (Nat.succ_pos _)
        have v0 := hk7.cellO u0 (fun e => by have h1 := HSP.out _ e; have h2 := HW3.out; simp only at h1; omega)
        have v1 := hk7.cellO hcd (fun e => (HSP.out _ e).1 rfl)
        have HBW7 := Lib.hid (HBW6.out.kept hk7 (fun e => (HSP.out _ e).2.1 rfl))
        have HKP7 : Hid (Keeps (fun q => q = w.heap.size + 1) w3 w7) := Lib.hid (HKP6.out.trans hk7 fun q hq e => absurd (HSP.out q e).2.2 (Nat.not_le.2 hq))
        have HO7 := Lib.hid ho7
        have HKE7 := Lib.hid fun W (hk : Keeps (fun _ => False) w7 W) => HKE.out W (HKP7.out.trans' (hk.mono fun _ _ q => q.elim))
        have fz := HBW7.out.free 0
        have hb7' := HBW7.out.lt
        have HSC : Hid (∀ W u, Keeps (fun _ => False) w7 W → (W.setCell ⟨w.heap.size + 1, 0, none⟩ u).cell? ⟨w.heap.size, 0, none⟩ = some (.pointer (some ⟨p, 0, none⟩)) ∧ (W.setCell ⟨w.heap.size + 1, 0, none⟩ u).cell? ⟨b5, o5 + i, none⟩ = some (.int .i64 (d : Int))) := Lib.hid fun W u hk => by
          have hs : Keeps (fun q => q = w.heap.size + 1) W (W.setCell ⟨w.heap.size + 1, 0, none⟩ u) := (Keeps.refl (fun q => q = w.heap.size + 1) W).setIn _ 0 _ rfl
          have h1 := HFS.out b5 o5 rfl
          have h2 := HW3.out
          have h3 := HSZ5.out
          exact ⟨hs.cellO (hk.cellF v0) (by simp only; omega), hs.cellO (hk.cellF v1) (by simp only; omega)⟩
        clear u0 u1 hcd ho7 hk7 hb7 hown HBW6 HKP6 HSP HR6 HK56 HFS HKE
        unfold RetPost tptr at HKE7
        have HN : Hid (∀ W, Keeps (fun _ => False) w7 W → RdAt w3 L f (w.heap.size + 1) R (m + 1) k (.slice (some ⟨g7, 0, none⟩) (m + 1) c7) (W.setCell ⟨w.heap.size + 1, 0, none⟩ (.int .i64 (y : Int)))) := Lib.hid fun W hk => by
          have hs : Keeps (fun q => q = w.heap.size + 1) W (W.setCell ⟨w.heap.size + 1, 0, none⟩ (.int .i64 (y : Int))) := (Keeps.refl (fun q => q = w.heap.size + 1) W).setIn _ 0 _ rfl
          refine ⟨⟨y, l ++ [d], hdl, HDF.out, HLR2.out, by rw [List.length_append, ← HML.out]; rfl, ?_, ?_⟩, (HKP7.out.trans' (hk.mono fun _ _ q => q.elim)).trans' hs⟩
          · rw [nats_append]
            exact ownsRow_kept (ownsRow_kept HO7.out hk fun _ _ q => q) hs fun q e1 e2 => by
              have h1 := (HO7.out.lt q e1).1
              have h2 := HW3.out
              omega
          · have := (HBW7.out.kept hk id).set 0 (.int .i64 (y : Int))
            simpa using this
        clear HO7 HKP7 HLR2 HDF
        go_upto_region 15 with fail
        have hK : Keeps (fun _ => False) w7 w7.drew := (Keeps.refl _ _).drew
        go_region_held3 (fun w' => w'.cell? ⟨w.heap.size, 0, none⟩ = some (.pointer (some ⟨p, 0, none⟩)) ∧ w'.cell? ⟨b5, o5 + i, none⟩ = some (.int .i64 (d : Int)))
          (first | exact ⟨hK.cellF v0, hK.cellF v1⟩ | exact HSC.out _ _ hK | fail)
          (first
            | (go_at_call 62; with_reducible refine (HKE7.out _ hK).mono ?_; rintro e8 w8 ⟨rfl, hk8⟩; have hK : Keeps (fun _ => False) w7 w8 := hK.trans' hk8; have gc0 := (HBW7.out.kept hK id).cell 0; have gf0 := (HBW7.out.kept hK id).free 0; simp only [List.getElem?_toArray, List.getElem?_cons_zero] at gc0)
            | fail)
        all_goals
          have HN2 := Lib.hid (HN.out _ hK)
          go_wp2_with fail
          go_roundg k
          case measure => omega
          case rel => exact ⟨m + 1, _, c7, rfl, HN2⟩
end
end Go.Proofs.YtdplphhlclhmfaaDoor
