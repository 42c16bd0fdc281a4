/- turn: the small readers. turn: Check, Has, dart, Next, Prev, Origin, Degree, Sizes. turn: Has, dart, Next, Prev, Origin, Degree, Sizes. -/
import Derived.Test.YtdplphhlclhmfaaDoorKa
namespace Go.Proofs.YtdplphhlclhmfaaDoor
open Go Go.RowKit
set_option linter.unusedVariables false
set_option linter.unusedSimpArgs false
set_option maxRecDepth 100000

def RetPost (v : Value) (w : World) (e : Ending) (w' : World) : Prop := e = .returned v ∧ Keeps (fun _ => False) w w'
/-- A corner's value. -/
def cval (v b : Int) : Value := .agg #[.int .i64 v, .int .i64 b]
def tptr (p : Nat) : Value := .pointer (some ⟨p, 0, none⟩)
theorem half_val (E : Nat) (h : E ≤ 1048576) : wrap64 (((2 * E : Nat) : Int).tdiv 2) = E := by
  rw [show (2 : Int) = ((2 : Nat) : Int) from rfl, ← Int.ofNat_tdiv]
  unfold wrap64; omega
section
variable {w : World} {own : Nat → Prop} {p E : Nat} {L : List (List Nat)}
def vErr (L : List (List Nat)) (v : Int) : Nat := if v < 0 ∨ (L.length : Int) ≤ v then 12 else 0
theorem tvertex (h : Tu w own p E L) (v : Int) : Calls Tryd.prog 87 #[tptr p, .int .i64 v] w fun e w' => e = .returned (errVal (vErr L v)) ∧ w = w' := by
  obtain ⟨⟨g1, g2, g3, D, ls, mn, hx, rfl, hr⟩, _⟩ := h
  have c1 := hx.c1
  clear hx hr
  unfold tptr
  have hcs : v < 0 ∨ (0 ≤ v ∧ (L.length : Int) ≤ v) ∨ (0 ≤ v ∧ v < L.length) := by omega
  have he : vErr L v = if v < 0 ∨ (L.length : Int) ≤ v then 12 else 0 := rfl
  rcases hcs with h1 | ⟨h0, h1⟩ | ⟨h0, h1⟩
  · rw [he, if_pos (.inl h1)]
    clear he
    go_enter Tryd.func87, Tryd.ntmps87
    go_wp2_with fail
    go_ret
    exact ⟨rfl, rfl⟩
  · rw [he, if_pos (.inr h1)]
    clear he
    go_enter Tryd.func87, Tryd.ntmps87
    go_wp2_with fail
    go_ret
    exact ⟨rfl, rfl⟩
  · rw [he, if_neg (by omega)]
    clear he
    go_enter Tryd.func87, Tryd.ntmps87
    go_wp2_with fail
    go_ret
    exact ⟨rfl, rfl⟩
def eErr (E : Nat) (e : Int) : Nat := if e < 0 ∨ (E : Int) ≤ e then 12 else 0
theorem tedge (h : Tu w own p E L) (x : Int) : Calls Tryd.prog 49 #[tptr p, .int .i64 x] w fun e w' => e = .returned (errVal (eErr E x)) ∧ w = w' := by
  have hE := h.e2
  obtain ⟨⟨g1, g2, g3, D, ls, mn, hx, rfl, hr⟩, _⟩ := h
  have c0 := hx.c0
  clear hx hr
  unfold tptr
  have hcs : x < 0 ∨ (0 ≤ x ∧ (E : Int) ≤ x) ∨ (0 ≤ x ∧ x < E) := by omega
  have he : eErr E x = if x < 0 ∨ (E : Int) ≤ x then 12 else 0 := rfl
  have hd := half_val E hE
  rcases hcs with h1 | ⟨h0, h1⟩ | ⟨h0, h1⟩
  · rw [he, if_pos (.inl h1)]
    clear he
    go_enter Tryd.func49, Tryd.ntmps49
    go_wp2_with fail
    go_ret
    exact ⟨rfl, rfl⟩
  · rw [he, if_pos (.inr h1)]
    clear he
    go_enter Tryd.func49, Tryd.ntmps49
    go_wp2_with fail
    go_ret
    exact ⟨rfl, rfl⟩
  · rw [he, if_neg (by omega)]
    clear he
    go_enter Tryd.func49, Tryd.ntmps49
    go_wp2_with fail
    go_ret
    exact ⟨rfl, rfl⟩
end
section
variable {E : Nat} {L : List (List Nat)} {D : List Dart} {ls mn : List Int}
/-- Each dart: it stands somewhere, or nowhere. -/
theorem Rel.each (h : Rel E L D ls mn) (d : Nat) (hd : d < 2 * E) :
    (∃ (v : Nat) (l : List Nat) (i : Nat), L[v]? = some l ∧ i < l.length ∧ l.getD i 0 = d ∧ D[d]? = some ((v : Int), ((l.getD (sc l.length i) 0 : Nat) : Int), ((l.getD (pc l.length i) 0 : Nat) : Int))) ∨
      (¬ Stands L d ∧ ∃ x y, D[d]? = some (-1, x, y)) := by
  by_cases hs : Stands L d
  · obtain ⟨v, l, hv, hm⟩ := stands_iff.1 hs
    obtain ⟨i, hi, rfl⟩ := mem_getD hm
    exact .inl ⟨v, l, i, hv, hi, rfl, h.cyc v l hv i hi⟩
  · exact .inr ⟨hs, h.off d hd hs⟩
theorem Rel.origin (h : Rel E L D ls mn) (d : Nat) (hd : d < 2 * E) : ∃ o x y, D[d]? = some (o, x, y) ∧ (o = -1 ↔ ¬ Stands L d) ∧ -1 ≤ o ∧ o < L.length ∧ ∀ (v : Nat) (l : List Nat), L[v]? = some l → (o = v ↔ d ∈ l) := by
  rcases h.each d hd with ⟨v, l, i, hv, hi, rfl, hD⟩ | ⟨hn, x, y, hD⟩
  · have hvl := (List.getElem?_eq_some_iff.1 hv).1
    refine ⟨_, _, _, hD, ⟨fun e => by omega, fun e => absurd (stands_at hv (getD_mem hi)) e⟩, by omega, by omega, fun u m hu => ⟨fun e => ?_, fun hm => ?_⟩⟩
    · obtain rfl : v = u := by omega
      rw [hv] at hu; cases hu
      exact getD_mem hi
    · rw [h.wf.one hv hu (getD_mem hi) hm]
  · refine ⟨_, _, _, hD, ⟨fun _ => hn, fun _ => rfl⟩, by omega, by omega, fun u m hu => ⟨fun e => by omega, fun hm => absurd (stands_at hu hm) hn⟩⟩
end
section
variable {w : World} {own : Nat → Prop} {p E : Nat} {L : List (List Nat)}
theorem errVal_pos {k : Nat} (h : k ≠ 0) : errVal k = .iface 87 (.int .i64 k) := by unfold errVal; rw [if_neg h]; rfl
theorem errVal_zero : errVal 0 = .nilIface := rfl
theorem tcheck (h : Tu w own p E L) (v b : Int) : Calls Tryd.prog 53 #[tptr p, cval v b] w (RetPost (errVal (chkErr L v b)) w) := by
  have hV := h.v2
  have hE := h.e2
  have hv := Lib.hid (fun (W : World) (hk : Keeps (fun _ => False) w W) => tvertex (h.keep hk) v)
  obtain ⟨⟨g1, g2, g3, D, ls, mn, hx, rfl, hr⟩, _⟩ := h
  unfold tptr cval
  unfold RetPost
  by_cases hr1 : v < 0 ∨ (L.length : Int) ≤ v
  · have he : chkErr L v b = 12 := by unfold chkErr; rw [if_pos hr1]
    have hev : vErr L v = 12 := by unfold vErr; rw [if_pos hr1]
    rw [he]
    rw [hev] at hv
    clear hx hr he hev
    unfold tptr errVal errno at hv
    go_enter Tryd.func53, Tryd.ntmps53
    go_wp2_with fail
    refine (hv.out _ ((Keeps.refl _ _).alloc _)).mono ?_
    rintro e w1 ⟨rfl, rfl⟩
    go_wp2_with fail
    go_ret
    exact ⟨rfl, (Keeps.refl _ _).alloc _⟩
  · obtain ⟨n, rfl⟩ := Int.eq_ofNat_of_zero_le (show 0 ≤ v by omega)
    have hn : n < L.length := by omega
    obtain ⟨l, hl⟩ : ∃ l, L[n]? = some l := ⟨_, List.getElem?_eq_getElem hn⟩
    have hev : vErr L n = 0 := by unfold vErr; rw [if_neg hr1]
    have he : chkErr L n b = if b = -1 ∧ l = [] then 0 else if b < 0 ∨ b.toNat ∉ l then 13 else 0 := by
      unfold chkErr; rw [if_neg hr1, Int.toNat_natCast, List.getD_eq_getElem?_getD, hl]; rfl
    rw [he]
    rw [hev] at hv
    have hm := hx.mny (hr.many n l hl)
    have c0 := hx.c0
    have c2 := hx.c2
    clear he hev
    have hll : l.length ≤ 2 * E := by
      have h1 : l.length ≤ (List.range (2 * E)).length := by
        refine List.Nodup.length_le_of_subset (hr.wf.nd hl) (fun x hx => List.mem_range.2 (hr.wf.bd hl hx))
      simpa using h1
    have hpb := hx.head.lt
    have hpb1 := hx.b1.lt
    have hpb3 := hx.b3.lt
    have hl0 : ((l.length : Int) == 0) = decide (l = []) := by
      cases l with
      | nil => rfl
      | cons a l => simp; omega
    unfold tptr errVal at hv
    simp only [if_true] at hv
    by_cases hb1 : b = -1
    · subst hb1
      by_cases hnil : l = []
      · rw [if_pos ⟨rfl, hnil⟩]
        subst hnil
        clear hx hr hl0
        go_enter Tryd.func53, Tryd.ntmps53
        go_wp2_with fail
        refine (hv.out _ ((Keeps.refl _ _).alloc _)).mono ?_
        rintro e w1 ⟨rfl, rfl⟩
        go_wp2_with fail
        go_quiet (fail)
        go_wp2_with fail
        go_ret
        first | exact ⟨rfl, ((Keeps.refl _ _).alloc _).drewN _⟩ | exact ⟨rfl, (((Keeps.refl _ _).alloc _).drewN _).drewN _⟩
      · rw [if_neg (fun e => hnil e.2), if_pos (.inl (by decide))]
        have hl1 : ((l.length : Int) == 0) = false := by rw [hl0]; exact decide_eq_false hnil
        clear hx hr hl0
        go_enter Tryd.func53, Tryd.ntmps53
        go_wp2_with fail
        refine (hv.out _ ((Keeps.refl _ _).alloc _)).mono ?_
        rintro e w1 ⟨rfl, rfl⟩
        go_wp2_with fail
        go_quiet (fail)
        go_wp2_with fail
        go_quiet (fail)
        go_wp2_with fail
        go_ret
        first | exact ⟨rfl, ((Keeps.refl _ _).alloc _).drewN _⟩ | exact ⟨rfl, (((Keeps.refl _ _).alloc _).drewN _).drewN _⟩
    · rw [if_neg (fun e => hb1 e.1)]
      have hb1' : (b == -1) = false := by rw [beq_eq_false_iff_ne]; exact hb1
      by_cases hb0 : b < 0
      · rw [if_pos (.inl hb0)]
        clear hx hr hl0
        go_enter Tryd.func53, Tryd.ntmps53
        go_wp2_with fail
        refine (hv.out _ ((Keeps.refl _ _).alloc _)).mono ?_
        rintro e w1 ⟨rfl, rfl⟩
        go_wp2_with fail
        go_quiet (fail)
        go_wp2_with fail
        go_quiet (fail)
        go_wp2_with fail
        go_ret
        first | exact ⟨rfl, ((Keeps.refl _ _).alloc _).drewN _⟩ | exact ⟨rfl, (((Keeps.refl _ _).alloc _).drewN _).drewN _⟩
      · obtain ⟨d, rfl⟩ := Int.eq_ofNat_of_zero_le (show 0 ≤ b by omega)
        rw [Int.toNat_natCast]
        have hd0 : decide ((d : Int) < 0) = false := by simp
        by_cases hdE : d < 2 * E
        · have hd2 : decide (2 * (E : Int) ≤ (d : Int)) = false := by simp; omega
          obtain ⟨o, x, y, hD, h1, h2, h3, h4⟩ := hr.origin d hdE
          have hc := (hx.dart hD).1
          have h5 := h4 n l hl
          simp only at hc
          by_cases hmem : d ∈ l
          · rw [if_neg (by rintro (h | h); · exact hb0 h
                           · exact h hmem)]
            obtain rfl : o = n := h5.2 hmem
            clear hx hr hl0 h1 h4 h5 hD
            go_enter Tryd.func53, Tryd.ntmps53
            go_wp2_with fail
            refine (hv.out _ ((Keeps.refl _ _).alloc _)).mono ?_
            rintro e w1 ⟨rfl, rfl⟩
            go_wp2_with fail
            go_quiet (fail)
            go_wp2_with fail
            go_quiet (fail)
            go_wp2_with fail
            go_ret
            first | exact ⟨rfl, ((Keeps.refl _ _).alloc _).drewN _⟩ | exact ⟨rfl, (((Keeps.refl _ _).alloc _).drewN _).drewN _⟩
          · rw [if_pos (.inr hmem)]
            have ho : ¬ o = n := fun e => hmem (h5.1 e)
            have hob : (o != (n : Int)) = true := by rw [bne_iff_ne]; exact ho
            have hob2 : (o == (n : Int)) = false := by rw [beq_eq_false_iff_ne]; exact ho
            clear hx hr hl0 h1 h4 h5 hD
            go_enter Tryd.func53, Tryd.ntmps53
            go_wp2_with fail
            refine (hv.out _ ((Keeps.refl _ _).alloc _)).mono ?_
            rintro e w1 ⟨rfl, rfl⟩
            go_wp2_with fail
            go_quiet (fail)
            go_wp2_with fail
            go_quiet (fail)
            go_wp2_with fail
            go_ret
            first | exact ⟨rfl, ((Keeps.refl _ _).alloc _).drewN _⟩ | exact ⟨rfl, (((Keeps.refl _ _).alloc _).drewN _).drewN _⟩
        · have hd2 : decide (2 * (E : Int) ≤ (d : Int)) = true := by simp; omega
          have hmem : d ∉ l := fun hm => hdE (hr.wf.bd hl hm)
          rw [if_pos (.inr hmem)]
          clear hx hr hl0
          go_enter Tryd.func53, Tryd.ntmps53
          go_wp2_with fail
          refine (hv.out _ ((Keeps.refl _ _).alloc _)).mono ?_
          rintro e w1 ⟨rfl, rfl⟩
          go_wp2_with fail
          go_quiet (fail)
          go_wp2_with fail
          go_quiet (fail)
          go_wp2_with fail
          go_ret
          first | exact ⟨rfl, ((Keeps.refl _ _).alloc _).drewN _⟩ | exact ⟨rfl, (((Keeps.refl _ _).alloc _).drewN _).drewN _⟩
end
/-- A dart's value. -/
def dval (o n p : Int) : Value := .agg #[.int .i32 o, .int .i32 n, .int .i32 p]
section
variable {w : World} {own : Nat → Prop} {p E : Nat} {L : List (List Nat)}
/-- What is told of a dart, where it stands. -/
def DPost (L : List (List Nat)) (k : Nat) (d : Int) (w : World) (e : Ending) (w' : World) : Prop :=
  e = .returned (.tuple #[if k = 0 then dval (vtx L d.toNat) (nxt L d.toNat) (prv L d.toNat) else dval 0 0 0, errVal k]) ∧ Keeps (fun _ => False) w w'
theorem tdart (h : Tu w own p E L) (d : Int) : Calls Tryd.prog 69 #[tptr p, .int .i64 d] w (DPost L (dErr E L d) d w) := by
  have hV := h.v2
  have hE := h.e2
  obtain ⟨⟨g1, g2, g3, D, ls, mn, hx, rfl, hr⟩, _⟩ := h
  unfold tptr
  have c0 := hx.c0
  have hpb := hx.head.lt
  have hpb1 := hx.b1.lt
  by_cases h1 : d < 0 ∨ (2 * E : Int) ≤ d
  · have he : dErr E L d = 12 := by unfold dErr; rw [if_pos h1]
    rw [he]
    unfold DPost
    rw [if_neg (by decide)]
    clear hx hr he
    rcases (show d < 0 ∨ 0 ≤ d ∧ (2 * E : Int) ≤ d by omega) with h2 | ⟨h2, h3⟩
    · have hd0 : decide (d < 0) = true := by simp; exact h2
      go_enter Tryd.func69, Tryd.ntmps69
      go_wp2_with fail
      refine bodyPost_ret (v := .tuple #[dval 0 0 0, errno 12]) (by simp [results, Tryd.results69, go_sem, dval, errno]) rfl ?_
      exact ⟨by first | rfl | simp [errno], by first | exact (Keeps.refl _ _).alloc _ | exact ((Keeps.refl _ _).alloc _).drewN _⟩
    · have hd0 : decide (d < 0) = false := by simp; exact h2
      have hd1 : decide (2 * (E : Int) ≤ d) = true := by simp; exact h3
      go_enter Tryd.func69, Tryd.ntmps69
      go_wp2_with fail
      refine bodyPost_ret (v := .tuple #[dval 0 0 0, errno 12]) (by simp [results, Tryd.results69, go_sem, dval, errno]) rfl ?_
      exact ⟨by first | rfl | simp [errno], by first | exact (Keeps.refl _ _).alloc _ | exact ((Keeps.refl _ _).alloc _).drewN _⟩
  · obtain ⟨d, rfl⟩ := Int.eq_ofNat_of_zero_le (show 0 ≤ d by omega)
    have hd0 : decide ((d : Int) < 0) = false := by simp
    have hdE : d < 2 * E := by omega
    have hd1 : decide (2 * (E : Int) ≤ (d : Int)) = false := by simp; omega
    rcases hr.each d hdE with ⟨v, l, i, hv, hi, rfl, hD⟩ | ⟨hn, x, y, hD⟩
    · have hst := stands_at hv (getD_mem hi)
      have he : dErr E L ((l.getD i 0 : Nat) : Int) = 0 := dErr_stands hr.wf hst
      rw [he]
      unfold DPost
      rw [if_pos rfl, Int.toNat_natCast]
      obtain ⟨e1, e2, e3, e4⟩ := hr.wf.at_ hv hi
      rw [e1, e3, e4]
      have hvl := (List.getElem?_eq_some_iff.1 hv).1
      obtain ⟨q0, q1, q2⟩ := hx.dart hD
      simp only at q0 q1 q2
      have hdE' : ((l.getD i 0 : Nat) : Int) < 2 * (E : Int) := by omega
      clear hx hr he e1 e2 e3 e4 hD hst
      generalize l.getD (sc l.length i) 0 = a1 at *
      generalize l.getD (pc l.length i) 0 = a2 at *
      generalize l.getD i 0 = d at *
      clear hv hi
      have hv0 : (((v : Int)) == -1) = false := by rw [beq_eq_false_iff_ne]; omega
      go_enter Tryd.func69, Tryd.ntmps69
      go_wp2_with fail
      refine bodyPost_ret (v := .tuple #[dval v a1 a2, .nilIface]) (by simp [results, Tryd.results69, go_sem, dval]) rfl ?_
      exact ⟨rfl, by
        repeat (first | exact Keeps.refl _ _ | refine Keeps.alloc ?_ _ | refine Keeps.drewN ?_ _ | (refine Keeps.setCell ?_ _ _ (fun h => absurd h (by simp))))⟩
    · have he : dErr E L d = 13 := dErr_none hdE hn
      rw [he]
      unfold DPost
      rw [if_neg (by decide)]
      obtain ⟨q0, q1, q2⟩ := hx.dart hD
      simp only at q0 q1 q2
      have hdE' : (d : Int) < 2 * (E : Int) := by omega
      clear hx hr he hD
      go_enter Tryd.func69, Tryd.ntmps69
      go_wp2_with fail
      refine bodyPost_ret (v := .tuple #[dval 0 0 0, errno 13]) (by simp [results, Tryd.results69, go_sem, dval, errno]) rfl ?_
      exact ⟨by first | rfl | simp [errno], by first | exact (Keeps.refl _ _).alloc _ | exact ((Keeps.refl _ _).alloc _).drewN _⟩
theorem wf_small (h : WF E L) (hE : E ≤ 1048576) (hV : L.length ≤ 1048576) {d : Nat} (hd : Stands L d) : vtx L d < 1048576 ∧ nxt L d < 2097152 ∧ prv L d < 2097152 := by
  have h1 := h.vtx_lt hd
  have h2 := h.bdS (h.nxt_stands hd)
  have h3 := h.bdS (h.prv_stands hd)
  omega
theorem dErr_zero {E : Nat} {L : List (List Nat)} {d : Int} (h : dErr E L d = 0) : ∃ n : Nat, d = n ∧ Stands L n := by
  unfold dErr at h
  split at h
  · simp at h
  · split at h
    · exact ⟨d.toNat, by omega, by assumption⟩
    · simp at h
theorem tnext (h : Tu w own p E L) (d : Int) : Calls Tryd.prog 104 #[tptr p, .int .i64 d] w (RetPost (.tuple #[.int .i64 (if dErr E L d = 0 then (nxt L d.toNat : Int) else 0), errVal (dErr E L d)]) w) := by
  have hd := Lib.hid (tdart h d)
  have hV := h.v2
  have hE := h.e2
  have hwf := h.wf
  clear h
  unfold RetPost tptr at *
  by_cases he : dErr E L d = 0
  · rw [he] at hd ⊢
    unfold DPost at hd
    obtain ⟨n, rfl, hn⟩ := dErr_zero he
    simp only [if_true, Int.toNat_natCast] at hd ⊢
    obtain ⟨b1, b2, b3⟩ := wf_small hwf hE hV hn
    unfold dval at hd
    generalize vtx L n = a1 at *
    generalize nxt L n = a2 at *
    generalize prv L n = a3 at *
    clear he hn hwf
    go_enter Tryd.func104, Tryd.ntmps104
    go_wp2_with fail
    refine (hd.out).mono ?_
    rintro e w1 ⟨rfl, hk⟩
    go_wp2_with fail
    go_ret2
    exact ⟨rfl, hk.alloc _⟩
  · rw [if_neg he]
    unfold DPost at hd
    rw [if_neg he, errVal_pos he] at hd
    rw [errVal_pos he]
    unfold dval at hd
    generalize ((dErr E L d : Nat) : Int) = k at *
    clear he hwf
    go_enter Tryd.func104, Tryd.ntmps104
    go_wp2_with fail
    refine (hd.out).mono ?_
    rintro e w1 ⟨rfl, hk⟩
    go_wp2_with fail
    go_ret2
    exact ⟨rfl, hk.alloc _⟩
theorem torigin (h : Tu w own p E L) (d : Int) : Calls Tryd.prog 38 #[tptr p, .int .i64 d] w (RetPost (.tuple #[.int .i64 (if dErr E L d = 0 then (vtx L d.toNat : Int) else 0), errVal (dErr E L d)]) w) := by
  have hd := Lib.hid (tdart h d)
  have hV := h.v2
  have hE := h.e2
  have hwf := h.wf
  clear h
  unfold RetPost tptr at *
  by_cases he : dErr E L d = 0
  · rw [he] at hd ⊢
    unfold DPost at hd
    obtain ⟨n, rfl, hn⟩ := dErr_zero he
    simp only [if_true, Int.toNat_natCast] at hd ⊢
    obtain ⟨b1, b2, b3⟩ := wf_small hwf hE hV hn
    unfold dval at hd
    generalize vtx L n = a1 at *
    generalize nxt L n = a2 at *
    generalize prv L n = a3 at *
    clear he hn hwf
    go_enter Tryd.func38, Tryd.ntmps38
    go_wp2_with fail
    refine (hd.out).mono ?_
    rintro e w1 ⟨rfl, hk⟩
    go_wp2_with fail
    go_ret2
    exact ⟨rfl, hk.alloc _⟩
  · rw [if_neg he]
    unfold DPost at hd
    rw [if_neg he, errVal_pos he] at hd
    rw [errVal_pos he]
    unfold dval at hd
    generalize ((dErr E L d : Nat) : Int) = k at *
    clear he hwf
    go_enter Tryd.func38, Tryd.ntmps38
    go_wp2_with fail
    refine (hd.out).mono ?_
    rintro e w1 ⟨rfl, hk⟩
    go_wp2_with fail
    go_ret2
    exact ⟨rfl, hk.alloc _⟩
theorem tdegree (h : Tu w own p E L) (v : Int) : Calls Tryd.prog 72 #[tptr p, .int .i64 v] w (RetPost (.tuple #[.int .i64 (if vErr L v = 0 then ((L.getD v.toNat []).length : Int) else 0), errVal (vErr L v)]) w) := by
  have hV := h.v2
  have hE := h.e2
  have hv := Lib.hid (tvertex h v)
  obtain ⟨⟨g1, g2, g3, D, ls, mn, hx, rfl, hr⟩, _⟩ := h
  unfold tptr RetPost at *
  by_cases hr1 : v < 0 ∨ (L.length : Int) ≤ v
  · have hev : vErr L v = 12 := by unfold vErr; rw [if_pos hr1]
    rw [hev] at hv ⊢
    rw [if_neg (by decide)]
    clear hx hr hev
    unfold errVal errno at *
    go_enter Tryd.func72, Tryd.ntmps72
    go_wp2_with fail
    refine (hv.out).mono ?_
    rintro e w1 ⟨rfl, rfl⟩
    go_wp2_with fail
    go_ret2
    exact ⟨rfl, Keeps.refl _ _⟩
  · obtain ⟨n, rfl⟩ := Int.eq_ofNat_of_zero_le (show 0 ≤ v by omega)
    have hn : n < L.length := by omega
    obtain ⟨l, hl⟩ : ∃ l, L[n]? = some l := ⟨_, List.getElem?_eq_getElem hn⟩
    have hev : vErr L n = 0 := by unfold vErr; rw [if_neg hr1]
    rw [hev] at hv ⊢
    rw [if_pos rfl, Int.toNat_natCast, getD_some hl]
    have hm := hx.mny (hr.many n l hl)
    have c2 := hx.c2
    have hll : l.length ≤ 2 * E := by
      have h1 : l.length ≤ (List.range (2 * E)).length := by
        refine List.Nodup.length_le_of_subset (hr.wf.nd hl) (fun x hx => List.mem_range.2 (hr.wf.bd hl hx))
      simpa using h1
    clear hx hr hev hl
    unfold errVal at *
    simp only [if_true] at hv ⊢
    go_enter Tryd.func72, Tryd.ntmps72
    go_wp2_with fail
    refine (hv.out).mono ?_
    rintro e w1 ⟨rfl, rfl⟩
    go_wp2_with fail
    go_ret2
    exact ⟨rfl, Keeps.refl _ _⟩
theorem thas (h : Tu w own p E L) (x : Int) : Calls Tryd.prog 22 #[tptr p, .int .i64 x] w (RetPost (.bool (decide (0 ≤ x ∧ x < E ∧ Stands L (2 * x.toNat)))) w) := by
  have hE := h.e2
  have hV := h.v2
  have hv := Lib.hid (fun q => tedge (h.keep ((Keeps.refl _ w).drewN q)) x)
  obtain ⟨⟨g1, g2, g3, D, ls, mn, hx, rfl, hr⟩, _⟩ := h
  unfold tptr RetPost at *
  by_cases hr1 : x < 0 ∨ (E : Int) ≤ x
  · have hev : eErr E x = 12 := by unfold eErr; rw [if_pos hr1]
    have hd : decide (0 ≤ x ∧ x < E ∧ Stands L (2 * x.toNat)) = false := decide_eq_false (by omega)
    rw [hev] at hv
    rw [hd]
    clear hx hr hev hd
    unfold errVal errno at *
    simp only [if_neg (show ¬ (12 : Nat) = 0 by decide)] at hv
    go_enter Tryd.func22, Tryd.ntmps22
    go_wp2_with fail
    refine (hv.out 0).mono ?_
    rintro e w1 ⟨rfl, rfl⟩
    go_wp2_with fail
    go_ret
    exact ⟨rfl, Keeps.refl _ _⟩
  · obtain ⟨n, rfl⟩ := Int.eq_ofNat_of_zero_le (show 0 ≤ x by omega)
    have hn : n < E := by omega
    have hev : eErr E n = 0 := by unfold eErr; rw [if_neg hr1]
    obtain ⟨o, a, b, hD, h1, h2, h3, h4⟩ := hr.origin (2 * n) (by omega)
    have hc := (hx.dart hD).1
    have c0 := hx.c0
    simp only at hc
    have hd : decide (0 ≤ (n : Int) ∧ (n : Int) < E ∧ Stands L (2 * (n : Int).toNat)) = (o != -1) := by
      rw [Bool.eq_iff_iff, decide_eq_true_eq, bne_iff_ne, ne_eq, h1, Int.toNat_natCast]
      exact ⟨fun e => fun q => q e.2.2, fun e => ⟨by omega, by omega, Classical.not_not.1 e⟩⟩
    rw [hev] at hv
    rw [hd]
    clear hx hr hev hd h1 h4 hD
    unfold errVal at *
    simp only [if_true] at hv
    go_enter Tryd.func22, Tryd.ntmps22
    go_wp2_with fail
    refine (hv.out 0).mono ?_
    rintro e w1 ⟨rfl, rfl⟩
    go_wp2_with fail
    go_ret
    exact ⟨rfl, Keeps.refl _ _⟩
theorem tsizes (h : Tu w own p E L) : Calls Tryd.prog 56 #[tptr p] w (RetPost (.tuple #[.int .i64 (L.length : Nat), .int .i64 (E : Nat)]) w) := by
  have hV := h.v2
  have hE := h.e2
  obtain ⟨⟨g1, g2, g3, D, ls, mn, hx, rfl, hr⟩, _⟩ := h
  have c0 := hx.c0
  have c1 := hx.c1
  have hd := half_val E hE
  clear hx hr
  unfold tptr RetPost
  go_enter Tryd.func56, Tryd.ntmps56
  go_wp2_with fail
  go_quiet (fail)
  go_wp2_with fail
  go_ret2
  exact ⟨by first | rfl | (simp; omega), (Keeps.refl _ _).drewN _⟩
end
end Go.Proofs.YtdplphhlclhmfaaDoor
