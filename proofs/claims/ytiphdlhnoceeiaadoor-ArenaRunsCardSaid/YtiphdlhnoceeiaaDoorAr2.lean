/- arena: Drop. -/
import Derived.Test.YtiphdlhnoceeiaaDoorAr1
namespace Go.Proofs.YtiphdlhnoceeiaaDoor
open Go Go.RowKit
set_option linter.unusedVariables false
set_option linter.unusedSimpArgs false
set_option maxRecDepth 100000

section
variable {w : World} {own : Nat → Prop} {p n : Nat} {L : List (Int × Int)}

/-- The places behind Drop. -/
def dropL (n : Nat) (L : List (Int × Int)) (age : Int) (a : Nat) : List (Int × Int) :=
  if findErr n L age a = 0 then L.set a (age, if age = 4294967295 then 2 else 0) else L
def DropPost (w : World) (own : Nat → Prop) (p n : Nat) (L : List (Int × Int)) (age : Int) (a : Nat) (e : Ending) (w' : World) : Prop :=
  e = .returned (errVal (findErr n L age a)) ∧ Ar w' own p n (dropL n L age a) ∧ Keeps own w w'

theorem find_zero {n : Nat} {L : List (Int × Int)} {age : Int} {a : Nat} (h : findErr n L age a = 0) : ∃ ha : a < L.length, L[a] = (age, 1) := by
  unfold findErr at h
  split at h
  · exact absurd h (by decide)
  · split at h
    · rename_i h2
      obtain ⟨h3, h4⟩ := List.getElem?_eq_some_iff.1 h2
      exact ⟨h3, h4⟩
    · exact absurd h (by decide)

theorem liv_pos (L : List (Int × Int)) (a : Nat) (ha : a < L.length) (h : L[a].2 = 1) : 1 ≤ liv L := by
  unfold liv
  rw [Nat.one_le_iff_ne_zero, Ne, List.countP_eq_zero]
  intro hh
  exact hh L[a] (List.getElem_mem ha) (by simp [h])

theorem Ar.dropped {w' : World} {b : Nat} {ownS : Nat → Prop} {v : Value} {age s : Int} {a : Nat} {T : Nat → Bool} (hle : L.length ≤ n) (hok : ∀ q ∈ L, OkP q) (hla : ∀ q, L.getLast? = some q → q.1 ≠ 0)
    (ha : a < L.length) (hq : L[a] = (age, 1)) (hs : s = if age = 4294967295 then 2 else 0)
    (hT : T = upd (tak L) a (s != 0)) (hx : AX w' p b n ownS v (L.set a (age, s)) T ((liv L : Nat) - 1 : Int)) : Ar w' (AX.own p ownS v) p n (L.set a (age, s)) := by
  have hs1 : s ≠ 1 := by rw [hs]; split <;> decide
  have hl := liv_set L a (age, s) ha
  rw [hq] at hl
  simp [hs1] at hl
  have ho := hok L[a] (List.getElem_mem ha)
  rw [hq] at ho
  refine ⟨⟨b, ownS, v, ?_, rfl⟩, by simpa using hle, fun q hm => ?_, fun q hm => ?_⟩
  · rw [tak_set L a _ ha, ← hT, show ((liv (L.set a (age, s)) : Nat) : Int) = (liv L : Nat) - 1 by omega]
    exact hx
  · rcases List.mem_or_eq_of_mem_set hm with hm | rfl
    · exact hok q hm
    · obtain ⟨h1, h2, h3⟩ := ho
      refine ⟨h1, h2, ?_⟩
      rw [hs]
      by_cases e : age = 4294967295
      · rw [if_pos e]; exact .inr (.inr ⟨rfl, e⟩)
      · rw [if_neg e]; exact .inl ⟨rfl, e⟩
  · rw [List.getLast?_eq_getElem?, List.length_set, List.getElem?_set] at hm
    split at hm
    · rename_i e
      simp at hm
      obtain ⟨_, rfl⟩ := hm
      have hh := hla L[a] (by rw [List.getLast?_eq_getElem?, ← e, List.getElem?_eq_getElem ha])
      rw [hq] at hh
      exact hh
    · rw [← List.getLast?_eq_getElem?] at hm
      exact hla q hm

set_option maxHeartbeats 1000000 in
theorem adrop (h : Ar w own p n L) (age : Int) (a : Nat) (ha : a ≤ 4294967295) : Calls Tryd.prog 30 #[.pointer (some ⟨p, 0, none⟩), hval age a] w (DropPost w own p n L age a) := by
  have hf := Lib.hid (afind (h.keep ((Keeps.refl _ _).alloc (.cells #[.int .u32 age, .int .u32 a] 46))) age a ha)
  have H := Lib.hid h
  by_cases he : findErr n L age a = 0
  · obtain ⟨hal, hq⟩ := find_zero he
    have HE := Lib.hid he
    have hb := h.bound
    have hle := h.le
    have hok := Lib.hid h.ok
    have hla := Lib.hid h.last
    obtain ⟨⟨b, ownS, v, h1, rfl⟩, _⟩ := h
    obtain ⟨g, c, rfl, hlc⟩ := h1.some_ (by omega)
    have H1 := Lib.hid h1
    have HQ := Lib.hid hq
    have hlv := Lib.hid (liv_pos L a hal (by rw [hq]))
    have hll := liv_le L
    have hlt := Lib.hid h1.lt
    clear h1 he hq
    unfold hval at *
    go_enter Tryd.func30, Tryd.ntmps30
    go_wp2_with fail
    refine hf.out.mono ?_
    rintro e w1 ⟨rfl, hk⟩
    have hk' := ((Keeps.refl (fun _ => False) w).alloc (.cells #[.int .u32 age, .int .u32 a] 46)).trans' hk
    have H2 := Lib.hid (H1.out.keep hk')
    have HK := Lib.hid hk'
    clear hk hk'
    rw [HE.out, show errVal 0 = Value.nilIface from rfl, if_pos rfl]
    have g1 := H2.out.c1
    have g2 := H2.out.c2
    have g3 := H2.out.c3
    have f3 := H2.out.f 3
    have hgp := H2.out.gp
    have e1 := H2.out.age a hal
    rw [HQ.out] at e1
    have ff := H2.out.fr (a * 2 + 1)
    have e2 := H2.out.is a hal
    have hlv' : IntKind.i64.wrap ((liv L : Nat) - 1 : Int) = ((liv L : Nat) - 1 : Int) := by have := hlv.out; have := H2.out.sl.bound; simp [IntKind.wrap_i64]; omega
    by_cases hmax : age = 4294967295
    · subst hmax
      go_wp2_with fail
      go_ret
      have hx := (H2.out.live ((liv L : Nat) - 1 : Int)).state a hal 2
      have hK : Keeps (AX.own p ownS (.slice (some ⟨g, 0, none⟩) L.length c)) w1 ((w1.setCell ⟨p, 3, none⟩ (.int .i64 ((liv L : Nat) - 1 : Int))).setCell ⟨g, a * 2 + 1, none⟩ (.int .i64 2)) :=
        ((Keeps.refl _ w1).setCell _ _ fun _ => .inl rfl).setCell _ _ fun _ => .inr (.inr rfl)
      have hq := HQ.out
      refine ⟨by rw [HE.out]; rfl, ?_, (HK.out.mono fun _ _ e => e.elim).trans' hK⟩
      unfold dropL
      rw [HE.out, if_pos rfl]
      refine Ar.dropped (b := b) (T := tak L) hle hok.out hla.out hal hq rfl ?_ ?_
      · rw [if_pos rfl]
        funext j
        unfold upd
        split
        · rename_i e; subst e; rw [tak_in L j hal, hq]; rfl
        · rfl
      · rw [if_pos rfl]
        rw [hq] at hx
        exact hx
    · have hmb : (age == 4294967295) = false := by rw [beq_eq_false_iff_ne]; exact hmax
      have hK : Hid (Keeps (AX.own p ownS (.slice (some ⟨g, 0, none⟩) L.length c)) w1 ((w1.setCell ⟨p, 3, none⟩ (.int .i64 ((liv L : Nat) - 1 : Int))).setCell ⟨g, a * 2 + 1, none⟩ (.int .i64 0))) :=
        ((Keeps.refl _ w1).setCell _ _ fun _ => .inl rfl).setCell _ _ fun _ => .inr (.inr rfl)
      have hx := Lib.hid ((H2.out.live ((liv L : Nat) - 1 : Int)).state a hal 0)
      have hfr := Lib.hid (free_yes hx.out.sl (a : Int) a rfl (by omega) (by rw [tak_in L a hal, HQ.out]; rfl))
      go_wp2_with fail
      refine hfr.out.mono ?_
      rintro e w3 ⟨rfl, hk3, hs3⟩
      have H3 := Lib.hid (hx.out.bits hk3 hs3)
      have HK3 := Lib.hid (hK.out.trans' (hk3.mono fun _ _ e => .inr (.inl e)))
      clear hk3 hs3
      go_wp2_with fail
      go_ret
      have hq := HQ.out
      refine ⟨by rw [HE.out]; rfl, ?_, (HK.out.mono fun _ _ e => e.elim).trans' HK3.out⟩
      unfold dropL
      rw [HE.out, if_pos rfl]
      have hx3 := H3.out
      rw [hq] at hx3
      refine Ar.dropped (b := b) (T := upd (tak L) a false) hle hok.out hla.out hal hq rfl ?_ ?_
      · rw [if_neg hmax]; rfl
      · rw [if_neg hmax]
        exact hx3
  · have hne := he
    obtain ⟨k, hk0⟩ : ∃ k, findErr n L age a = k := ⟨_, rfl⟩
    have HKE := Lib.hid hk0
    rw [hk0] at hne
    clear he hk0 h
    unfold hval at *
    go_enter Tryd.func30, Tryd.ntmps30
    go_wp2_with fail
    refine hf.out.mono ?_
    rintro e w1 ⟨rfl, hk⟩
    rw [HKE.out, if_neg hne]
    unfold errVal errno
    rw [if_neg hne]
    have HK := Lib.hid (((Keeps.refl (fun _ => False) w).alloc (.cells #[.int .u32 age, .int .u32 a] 46)).trans' hk)
    clear hk
    go_wp2_with fail
    go_ret
    refine ⟨by rw [HKE.out]; unfold errVal errno; rw [if_neg hne]; rfl, ?_, HK.out.mono fun _ _ e => e.elim⟩
    unfold dropL
    rw [HKE.out, if_neg hne]
    exact H.out.keep HK.out
end
end Go.Proofs.YtiphdlhnoceeiaaDoor
