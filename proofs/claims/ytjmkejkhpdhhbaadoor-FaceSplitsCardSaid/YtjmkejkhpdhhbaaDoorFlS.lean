/- Chapter 11's laws: lists, sure. -/
import Derived.Test.YtjmkejkhpdhhbaaDoorFcH
import Derived.Test.YtjmkejkhpdhhbaaDoorFlE
import Derived.Deep.RegionHeld3
namespace Go.Proofs.YtjmkejkhpdhhbaaDoor
open Go Go.RowKit
set_option linter.unusedVariables false
set_option linter.unusedSimpArgs false
set_option maxRecDepth 100000

/-- Lists of numbers that lie in memory. -/
def NRows (w : World) (v : Value) (Ls : List (List Nat)) : Prop :=
  ∃ us : List Value, us.length = Ls.length ∧ (∃ a c, v = .slice a Ls.length c ∧ Rd w a us) ∧ ∀ (i : Nat) (l : List Nat), Ls[i]? = some l → ∃ A C, us[i]? = some (.slice A l.length C) ∧ Rd w A (nats l)
section
variable {w w1 : World} {v : Value} {B : Nat} {Ls : List (List Nat)}
theorem NRows.keep (h : NRows w v Ls) (hk : Keeps (fun _ => False) w w1) : NRows w1 v Ls := by
  obtain ⟨us, h1, ⟨a, c, e, h2⟩, h3⟩ := h
  refine ⟨us, h1, ⟨a, c, e, h2.keep hk⟩, fun i l hl => ?_⟩
  obtain ⟨A, C, g1, g2⟩ := h3 i l hl
  exact ⟨A, C, g1, g2.keep hk⟩
theorem NRows.form (h : NRows w v Ls) : ∃ a c, v = .slice a Ls.length c := by
  obtain ⟨us, h1, ⟨a, c, e, h2⟩, h3⟩ := h
  exact ⟨a, c, e⟩
theorem NRows.at_ {a : Option Addr} {n c : Nat} (h : NRows w (.slice a n c) Ls) {i : Nat} {l : List Nat} (hl : Ls[i]? = some l) :
    ∃ b off A C, a = some ⟨b, off, none⟩ ∧ w.cell? ⟨b, off + i, none⟩ = some (.slice A l.length C) ∧ Rd w A (nats l) := by
  obtain ⟨us, h1, ⟨a', c', e, h2⟩, h3⟩ := h
  simp only [Value.slice.injEq] at e
  obtain ⟨rfl, rfl, rfl⟩ := e
  have hi := (List.getElem?_eq_some_iff.1 hl).1
  obtain ⟨A, C, g1, g2⟩ := h3 i l hl
  obtain ⟨b, off, e, hc⟩ := h2.at_ i (by omega)
  exact ⟨b, off, A, C, e, by rw [hc i (by omega), g1], g2⟩
theorem RsAt.rows (h : RsAt w B v Ls) : NRows w v Ls := by
  obtain ⟨us, h1, h2⟩ := h
  obtain ⟨a, c, e, hr, _⟩ := Rd.of_own h1
  have hlen : us.length = Ls.length := by have := h1.1; omega
  refine ⟨us, hlen, ⟨a, c, e, hr⟩, fun i l hl => ?_⟩
  obtain ⟨u, hu, a2, c2, rfl, hr2, _⟩ := h2 i l hl
  exact ⟨a2, c2, hu, hr2⟩
end
set_option maxHeartbeats 2000000 in
theorem lists11_eq (a1 a2 : Option Addr) (c1 c2 n : Nat) (Ls : List (List Nat)) (hn : n = Ls.length) (hm : n ≤ 4000000) (hrow : ∀ l ∈ Ls, l.length ≤ 4000000) (w : World) (h1 : NRows w (.slice a1 n c1) Ls) (h2 : NRows w (.slice a2 n c2) Ls) :
    Calls Tryd.prog 43 #[.slice a1 n c1, .slice a2 n c2] w (TruePost w) := by
  subst hn
  have H1 := Lib.hid h1
  have H2 := Lib.hid h2
  have HR := Lib.hid hrow
  clear h1 h2 hrow
  unfold TruePost
  go_enter Tryd.func43, Tryd.ntmps43
  go_wp2_with fail
  go_loopw [5] (fun i wr => ∃ (k : Nat), k ≤ Ls.length ∧ i = .int .i64 (k : Int) ∧ Hid (Keeps (fun _ => False) w wr)) (fun i _ => Ls.length - (intOf i).toNat)
  case atStart => exact ⟨0, Nat.zero_le _, rfl, Lib.hid (Keeps.refl _ _)⟩
  case round =>
    obtain ⟨k, hk, rfl, HK⟩ := hrel
    by_cases hlt : k < Ls.length
    · obtain ⟨l, hl⟩ : ∃ l, Ls[k]? = some l := ⟨_, List.getElem?_eq_getElem hlt⟩
      have hlb := HR.out l (List.mem_iff_getElem?.2 ⟨k, hl⟩)
      obtain ⟨b1, o1, A1, C1, rfl, q1, hr1⟩ := (H1.out.keep HK.out).at_ hl
      obtain ⟨b2, o2, A2, C2, rfl, q2, hr2⟩ := (H2.out.keep HK.out).at_ hl
      have HR1 := Lib.hid hr1
      have HR2 := Lib.hid hr2
      have HIN := Lib.hid (fun W (hk : Keeps (fun _ => False) wr W) => ints11_eq A1 A2 C1 C2 l.length l rfl (by omega) W (HR1.out.keep hk) (HR2.out.keep hk))
      unfold TruePost at HIN
      clear hr1 hr2 hl
      have hK : Keeps (fun _ => False) wr wr.drew := (Keeps.refl _ _).drew
      go_upto_region 6 with fail
      go_region_held3 (fun w' => w'.cell? ⟨b1, o1 + k, none⟩ = some (.slice A1 l.length C1) ∧ w'.cell? ⟨b2, o2 + k, none⟩ = some (.slice A2 l.length C2))
        (first | exact ⟨hK.cellF q1, hK.cellF q2⟩ | fail)
        (first
          | (go_at_call 46; with_reducible refine (HIN.out _ hK).mono ?_; rintro e5 w5 ⟨rfl, hk5⟩; have hK : Keeps (fun _ => False) wr w5 := hK.trans' hk5)
          | fail)
      all_goals
        have HK2 := Lib.hid (HK.out.trans' hK)
        go_wp2_with fail
        exact ⟨⟨k + 1, hlt, by simp, HK2⟩, by simp [intOf]; omega⟩
    · obtain rfl : k = Ls.length := by omega
      go_wp2_with fail
      go_ret
      exact ⟨rfl, HK.out⟩
theorem nats_cells {w : World} {b : Nat} {l : List Nat} {t : TypeId} (h : Blk w b (nats l).toArray t) : Rd w (some ⟨b, 0, none⟩) (nats l) := .inr ⟨b, 0, rfl, fun i _ => by rw [Nat.zero_add, h.cell, List.getElem?_toArray]⟩
theorem lit1 {w : World} {b1 b2 : Nat} {t u : TypeId} {l : List Nat} (h1 : Blk w b1 (nats l).toArray t) (h2 : Blk w b2 #[.slice (some ⟨b1, 0, none⟩) l.length l.length] u) : NRows w (.slice (some ⟨b2, 0, none⟩) 1 1) [l] := by
  refine ⟨[.slice (some ⟨b1, 0, none⟩) l.length l.length], rfl, ⟨_, _, rfl, .inr ⟨b2, 0, rfl, fun i _ => by rw [Nat.zero_add, h2.cell, List.getElem?_toArray]⟩⟩, fun i m hm => ?_⟩
  match i, hm with
  | 0, hm => cases hm; exact ⟨_, _, rfl, nats_cells h1⟩
theorem lit2 {w : World} {b1 b2 b3 : Nat} {t t2 u : TypeId} {l m : List Nat} (h1 : Blk w b1 (nats l).toArray t) (h2 : Blk w b2 (nats m).toArray t2) (h3 : Blk w b3 #[.slice (some ⟨b1, 0, none⟩) l.length l.length, .slice (some ⟨b2, 0, none⟩) m.length m.length] u) : NRows w (.slice (some ⟨b3, 0, none⟩) 2 2) [l, m] := by
  refine ⟨[.slice (some ⟨b1, 0, none⟩) l.length l.length, .slice (some ⟨b2, 0, none⟩) m.length m.length], rfl, ⟨_, _, rfl, .inr ⟨b3, 0, rfl, fun i _ => by rw [Nat.zero_add, h3.cell, List.getElem?_toArray]⟩⟩, fun i k hm => ?_⟩
  match i, hm with
  | 0, hm => cases hm; exact ⟨_, _, rfl, nats_cells h1⟩
  | 1, hm => cases hm; exact ⟨_, _, rfl, nats_cells h2⟩
set_option maxHeartbeats 4000000 in
theorem sure11 (w : World) : Calls Tryd.prog 45 #[] w (TruePost w) := by
  unfold TruePost
  go_enter Tryd.func45, Tryd.ntmps45
  go_wp2_with fail
  refine (tnew 2 2 w (by decide) (by decide) (by decide) (by decide)).mono ?_
  rintro e w1 ⟨p, own, rfl, ht, hge, hk1⟩
  have H1 := Lib.hid (And.intro ht (And.intro hge hk1))
  have hg1 := Good.new 2 2
  have hl := Lib.hid (tlay ht hg1 0 (0, -1) (1, -1))
  have e1 : layErr 2 (List.replicate 2 []) 0 (0, -1) (1, -1) = 0 := by decide
  have e2 : lay 2 (List.replicate 2 []) 0 (0, -1) (1, -1) = [[0], [1]] := by decide
  have hg2 := hg1.lay 0 (0, -1) (1, -1)
  rw [e2] at hg2
  rw [e1, e2, errVal_zero] at hl
  clear ht hge hk1 e1 e2
  unfold tptr cval TPost at *
  go_wp2_with fail
  refine hl.out.mono ?_
  rintro e w2 ⟨rfl, ht2, hk2⟩
  have H2 := Lib.hid (And.intro ht2 (H1.out.2.2.thin hk2 H1.out.2.1))
  have hr := Lib.hid (fall ht2 hg2)
  have e3 : faces [[0], [1]] 2 = [[0, 1]] := by decide
  rw [e3] at hr
  clear ht2 hk2 hl e3
  unfold tptr AllPost at *
  go_wp2_with fail
  refine hr.out.mono ?_
  rintro e w3 ⟨v, rfl, ho, hk3⟩
  obtain ⟨va, vc, hv⟩ := ho.rows.form
  have hv : v = .slice va 1 vc := hv
  subst hv
  have H3 := Lib.hid (And.intro (H2.out.1.keep hk3) (And.intro ho.rows (H2.out.2.trans' hk3)))
  clear ho hk3 hr
  have hkA : Keeps (fun _ => False) w3 ((w3.alloc (.cells #[.int .i64 0, .int .i64 1] 3)).alloc (.cells #[.slice (some ⟨w3.heap.size, 0, none⟩) 2 2] 47)) := ((Keeps.refl _ _).alloc _).alloc _
  have hnA : NRows ((w3.alloc (.cells #[.int .i64 0, .int .i64 1] 3)).alloc (.cells #[.slice (some ⟨w3.heap.size, 0, none⟩) 2 2] 47)) (.slice (some ⟨w3.heap.size + 1, 0, none⟩) 1 1) [[0, 1]] := by
    have b1 : Blk ((w3.alloc (.cells #[.int .i64 0, .int .i64 1] 3)).alloc (.cells #[.slice (some ⟨w3.heap.size, 0, none⟩) 2 2] 47)) w3.heap.size (nats [0, 1]).toArray 3 := (Blk.new _ _ _).alloc _
    have b2 : Blk ((w3.alloc (.cells #[.int .i64 0, .int .i64 1] 3)).alloc (.cells #[.slice (some ⟨w3.heap.size, 0, none⟩) 2 2] 47)) (w3.heap.size + 1) #[.slice (some ⟨w3.heap.size, 0, none⟩) 2 2] 47 := Blk.newAt _ _ _ (by simp)
    exact lit1 b1 b2
  have hli := Lib.hid (lists11_eq va (some ⟨w3.heap.size + 1, 0, none⟩) vc 1 1 [[0, 1]] rfl (by decide) (by decide) _ (H3.out.2.1.keep hkA) hnA)
  have H4 := Lib.hid (And.intro (H3.out.1.keep hkA) (H3.out.2.2.trans' hkA))
  clear hkA hnA
  unfold TruePost at hli
  go_wp2_with fail
  with_reducible refine hli.out.mono ?_
  rintro e w5 ⟨rfl, hk5⟩
  have H5 := Lib.hid (And.intro (H4.out.1.keep hk5) (H4.out.2.trans' hk5))
  have hlf := Lib.hid (tlift H5.out.1 hg2 0)
  have hg3 := hg2.lift 0
  have e4 : liftErr 2 [[0], [1]] 0 = 0 := by decide
  have e5 : lift 2 [[0], [1]] 0 = [[], []] := by decide
  rw [e5] at hg3
  rw [e4, e5, errVal_zero] at hlf
  clear hk5 hli e4 e5 H4 H3
  unfold TPost tptr at hlf
  go_wp2_with fail
  with_reducible refine hlf.out.mono ?_
  rintro e w6 ⟨rfl, ht6, hk6⟩
  have H6 := Lib.hid (And.intro ht6 (H5.out.2.thin hk6 H1.out.2.1))
  have hly := Lib.hid (tlay ht6 hg3 0 (0, -1) (0, -1))
  have hg4 := hg3.lay 0 (0, -1) (0, -1)
  have e6 : layErr 2 [[], []] 0 (0, -1) (0, -1) = 0 := by decide
  have e7 : lay 2 [[], []] 0 (0, -1) (0, -1) = [[0, 1], []] := by decide
  rw [e7] at hg4
  rw [e6, e7, errVal_zero] at hly
  clear ht6 hk6 hlf e6 e7 H5
  unfold TPost tptr cval at hly
  go_wp2_with fail
  with_reducible refine hly.out.mono ?_
  rintro e w7 ⟨rfl, ht7, hk7⟩
  have H7 := Lib.hid (And.intro ht7 (H6.out.2.thin hk7 H1.out.2.1))
  have hr := Lib.hid (fall ht7 hg4)
  have e8 : faces [[0, 1], []] 2 = [[0], [1]] := by decide
  rw [e8] at hr
  clear ht7 hk7 hly e8 H6
  unfold tptr AllPost at hr
  go_wp2_with fail
  with_reducible refine hr.out.mono ?_
  rintro e w8 ⟨v, rfl, ho, hk8⟩
  obtain ⟨va, vc, hv⟩ := ho.rows.form
  have hv : v = .slice va 2 vc := hv
  subst hv
  have H8 := Lib.hid (And.intro ho.rows (H7.out.2.trans' hk8))
  clear ho hk8 hr
  have hkA : Keeps (fun _ => False) w8 (((w8.alloc (.cells #[.int .i64 0] 3)).alloc (.cells #[.int .i64 1] 3)).alloc (.cells #[.slice (some ⟨w8.heap.size, 0, none⟩) 1 1, .slice (some ⟨w8.heap.size + 1, 0, none⟩) 1 1] 47)) := (((Keeps.refl _ _).alloc _).alloc _).alloc _
  have hnA : NRows (((w8.alloc (.cells #[.int .i64 0] 3)).alloc (.cells #[.int .i64 1] 3)).alloc (.cells #[.slice (some ⟨w8.heap.size, 0, none⟩) 1 1, .slice (some ⟨w8.heap.size + 1, 0, none⟩) 1 1] 47)) (.slice (some ⟨w8.heap.size + 1 + 1, 0, none⟩) 2 2) [[0], [1]] := by
    refine lit2 (t := 3) (t2 := 3) (u := 47) (b1 := w8.heap.size) (b2 := w8.heap.size + 1) ?_ ?_ ?_
    · exact ((Blk.new _ _ _).alloc _).alloc _
    · exact (Blk.newAt _ _ _ (by simp)).alloc _
    · exact Blk.newAt _ _ _ (by simp)
  have hli := Lib.hid (lists11_eq va (some ⟨w8.heap.size + 1 + 1, 0, none⟩) vc 2 2 [[0], [1]] rfl (by decide) (by decide) _ (H8.out.1.keep hkA) hnA)
  have H9 := Lib.hid (H8.out.2.trans' hkA)
  clear hkA hnA H8 H7
  unfold TruePost at hli
  go_wp2_with fail
  with_reducible refine hli.out.mono ?_
  rintro e w10 ⟨rfl, hk10⟩
  have H10 := Lib.hid (H9.out.trans' hk10)
  clear hk10
  go_wp2_with fail
  go_ret
  exact ⟨rfl, H10.out⟩
end Go.Proofs.YtjmkejkhpdhhbaaDoor
