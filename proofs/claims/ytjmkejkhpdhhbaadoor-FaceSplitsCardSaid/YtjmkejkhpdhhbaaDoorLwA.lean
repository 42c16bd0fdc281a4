/- Chapter 10's laws: ints, nothing of nil turns, sure. -/
import Derived.Test.YtjmkejkhpdhhbaaDoorTuH
import Derived.Test.YtjmkejkhpdhhbaaDoorRfA
import Derived.Test.YtjmkejkhpdhhbaaDoorNum
namespace Go.Proofs.YtjmkejkhpdhhbaaDoor
open Go Go.RowKit
set_option linter.unusedVariables false
set_option linter.unusedSimpArgs false
set_option maxRecDepth 100000

def TruePost (w : World) (e : Ending) (w' : World) : Prop := e = .returned (.bool true) ∧ Keeps (fun _ => False) w w'
theorem Keeps.thin {fp : Nat → Prop} {a b c : World} (h : Keeps (fun _ => False) a b) (k : Keeps fp b c) (hs : ∀ i, fp i → a.heap.size ≤ i) : Keeps (fun _ => False) a c :=
  h.trans k fun i hi e => by have := hs i e; omega
theorem ErrT.keep {w w' : World} (h : ErrT w) (hk : Keeps (fun _ => False) w w') : ErrT w' := h.kept hk id
theorem Keeps.free {fp : Nat → Prop} {a b : World} (h : Keeps (fun _ => False) a b) : Keeps fp a b := h.mono fun _ _ q => q.elim
theorem errVal_ne {k : Nat} (h : k ≠ 0) : errVal k ≠ .nilIface := by rw [errVal_pos h]; intro e; cases e
theorem ints10_eq (a1 a2 : Option Addr) (c1 c2 n : Nat) (l : List Nat) (hn : n = l.length) (hm : n ≤ 9000000000000000000) (w : World) (h1 : Rd w a1 (nats l)) (h2 : Rd w a2 (nats l)) :
    Calls Tryd.prog 32 #[.slice a1 n c1, .slice a2 n c2] w (TruePost w) := by
  subst hn
  have HN1 := Lib.hid (fun (i : Nat) (hi : i < l.length) => h1.nat hi)
  have HN2 := Lib.hid (fun (i : Nat) (hi : i < l.length) => h2.nat hi)
  clear h1 h2
  unfold TruePost
  go_enter Tryd.func32, Tryd.ntmps32
  go_wp2_with fail
  go_loopw [5] (fun i wr => ∃ (k q : Nat), k ≤ l.length ∧ i = .int .i64 (k : Int) ∧ wr = w.drewN q) (fun i _ => l.length - (intOf i).toNat)
  case atStart => exact ⟨0, 0, Nat.zero_le _, rfl, rfl⟩
  case round =>
    obtain ⟨k, q, hk, rfl, rfl⟩ := hrel
    by_cases hlt : k < l.length
    · obtain ⟨b1, o1, rfl, e1⟩ := HN1.out _ hlt
      obtain ⟨b2, o2, rfl, e2⟩ := HN2.out _ hlt
      generalize l.getD k 0 = x at *
      go_wp2_with fail
      go_quiet (fail)
      go_wp2_with fail
      refine ⟨⟨k + 1, _, hlt, by go_num, rfl⟩, by simp [intOf]; omega⟩
    · go_wp2_with fail
      go_ret
      exact ⟨rfl, (Keeps.refl _ _).drewN _⟩
set_option maxHeartbeats 1000000 in
theorem sure10 (w : World) : Calls Tryd.prog 22 #[] w (TruePost w) := by
  unfold TruePost
  go_enter Tryd.func22, Tryd.ntmps22
  go_wp2_with fail
  refine (tnew 1 1 w (by decide) (by decide) (by decide) (by decide)).mono ?_
  rintro e w1 ⟨p, own, rfl, ht, hge, hk1⟩
  have H1 := Lib.hid (And.intro ht (And.intro hge hk1))
  have hg1 := Good.new 1 1
  have hl := Lib.hid (tlay ht hg1 0 (0, -1) (0, -1))
  have e1 : layErr 1 (List.replicate 1 []) 0 (0, -1) (0, -1) = 0 := by decide
  have e2 : lay 1 (List.replicate 1 []) 0 (0, -1) (0, -1) = [[0, 1]] := by decide
  rw [e1, e2] at hl
  clear ht hge hk1 e1 e2
  unfold tptr cval errVal TPost at *
  simp only [if_true] at hl
  go_wp2_with fail
  refine hl.out.mono ?_
  rintro e w2 ⟨rfl, ht2, hk2⟩
  have H2 := Lib.hid (And.intro ht2 (H1.out.2.2.thin hk2 H1.out.2.1))
  have hr := Lib.hid (tround_some ht2 (n := 0) (l := [0, 1]) rfl (by decide))
  have e3 : rnd [0, 1] = [0, 1] := by decide
  rw [e3] at hr
  clear ht2 hk2 hl e3
  unfold tptr LPost errVal at *
  simp only [if_true] at hr
  go_wp2_with fail
  refine hr.out.mono ?_
  rintro e w3 ⟨v, rfl, ho, hk3⟩
  obtain ⟨va, vc, rfl, hrd, _⟩ := Rd.of_own ho
  have H3 := Lib.hid (H2.out.2.trans' hk3)
  have hin := Lib.hid (ints10_eq va (some ⟨w3.heap.size, 0, none⟩) vc 2 2 [0, 1] rfl (by decide) (w3.alloc (.cells #[.int .i64 0, .int .i64 1] 3)) (hrd.keep ((Keeps.refl _ _).alloc _))
    (.inr ⟨w3.heap.size, 0, rfl, fun i hi => by rw [Nat.zero_add, (Blk.new w3 _ _).cell]; simp [nats]⟩))
  have HK4 := Lib.hid (H3.out.alloc (.cells #[.int .i64 0, .int .i64 1] 3))
  clear ho hk3 hrd hr
  go_wp2_with fail
  refine hin.out.mono ?_
  rintro e w5 ⟨rfl, hk5⟩
  have HK5 := Lib.hid (HK4.out.trans' hk5)
  clear hk5
  go_wp2_with fail
  go_ret
  exact ⟨rfl, HK5.out⟩
end Go.Proofs.YtjmkejkhpdhhbaaDoor
