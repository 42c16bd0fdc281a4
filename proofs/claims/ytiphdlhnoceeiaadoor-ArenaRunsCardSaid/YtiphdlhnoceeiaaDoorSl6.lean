/- slots: the contracts, by which places are taken. -/
import Derived.Test.YtiphdlhnoceeiaaDoorSlLaw
namespace Go.Proofs.YtiphdlhnoceeiaaDoor
open Go Go.RowKit
set_option linter.unusedVariables false
set_option linter.unusedSimpArgs false

theorem setFrom_keep (f : Nat) : ∀ (o : SO) (k x : Nat), (SO.setFrom f o k x).b = o.b ∧ (SO.setFrom f o k x).base = o.base ∧ ((SO.setFrom f o k x).own = o.own) := by
  induction f with
  | zero => intro o k x; exact ⟨rfl, rfl, rfl⟩
  | succ f ih =>
    intro o k x
    unfold SO.setFrom
    split
    · obtain ⟨h1, h2, h3⟩ := ih (o.put k (x / 64) ((o.lv k).getD (x / 64) 0 ||| 2 ^ (x % 64))) (k + 1) (x / 64)
      exact ⟨h1, h2, h3.trans (funext fun j => propext (o.put_own k _ _ j))⟩
    · exact ⟨rfl, rfl, funext fun j => propext (o.put_own k _ _ j)⟩
theorem freeFrom_keep (f : Nat) : ∀ (o : SO) (k x : Nat), (SO.freeFrom f o k x).b = o.b ∧ (SO.freeFrom f o k x).base = o.base ∧ ((SO.freeFrom f o k x).own = o.own) := by
  induction f with
  | zero => intro o k x; exact ⟨rfl, rfl, rfl⟩
  | succ f ih =>
    intro o k x
    unfold SO.freeFrom
    split
    · obtain ⟨h1, h2, h3⟩ := ih (o.put k (x / 64) ((o.lv k).getD (x / 64) 0 &&& (18446744073709551615 - 2 ^ (x % 64)))) (k + 1) (x / 64)
      exact ⟨h1, h2, h3.trans (funext fun j => propext (o.put_own k _ _ j))⟩
    · exact ⟨rfl, rfl, funext fun j => propext (o.put_own k _ _ j)⟩

/-- n places, those of S taken, in memory: at block b, its own blocks. -/
structure Sl (w : World) (b : Nat) (own : Nat → Prop) (n : Nat) (S : Nat → Bool) : Prop where
  ex : ∃ o : SO, o.At w ∧ Is o S ∧ o.n = n ∧ o.b = b ∧ o.own = own
theorem Sl.kept {w w' : World} {b n : Nat} {own fp : Nat → Prop} {S : Nat → Bool} (h : Sl w b own n S) (hk : Keeps fp w w') (hd : ∀ k, own k → ¬ fp k) : Sl w' b own n S := by
  obtain ⟨o, h1, h2, h3, h4, h5⟩ := h
  exact ⟨o, h1.kept hk (by rw [h5]; exact hd), h2, h3, h4, h5⟩
theorem Sl.keep {w w' : World} {b n : Nat} {own : Nat → Prop} {S : Nat → Bool} (h : Sl w b own n S) (hk : Keeps (fun _ => False) w w') : Sl w' b own n S := h.kept hk fun _ _ => id
theorem Sl.lt {w : World} {b n : Nat} {own : Nat → Prop} {S : Nat → Bool} (h : Sl w b own n S) (k : Nat) (hk : own k) : k < w.heap.size := by
  obtain ⟨o, h1, h2, h3, h4, h5⟩ := h
  exact h1.lt k (by rw [h5]; exact hk)
theorem Sl.b_own {w : World} {b n : Nat} {own : Nat → Prop} {S : Nat → Bool} (h : Sl w b own n S) : own b := by
  obtain ⟨o, h1, h2, h3, h4, h5⟩ := h
  rw [← h5, ← h4]; exact .inl rfl
theorem Sl.bound {w : World} {b n : Nat} {own : Nat → Prop} {S : Nat → Bool} (h : Sl w b own n S) : 1 ≤ n ∧ n ≤ 1048576 := by
  obtain ⟨o, h1, h2, h3, h4, h5⟩ := h
  rw [← h3]; exact ⟨h2.pos, h1.fit⟩
theorem Sl.congr {w : World} {b n : Nat} {own : Nat → Prop} {S T : Nat → Bool} (h : Sl w b own n S) (he : ∀ y, y < n → S y = T y) : Sl w b own n T := by
  obtain ⟨o, h1, h2, h3, h4, h5⟩ := h
  refine ⟨o, h1, ⟨?_, h2.lens, h2.last, h2.one, by rw [h2.tk, h3]; exact cnt_congr n he, h2.pos⟩, h3, h4, h5⟩
  have e : fbase o.n S = fbase o.n T := funext fun y => by
    by_cases hy : o.n ≤ y
    · simp [fbase, hy]
    · simp only [fbase]; rw [he y (by omega)]
  rw [← e]; exact h2.agree

section
variable {w : World} {b n : Nat} {own : Nat → Prop} {S : Nat → Bool}

def SNewPost (n : Nat) (w : World) (e : Ending) (w' : World) : Prop :=
  ∃ b own, e = .returned (.tuple #[.pointer (some ⟨b, 0, none⟩), .nilIface]) ∧ Sl w' b own n (fun _ => false) ∧ (∀ k, own k → w.heap.size ≤ k) ∧ Keeps (fun _ => False) w w'
theorem snew (x : Int) (n : Nat) (hx : x = n) (w : World) (h1 : 1 ≤ n) (h2 : n ≤ 1048576) : Calls Tryd.prog 18 #[.int .i64 x] w (SNewPost n w) := by
  subst hx
  refine (new_any n w h1 h2).mono ?_
  rintro e w' ⟨o, he, hA, hb, hn, ht, hk, hl, _, hlast⟩
  exact ⟨o.b, o.own, he, ⟨o, hA, new_is hA hn h1 ht hl hlast, hn, rfl, rfl⟩, fun k hk => by rw [← hb]; exact hA.d0 k hk, hk⟩

theorem slen (h : Sl w b own n S) : Calls Tryd.prog 26 #[.pointer (some ⟨b, 0, none⟩)] w fun e w' => e = .returned (.int .i64 (cnt S n : Nat)) ∧ w = w' := by
  obtain ⟨o, h1, h2, rfl, rfl, h5⟩ := h
  rw [← h2.tk]; exact len_any o w h1
theorem ssize (h : Sl w b own n S) : Calls Tryd.prog 40 #[.pointer (some ⟨b, 0, none⟩)] w fun e w' => e = .returned (.int .i64 (n : Nat)) ∧ w = w' := by
  obtain ⟨o, h1, h2, rfl, rfl, h5⟩ := h
  exact size_any o w h1

/-- Whether a place is taken; none beyond. -/
def hasAt (S : Nat → Bool) (n : Nat) (x : Int) : Bool := decide (0 ≤ x) && decide (x < n) && S x.toNat
theorem shas (h : Sl w b own n S) (x : Int) : Calls Tryd.prog 25 #[.pointer (some ⟨b, 0, none⟩), .int .i64 x] w fun e w' => e = .returned (.bool (hasAt S n x)) ∧ w = w' := by
  obtain ⟨o, h1, h2, rfl, rfl, h5⟩ := h
  by_cases hx : 0 ≤ x ∧ x < o.n
  · obtain ⟨y, rfl⟩ := Int.eq_ofNat_of_zero_le hx.1
    have hy : y < o.n := by omega
    have e : hasAt S o.n (y : Int) = o.bit y := by rw [h2.bit hy]; simp [hasAt, hy]
    rw [e]; exact has_in o y w h1 hy
  · have e : hasAt S o.n x = false := by simp [hasAt]; omega
    rw [e]; exact has_out o x w h1 (by omega)
theorem shas_nat (h : Sl w b own n S) (x : Int) (y : Nat) (hx : x = y) (hy : y < n) : Calls Tryd.prog 25 #[.pointer (some ⟨b, 0, none⟩), .int .i64 x] w fun e w' => e = .returned (.bool (S y)) ∧ w = w' := by
  subst hx
  have e : hasAt S n (y : Int) = S y := by simp [hasAt, hy]
  rw [← e]; exact shas h _

/-- What Claim answers: 0, or an error's number. -/
def claimErr (S : Nat → Bool) (n : Nat) (x : Int) : Nat := if x < 0 ∨ (n : Int) ≤ x then 12 else if S x.toNat then 20 else 0
def freeErr (S : Nat → Bool) (n : Nat) (x : Int) : Nat := if x < 0 ∨ (n : Int) ≤ x then 12 else if S x.toNat then 0 else 21
def ClaimPost (w : World) (b n : Nat) (own : Nat → Prop) (S : Nat → Bool) (x : Int) (bb : Bool) (err : Nat) (e : Ending) (w' : World) : Prop :=
  e = .returned (errVal err) ∧ Keeps own w w' ∧ Sl w' b own n (if err = 0 then upd S x.toNat bb else S)
theorem sclaim (h : Sl w b own n S) (x : Int) : Calls Tryd.prog 19 #[.pointer (some ⟨b, 0, none⟩), .int .i64 x] w (ClaimPost w b n own S x true (claimErr S n x)) := by
  have h' := h
  obtain ⟨o, h1, h2, rfl, rfl, rfl⟩ := h
  by_cases hx : x < 0 ∨ (o.n : Int) ≤ x
  · refine (claim_out o x w h1 hx).mono ?_
    rintro e w' ⟨rfl, rfl⟩
    have ee : claimErr S o.n x = 12 := by simp [claimErr, hx]
    rw [ee]
    exact ⟨rfl, Keeps.refl _ _, h'⟩
  · obtain ⟨y, rfl⟩ := Int.eq_ofNat_of_zero_le (show 0 ≤ x by omega)
    have hy : y < o.n := by omega
    cases hS : S y with
    | true =>
      refine (claim_same o y w h1 hy (by rw [h2.bit hy]; exact hS)).mono ?_
      rintro e w' ⟨rfl, rfl⟩
      have ee : claimErr S o.n (y : Int) = 20 := by simp [claimErr, hS]; omega
      rw [ee]
      exact ⟨rfl, Keeps.refl _ _, h'⟩
    | false =>
      have ht : o.tk < o.n := by rw [h2.tk]; exact cnt_lt S o.n y hy hS
      refine (claim_set o y w h1 hy (by rw [h2.bit hy]; exact hS) ht).mono ?_
      rintro e w' ⟨rfl, hA, hk⟩
      have ee : claimErr S o.n (y : Int) = 0 := by simp [claimErr, hS]; omega
      rw [ee]
      obtain ⟨k1, k2, k3⟩ := setFrom_keep o.L.length { o with tk := o.tk + 1 } 0 y
      obtain ⟨i1, i2⟩ := set_is h2 h1.shape hy hS
      exact ⟨rfl, hk, ⟨o.set y, hA, i1, i2, k1, k3⟩⟩
theorem sfree (h : Sl w b own n S) (x : Int) : Calls Tryd.prog 35 #[.pointer (some ⟨b, 0, none⟩), .int .i64 x] w (ClaimPost w b n own S x false (freeErr S n x)) := by
  have h' := h
  obtain ⟨o, h1, h2, rfl, rfl, rfl⟩ := h
  by_cases hx : x < 0 ∨ (o.n : Int) ≤ x
  · refine (free_out o x w h1 hx).mono ?_
    rintro e w' ⟨rfl, rfl⟩
    have ee : freeErr S o.n x = 12 := by simp [freeErr, hx]
    rw [ee]
    exact ⟨rfl, Keeps.refl _ _, h'⟩
  · obtain ⟨y, rfl⟩ := Int.eq_ofNat_of_zero_le (show 0 ≤ x by omega)
    have hy : y < o.n := by omega
    cases hS : S y with
    | false =>
      refine (free_apart o y w h1 hy (by rw [h2.bit hy]; exact hS)).mono ?_
      rintro e w' ⟨rfl, rfl⟩
      have ee : freeErr S o.n (y : Int) = 21 := by simp [freeErr, hS]; omega
      rw [ee]
      exact ⟨rfl, Keeps.refl _ _, h'⟩
    | true =>
      have ht : 0 < o.tk := by rw [h2.tk]; have := cnt_free S y hS o.n hy; omega
      refine (free_set o y w h1 hy (by rw [h2.bit hy]; exact hS) ht).mono ?_
      rintro e w' ⟨rfl, hA, hk⟩
      have ee : freeErr S o.n (y : Int) = 0 := by simp [freeErr, hS]; omega
      rw [ee]
      obtain ⟨k1, k2, k3⟩ := freeFrom_keep o.L.length { o with tk := o.tk - 1 } 0 y
      obtain ⟨i1, i2⟩ := free_is h2 h1.shape hy hS
      exact ⟨rfl, hk, ⟨o.free y, hA, i1, i2, k1, k3⟩⟩

theorem stake_full (h : Sl w b own n S) (hf : cnt S n = n) : Calls Tryd.prog 33 #[.pointer (some ⟨b, 0, none⟩)] w fun e w' => e = .returned (.tuple #[.int .i64 0, errno 16]) ∧ ∃ q, w' = w.drewN q := by
  obtain ⟨o, h1, h2, rfl, rfl, h5⟩ := h
  exact take_full o w h1 (by rw [h2.tk]; exact hf)
def TakePost (w : World) (b n : Nat) (own : Nat → Prop) (S : Nat → Bool) (z : Nat) (e : Ending) (w' : World) : Prop :=
  e = .returned (.tuple #[.int .i64 (z : Int), .nilIface]) ∧ Keeps own w w' ∧ Sl w' b own n (upd S z true)
theorem stake (h : Sl w b own n S) (hT : Tab w) (z : Nat) (hz : z < n) (hS : S z = false) (hlo : ∀ y, y < z → S y = true) :
    Calls Tryd.prog 33 #[.pointer (some ⟨b, 0, none⟩)] w (TakePost w b n own S z) := by
  obtain ⟨o, h1, h2, rfl, rfl, rfl⟩ := h
  have htop := h2.top h1.shape hz hS hlo
  have h0 : o.top 0 = z := by rw [htop _ 0 rfl (Nat.zero_le _)]; simp
  have ht : o.tk < o.n := by rw [h2.tk]; exact cnt_lt S o.n z hz hS
  refine (take_set o w h1 hT ht (fun j hj => by rw [htop _ (j + 1) rfl (by omega)]; exact h1.reach z j hz hj) (by rw [h0]; exact hz)).mono ?_
  rintro e w' ⟨rfl, hA, hk⟩
  rw [h0] at hA ⊢
  obtain ⟨k1, k2, k3⟩ := setFrom_keep o.L.length { o with tk := o.tk + 1 } 0 z
  obtain ⟨i1, i2⟩ := set_is h2 h1.shape hz hS
  exact ⟨rfl, hk, ⟨o.set z, hA, i1, i2, k1, k3⟩⟩

def allOf (S : Nat → Bool) (n : Nat) : List Nat := (List.range n).filter S
def SAllPost (S : Nat → Bool) (n : Nat) (w : World) (e : Ending) (w' : World) : Prop :=
  ∃ v, e = .returned v ∧ w'.ownsRow w.heap.size 3 1 v (allOf S n).length (ints (allOf S n)) ∧ Keeps (fun _ => False) w w'
theorem sall (h : Sl w b own n S) (hT : Tab w) : Calls Tryd.prog 24 #[.pointer (some ⟨b, 0, none⟩)] w (SAllPost S n w) := by
  obtain ⟨o, h1, h2, rfl, rfl, h5⟩ := h
  refine (all_any o w h1 hT).mono ?_
  rintro e w' ⟨v, he, ho, hk⟩
  have ea : o.all = allOf S o.n := List.filter_congr fun y hy => h2.bit (List.mem_range.1 hy)
  rw [ea] at ho
  exact ⟨v, he, ho, hk⟩

/-- What Next answers. -/
def NextAns (S : Nat → Bool) (n : Nat) (x : Int) (f : Bool) (y : Nat) : Prop :=
  (f = true ∧ x ≤ y ∧ y < n ∧ S y = true ∧ ∀ z : Nat, x ≤ z → z < y → S z = false) ∨ (f = false ∧ y = 0 ∧ ∀ z : Nat, x ≤ z → z < n → S z = false)
def SNextPost (S : Nat → Bool) (n : Nat) (x : Int) (w : World) (e : Ending) (w' : World) : Prop :=
  ∃ (f : Bool) (y : Nat), NextAns S n x f y ∧ e = .returned (.tuple #[.int .i64 (y : Int), .bool f]) ∧ w = w'
theorem snext (h : Sl w b own n S) (hT : Tab w) (x : Int) : Calls Tryd.prog 21 #[.pointer (some ⟨b, 0, none⟩), .int .i64 x] w (SNextPost S n x w) := by
  obtain ⟨o, h1, h2, rfl, rfl, h5⟩ := h
  by_cases hx : x < o.n
  · refine (next_in o x x.toNat w h1 hT hx (by omega)).mono ?_
    rintro e w' ⟨r, hr, rfl, rfl⟩
    cases r with
    | some y => exact ⟨true, y, .inl ⟨rfl, by have := hr.1; omega, hr.2.1, by rw [← h2.bit hr.2.1]; exact hr.2.2.1, fun z hz hzy => by rw [← h2.bit (by have := hr.2.1; omega)]; exact hr.2.2.2 z (by omega) hzy⟩, rfl, rfl⟩
    | none => exact ⟨false, 0, .inr ⟨rfl, rfl, fun z hz hzn => by rw [← h2.bit hzn]; exact hr z (by omega) hzn⟩, rfl, rfl⟩
  · refine (next_beyond o x w h1 (by omega)).mono ?_
    rintro e w' ⟨rfl, rfl⟩
    exact ⟨false, 0, .inr ⟨rfl, rfl, fun z hz hzn => by omega⟩, rfl, rfl⟩
end
end Go.Proofs.YtiphdlhnoceeiaaDoor
