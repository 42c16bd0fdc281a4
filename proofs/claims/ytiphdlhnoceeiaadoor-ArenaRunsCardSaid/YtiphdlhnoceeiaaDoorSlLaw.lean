/- slots: the plain law: which places are taken. -/
import Derived.Test.YtiphdlhnoceeiaaDoorSl5
namespace Go.Proofs.YtiphdlhnoceeiaaDoor
open Go Go.RowKit
set_option linter.unusedVariables false
set_option linter.unusedSimpArgs false

/-- Of what is beneath: whether all of a word is full. -/
def F (f : Nat → Bool) : Nat → Nat → Bool
  | 0, x => f x
  | k + 1, i => (List.range 64).all fun j => F f k (64 * i + j)
theorem F_succ (f : Nat → Bool) (k i : Nat) : F f (k + 1) i = true ↔ ∀ j, j < 64 → F f k (64 * i + j) = true := by simp [F, List.all_eq_true]
theorem F_other {f f' : Nat → Bool} {x : Nat} (h : ∀ y, y ≠ x → f' y = f y) : ∀ k i, i ≠ x / 64 ^ k → F f' k i = F f k i := by
  intro k
  induction k with
  | zero => intro i hi; simp at hi; exact h i hi
  | succ k ih =>
    intro i hi
    rw [Bool.eq_iff_iff, F_succ, F_succ]
    have : ∀ j, j < 64 → F f' k (64 * i + j) = F f k (64 * i + j) := fun j hj => ih _ (by
      rw [Nat.pow_succ, ← Nat.div_div_eq_div_mul] at hi
      omega)
    exact ⟨fun h j hj => by rw [← this j hj]; exact h j hj, fun h j hj => by rw [this j hj]; exact h j hj⟩
theorem F_mono {f f' : Nat → Bool} (h : ∀ y, f y = true → f' y = true) : ∀ k i, F f k i = true → F f' k i = true := by
  intro k
  induction k with
  | zero => intro i hi; exact h i hi
  | succ k ih => intro i hi; rw [F_succ] at hi ⊢; exact fun j hj => ih _ (hi j hj)
theorem F_up (f : Nat → Bool) (k y : Nat) (h : F f k y = false) : F f (k + 1) (y / 64) = false := by
  cases e : F f (k + 1) (y / 64) with
  | false => rfl
  | true =>
    have := (F_succ f k (y / 64)).1 e (y % 64) (Nat.mod_lt _ (by decide))
    rw [show 64 * (y / 64) + y % 64 = y from by omega, h] at this
    exact this.symm

def Agree (o : SO) (f : Nat → Bool) (k : Nat) : Prop := ∀ i j, i < (o.lv k).length → j < 64 → ((o.lv k).getD i 0).testBit j = F f k (64 * i + j)

theorem whole_iff {o : SO} {f : Nat → Bool} {k i : Nat} (h : Agree o f k) (hi : i < (o.lv k).length) (hw : (o.lv k).getD i 0 < 18446744073709551616) :
    (o.lv k).getD i 0 = 18446744073709551615 ↔ F f (k + 1) i = true := by
  rw [F_succ]
  constructor
  · intro e j hj
    rw [← h i j hi hj, e, whole_bit]
    simp [hj]
  · intro e
    exact eq_of_bits _ _ hw (by decide) fun j hj => by rw [h i j hi hj, e j hj, whole_bit]; simp [hj]

theorem agree_put_other {o : SO} {f : Nat → Bool} {k j i v : Nat} (h : Agree o f j) (hj : j ≠ k) : Agree (o.put k i v) f j := by
  unfold Agree
  rw [o.put_other k i v j hj]
  exact h
theorem agree_put {o : SO} {f f' : Nat → Bool} {x k v : Nat} (h : Agree o f k) (hk : k < o.L.length) (hx : x / 64 < (o.lv k).length)
    (hoth : ∀ i, i ≠ x → F f' k i = F f k i) (hv : ∀ j, j < 64 → j ≠ x % 64 → v.testBit j = ((o.lv k).getD (x / 64) 0).testBit j) (hb : v.testBit (x % 64) = F f' k x) : Agree (o.put k (x / 64) v) f' k := by
  unfold Agree
  rw [o.put_same k _ v hk, List.length_set]
  intro i j hi hj
  by_cases e : i = x / 64
  · subst e
    rw [List.getD_eq_getElem?_getD, List.getElem?_set_self hx, Option.getD_some]
    by_cases ej : j = x % 64
    · subst ej
      rw [hb, show 64 * (x / 64) + x % 64 = x from by omega]
    · rw [hv j hj ej, h _ j hi hj, hoth _ (by omega)]
  · rw [List.getD_eq_getElem?_getD, List.getElem?_set_ne (Ne.symm e), ← List.getD_eq_getElem?_getD, h i j hi hj, hoth _ (by omega)]

structure Shape (o : SO) : Prop where
  word : ∀ k i, k < o.L.length → i < (o.lv k).length → (o.lv k).getD i 0 < 18446744073709551616
  reach : ∀ x k, x < o.n → k < o.L.length → x / 64 ^ (k + 1) < (o.lv k).length
theorem SO.At.shape {o : SO} {w : World} (h : o.At w) : Shape o := ⟨h.word, h.reach⟩
theorem Shape.put {o : SO} (h : Shape o) {k i v : Nat} (hk : k < o.L.length) (hv : v < 18446744073709551616) : Shape (o.put k i v) := by
  refine ⟨fun j i' hj hi => ?_, fun x j hx hj => ?_⟩
  · rw [SO.put_len] at hj; rw [SO.put_lens _ _ _ _ _ hk] at hi
    by_cases e : j = k
    · subst e
      rw [o.put_same _ _ _ hk]
      have hw := h.word j i' hj hi
      simp only [List.getD_eq_getElem?_getD, List.getElem?_set] at hw ⊢
      split
      · split
        · exact hv
        · exact (by decide)
      · exact hw
    · rw [o.put_other _ _ _ _ e]; exact h.word j i' hj hi
  · rw [SO.put_len] at hj; rw [SO.put_lens _ _ _ _ _ hk]; exact h.reach x j hx hj

theorem setFrom_agree {f f' : Nat → Bool} {x : Nat} (hoth : ∀ y, y ≠ x → f' y = f y) (hx' : f' x = true) (fuel : Nat) : ∀ (o : SO) (k xk : Nat), fuel = o.L.length - k → Shape o → x < o.n →
    (∀ j, j < k → j < o.L.length → Agree o f' j) → (∀ j, k ≤ j → j < o.L.length → Agree o f j) → xk = x / 64 ^ k → F f' k xk = true →
    (∀ j, j < o.L.length → Agree (SO.setFrom fuel o k xk) f' j) ∧ (SO.setFrom fuel o k xk).L.length = o.L.length ∧ (SO.setFrom fuel o k xk).n = o.n ∧ (SO.setFrom fuel o k xk).tk = o.tk ∧
    (∀ j, ((SO.setFrom fuel o k xk).lv j).length = (o.lv j).length) := by
  have hle : ∀ y, f y = true → f' y = true := fun y hy => by
    by_cases e : y = x
    · rw [e, hx']
    · rw [hoth y e]; exact hy
  induction fuel with
  | zero =>
    intro o k xk hf hs hxn hlo hhi hxk hb
    exact ⟨fun j hj => hlo j (by omega) hj, rfl, rfl, rfl, fun _ => rfl⟩
  | succ fuel ih =>
    intro o k xk hf hs hxn hlo hhi hxk hb
    have hk : k < o.L.length := by omega
    have hidx : xk / 64 < (o.lv k).length := by
      have := hs.reach x k hxn hk
      rw [hxk, Nat.div_div_eq_div_mul, ← Nat.pow_succ]; exact this
    have hw := hs.word k _ hk hidx
    have hv := or_word_lt _ (xk % 64) hw (Nat.mod_lt _ (by decide))
    have hag : Agree (o.put k (xk / 64) ((o.lv k).getD (xk / 64) 0 ||| 2 ^ (xk % 64))) f' k := by
      refine agree_put (hhi k (Nat.le_refl _) hk) hk hidx (fun i hi => F_other hoth k i (by rw [← hxk]; exact hi)) (fun j hj hne => ?_) ?_
      · rw [or_bit]; simp [Ne.symm hne]
      · rw [or_bit, hb]; simp
    have hlen : ((o.put k (xk / 64) ((o.lv k).getD (xk / 64) 0 ||| 2 ^ (xk % 64))).lv k).length = (o.lv k).length := SO.put_lens _ _ _ _ _ hk
    have hval : ((o.put k (xk / 64) ((o.lv k).getD (xk / 64) 0 ||| 2 ^ (xk % 64))).lv k).getD (xk / 64) 0 = (o.lv k).getD (xk / 64) 0 ||| 2 ^ (xk % 64) := by
      rw [o.put_same _ _ _ hk, List.getD_eq_getElem?_getD, List.getElem?_set_self hidx, Option.getD_some]
    have hwh := whole_iff hag (by rw [hlen]; exact hidx) (by rw [hval]; exact hv)
    rw [hval] at hwh
    unfold SO.setFrom
    split
    · rename_i hfull
      have hb' := hwh.1 hfull
      obtain ⟨r1, r2, r3, r4, r5⟩ := ih (o.put k (xk / 64) ((o.lv k).getD (xk / 64) 0 ||| 2 ^ (xk % 64))) (k + 1) (xk / 64) (by rw [SO.put_len]; omega) (hs.put hk hv) hxn
        (fun j hj hjl => by
          rw [SO.put_len] at hjl
          by_cases e : j = k
          · subst e; exact hag
          · exact agree_put_other (hlo j (by omega) hjl) e)
        (fun j hj hjl => by rw [SO.put_len] at hjl; exact agree_put_other (hhi j (by omega) hjl) (by omega))
        (by rw [hxk, Nat.div_div_eq_div_mul, ← Nat.pow_succ]) hb'
      rw [SO.put_len] at r1 r2
      exact ⟨r1, r2, r3, r4, fun j => by rw [r5, SO.put_lens _ _ _ _ _ hk]⟩
    · rename_i hfull
      refine ⟨fun j hj => ?_, SO.put_len _ _ _ _, rfl, rfl, fun j => SO.put_lens _ _ _ _ _ hk⟩
      by_cases e : j = k
      · subst e; exact hag
      · by_cases hjk : j < k
        · exact agree_put_other (hlo j hjk hj) e
        · have hfl : ∀ d, F f' (k + 1 + d) (x / 64 ^ (k + 1 + d)) = false := by
            intro d
            induction d with
            | zero =>
              rw [Nat.add_zero, Nat.pow_succ, ← Nat.div_div_eq_div_mul, ← hxk]
              cases e2 : F f' (k + 1) (xk / 64) with
              | false => rfl
              | true => exact absurd (hwh.2 e2) hfull
            | succ d ihd =>
              have := F_up f' _ _ ihd
              rw [Nat.div_div_eq_div_mul, ← Nat.pow_succ] at this
              exact this
          refine agree_put_other (k := k) ?_ e
          intro i b hi hbb
          rw [hhi j (by omega) hj i b hi hbb]
          by_cases ei : 64 * i + b = x / 64 ^ j
          · rw [ei]
            have h1 := hfl (j - (k + 1))
            rw [show k + 1 + (j - (k + 1)) = j from by omega] at h1
            rw [h1]
            cases e3 : F f j (x / 64 ^ j) with
            | false => rfl
            | true => rw [F_mono hle j _ e3] at h1; exact absurd h1 (by decide)
          · exact (F_other hoth j _ ei).symm

theorem freeFrom_agree {f f' : Nat → Bool} {x : Nat} (hoth : ∀ y, y ≠ x → f' y = f y) (hx : f x = true) (hx' : f' x = false) (fuel : Nat) : ∀ (o : SO) (k xk : Nat), fuel = o.L.length - k → Shape o → x < o.n →
    (∀ j, j < k → j < o.L.length → Agree o f' j) → (∀ j, k ≤ j → j < o.L.length → Agree o f j) → xk = x / 64 ^ k → F f' k xk = false →
    (∀ j, j < o.L.length → Agree (SO.freeFrom fuel o k xk) f' j) ∧ (SO.freeFrom fuel o k xk).L.length = o.L.length ∧ (SO.freeFrom fuel o k xk).n = o.n ∧ (SO.freeFrom fuel o k xk).tk = o.tk ∧
    (∀ j, ((SO.freeFrom fuel o k xk).lv j).length = (o.lv j).length) := by
  have hle : ∀ y, f' y = true → f y = true := fun y hy => by
    by_cases e : y = x
    · rw [e, hx]
    · rw [← hoth y e]; exact hy
  have hoth2 : ∀ y, y ≠ x → f y = f' y := fun y hy => (hoth y hy).symm
  induction fuel with
  | zero =>
    intro o k xk hf hs hxn hlo hhi hxk hb
    exact ⟨fun j hj => hlo j (by omega) hj, rfl, rfl, rfl, fun _ => rfl⟩
  | succ fuel ih =>
    intro o k xk hf hs hxn hlo hhi hxk hb
    have hk : k < o.L.length := by omega
    have hidx : xk / 64 < (o.lv k).length := by
      have := hs.reach x k hxn hk
      rw [hxk, Nat.div_div_eq_div_mul, ← Nat.pow_succ]; exact this
    have hw := hs.word k _ hk hidx
    have hv := nand_word_lt ((o.lv k).getD (xk / 64) 0) (xk % 64) hw
    have hag : Agree (o.put k (xk / 64) ((o.lv k).getD (xk / 64) 0 &&& (18446744073709551615 - 2 ^ (xk % 64)))) f' k := by
      refine agree_put (hhi k (Nat.le_refl _) hk) hk hidx (fun i hi => F_other hoth k i (by rw [← hxk]; exact hi)) (fun j hj hne => ?_) ?_
      · rw [nand_bit _ _ _ (Nat.mod_lt _ (by decide)) hj]; simp [Ne.symm hne]
      · rw [nand_bit _ _ _ (Nat.mod_lt _ (by decide)) (Nat.mod_lt _ (by decide)), hb]; simp
    have hwh := whole_iff (hhi k (Nat.le_refl _) hk) hidx hw
    have hfl : ∀ d, F f' (k + d) (x / 64 ^ (k + d)) = false := by
      intro d
      induction d with
      | zero => rw [Nat.add_zero, ← hxk]; exact hb
      | succ d ihd =>
        have := F_up f' _ _ ihd
        rw [Nat.div_div_eq_div_mul, ← Nat.pow_succ] at this
        exact this
    unfold SO.freeFrom
    split
    · rename_i hfull
      obtain ⟨r1, r2, r3, r4, r5⟩ := ih (o.put k (xk / 64) ((o.lv k).getD (xk / 64) 0 &&& (18446744073709551615 - 2 ^ (xk % 64)))) (k + 1) (xk / 64) (by rw [SO.put_len]; omega) (hs.put hk hv) hxn
        (fun j hj hjl => by
          rw [SO.put_len] at hjl
          by_cases e : j = k
          · subst e; exact hag
          · exact agree_put_other (hlo j (by omega) hjl) e)
        (fun j hj hjl => by rw [SO.put_len] at hjl; exact agree_put_other (hhi j (by omega) hjl) (by omega))
        (by rw [hxk, Nat.div_div_eq_div_mul, ← Nat.pow_succ]) (by have := F_up f' k _ hb; exact this)
      rw [SO.put_len] at r1 r2
      exact ⟨r1, r2, r3, r4, fun j => by rw [r5, SO.put_lens _ _ _ _ _ hk]⟩
    · rename_i hfull
      refine ⟨fun j hj => ?_, SO.put_len _ _ _ _, rfl, rfl, fun j => SO.put_lens _ _ _ _ _ hk⟩
      by_cases e : j = k
      · subst e; exact hag
      · by_cases hjk : j < k
        · exact agree_put_other (hlo j hjk hj) e
        · have hfo : ∀ d, F f (k + 1 + d) (x / 64 ^ (k + 1 + d)) = false := by
            intro d
            induction d with
            | zero =>
              rw [Nat.add_zero, Nat.pow_succ, ← Nat.div_div_eq_div_mul, ← hxk]
              cases e2 : F f (k + 1) (xk / 64) with
              | false => rfl
              | true => exact absurd (hwh.2 e2) hfull
            | succ d ihd =>
              have := F_up f _ _ ihd
              rw [Nat.div_div_eq_div_mul, ← Nat.pow_succ] at this
              exact this
          refine agree_put_other (k := k) ?_ e
          intro i b hi hbb
          rw [hhi j (by omega) hj i b hi hbb]
          by_cases ei : 64 * i + b = x / 64 ^ j
          · rw [ei]
            have h1 := hfl (j - k)
            rw [show k + (j - k) = j from by omega] at h1
            have h2 := hfo (j - (k + 1))
            rw [show k + 1 + (j - (k + 1)) = j from by omega] at h2
            rw [h1, h2]
          · exact (F_other hoth j _ ei).symm

/-- How many of the first n. -/
def cnt (S : Nat → Bool) (n : Nat) : Nat := ((List.range n).filter S).length
theorem cnt_succ (S : Nat → Bool) (n : Nat) : cnt S (n + 1) = cnt S n + if S n then 1 else 0 := by
  unfold cnt
  rw [List.range_succ, List.filter_append, List.length_append]
  by_cases h : S n <;> simp [h]
def upd (S : Nat → Bool) (x : Nat) (b : Bool) : Nat → Bool := fun y => if y = x then b else S y
theorem cnt_congr {S T : Nat → Bool} (n : Nat) (h : ∀ y, y < n → S y = T y) : cnt S n = cnt T n := by
  unfold cnt
  congr 1
  exact List.filter_congr fun y hy => h y (List.mem_range.1 hy)
theorem cnt_set (S : Nat → Bool) (x : Nat) (hx : S x = false) (n : Nat) (h : x < n) : cnt (upd S x true) n = cnt S n + 1 := by
  obtain ⟨d, rfl⟩ : ∃ d, n = x + 1 + d := ⟨n - (x + 1), by omega⟩
  clear h
  induction d with
  | zero =>
    rw [Nat.add_zero, cnt_succ, cnt_succ, cnt_congr x (T := S) (fun y hy => by simp [upd, Nat.ne_of_lt hy])]
    simp [upd, hx]
  | succ d ih =>
    rw [← Nat.add_assoc, cnt_succ, cnt_succ, ih]
    have : upd S x true (x + 1 + d) = S (x + 1 + d) := by simp [upd]; omega
    rw [this]; omega
theorem cnt_free (S : Nat → Bool) (x : Nat) (hx : S x = true) (n : Nat) (h : x < n) : cnt (upd S x false) n + 1 = cnt S n := by
  have := cnt_set (upd S x false) x (by simp [upd]) n h
  rw [cnt_congr n (T := S) (fun y _ => by by_cases e : y = x <;> simp [upd, e, hx])] at this
  exact this.symm
theorem cnt_le (S : Nat → Bool) (n : Nat) : cnt S n ≤ n := by
  induction n with
  | zero => simp [cnt]
  | succ n ih => rw [cnt_succ]; split <;> omega
theorem cnt_all (S : Nat → Bool) (n : Nat) (h : ∀ y, y < n → S y = true) : cnt S n = n := by
  induction n with
  | zero => simp [cnt]
  | succ n ih => rw [cnt_succ, ih fun y hy => h y (by omega), h n (by omega)]; rfl
theorem cnt_lt (S : Nat → Bool) (n y : Nat) (h : y < n) (hy : S y = false) : cnt S n < n := by
  have h1 := cnt_set S y hy n h
  have := cnt_le (upd S y true) n
  omega
theorem cnt_full (S : Nat → Bool) (n : Nat) (h : cnt S n = n) : ∀ y, y < n → S y = true := fun y hy => by
  cases e : S y with
  | true => rfl
  | false => have := cnt_lt S n y hy e; omega
theorem cnt_none (n : Nat) : cnt (fun _ => false) n = 0 := by simp [cnt]

def fbase (n : Nat) (S : Nat → Bool) : Nat → Bool := fun x => decide (n ≤ x) || S x

/-- The object's places that are taken are S's. -/
structure Is (o : SO) (S : Nat → Bool) : Prop where
  agree : ∀ j, j < o.L.length → Agree o (fbase o.n S) j
  lens : ∀ j, j < o.L.length → (o.lv j).length = lsz o.n (j + 1)
  last : lsz o.n (o.L.length - 1) ≤ 64
  one : 0 < o.L.length
  tk : o.tk = cnt S o.n
  pos : 1 ≤ o.n

theorem F_none (n : Nat) : ∀ k i, F (fbase n fun _ => false) k i = decide (lsz n k ≤ i) := by
  intro k
  induction k with
  | zero => intro i; simp only [F, fbase, lsz, Bool.or_false]; exact decide_eq_decide.2 Iff.rfl
  | succ k ih =>
    intro i
    rw [Bool.eq_iff_iff, F_succ, decide_eq_true_iff]
    simp only [ih, decide_eq_true_iff, lsz]
    constructor
    · intro h; have := h 0 (by decide); omega
    · intro h j hj; omega
theorem lvl0_bit (m i j : Nat) (hi : i < (m + 63) / 64) (hj : j < 64) : ((lvl0 m).getD i 0).testBit j = decide (m ≤ 64 * i + j) := by
  unfold lvl0
  split
  · have : ¬ m ≤ 64 * i + j := by omega
    simp [List.getD_eq_getElem?_getD, List.getElem?_replicate, hi, this]
  · rename_i hm
    simp only [List.getD_eq_getElem?_getD, List.getElem?_set, List.getElem?_replicate, List.length_replicate]
    by_cases e : (m + 63) / 64 - 1 = i
    · rw [if_pos e, if_pos (by omega), Option.getD_some, show (18446744073709551616 : Nat) = 2 ^ 64 from rfl, Nat.testBit_mod_two_pow, Nat.testBit_mul_two_pow, whole_bit]
      rw [Bool.eq_iff_iff]
      simp
      omega
    · have : ¬ m ≤ 64 * i + j := by omega
      rw [if_neg e]
      simp [hi, this]
theorem new_is {o : SO} {w : World} {n : Nat} (hA : o.At w) (hn : o.n = n) (h1 : 1 ≤ n) (ht : o.tk = 0) (hl : ∀ k, k < o.L.length → o.lv k = lvl0 (lsz n k)) (he : lsz n (o.L.length - 1) ≤ 64) : Is o fun _ => false := by
  subst hn
  refine ⟨fun j hj i b hi hb => ?_, fun j hj => ?_, he, hA.some_, by rw [ht, cnt_none], h1⟩
  · rw [hl j hj] at hi ⊢
    rw [lvl0_length] at hi
    rw [lvl0_bit _ _ _ hi hb, F_none]
  · rw [hl j hj, lvl0_length]; rfl

theorem set_is {o : SO} {S : Nat → Bool} {x : Nat} (h : Is o S) (hsh : Shape o) (hx : x < o.n) (hS : S x = false) : Is (o.set x) (upd S x true) ∧ (o.set x).n = o.n := by
  have hoth : ∀ y, y ≠ x → fbase o.n (upd S x true) y = fbase o.n S y := fun y hy => by simp [fbase, upd, hy]
  have ho : ∀ j, Agree ({ o with tk := o.tk + 1 } : SO) (fbase o.n S) j = Agree o (fbase o.n S) j := fun _ => rfl
  obtain ⟨r1, r2, r3, r4, r5⟩ := setFrom_agree hoth (by simp [fbase, upd]) o.L.length { o with tk := o.tk + 1 } 0 x rfl ⟨hsh.word, hsh.reach⟩ hx
    (fun j hj => absurd hj (by omega)) (fun j _ hj => h.agree j hj) (by simp) (by simp [F, fbase, upd])
  have hn : (o.set x).n = o.n := r3
  have hlen : (o.set x).L.length = o.L.length := r2
  have hl5 : ∀ j, ((o.set x).lv j).length = (o.lv j).length := r5
  refine ⟨⟨fun j hj => ?_, fun j hj => ?_, by rw [hn, hlen]; exact h.last, by rw [hlen]; exact h.one, ?_, by rw [hn]; exact h.pos⟩, hn⟩
  · rw [hn]; exact r1 j (by rw [hlen] at hj; exact hj)
  · rw [hl5, hn]; exact h.lens j (by rw [hlen] at hj; exact hj)
  · rw [hn, cnt_set S x hS o.n hx, ← h.tk]; exact r4

theorem free_is {o : SO} {S : Nat → Bool} {x : Nat} (h : Is o S) (hsh : Shape o) (hx : x < o.n) (hS : S x = true) : Is (o.free x) (upd S x false) ∧ (o.free x).n = o.n := by
  have hoth : ∀ y, y ≠ x → fbase o.n (upd S x false) y = fbase o.n S y := fun y hy => by simp [fbase, upd, hy]
  have hxn : ¬ o.n ≤ x := by omega
  obtain ⟨r1, r2, r3, r4, r5⟩ := freeFrom_agree hoth (by simp [fbase, hS]) (by simp [fbase, upd]; omega) o.L.length { o with tk := o.tk - 1 } 0 x rfl ⟨hsh.word, hsh.reach⟩ hx
    (fun j hj => absurd hj (by omega)) (fun j _ hj => h.agree j hj) (by simp) (by simp [F, fbase, upd]; omega)
  have hn : (o.free x).n = o.n := r3
  have hlen : (o.free x).L.length = o.L.length := r2
  have hl5 : ∀ j, ((o.free x).lv j).length = (o.lv j).length := r5
  refine ⟨⟨fun j hj => ?_, fun j hj => ?_, by rw [hn, hlen]; exact h.last, by rw [hlen]; exact h.one, ?_, by rw [hn]; exact h.pos⟩, hn⟩
  · rw [hn]; exact r1 j (by rw [hlen] at hj; exact hj)
  · rw [hl5, hn]; exact h.lens j (by rw [hlen] at hj; exact hj)
  · have := cnt_free S x hS o.n hx
    have e : (o.free x).tk = o.tk - 1 := r4
    rw [hn, e, h.tk]; omega

theorem Is.bit {o : SO} {S : Nat → Bool} (h : Is o S) {y : Nat} (hy : y < o.n) : o.bit y = S y := by
  have hl := h.lens 0 h.one
  have hi : y / 64 < (o.lv 0).length := by rw [hl]; simp only [lsz]; omega
  have := h.agree 0 h.one (y / 64) (y % 64) hi (Nat.mod_lt _ (by decide))
  unfold SO.bit
  rw [this, show 64 * (y / 64) + y % 64 = y from by omega]
  simp [F, fbase]
  omega

theorem lowest_up {f : Nat → Bool} {z : Nat} (hz : f z = false) (hlo : ∀ y, y < z → f y = true) : ∀ k, F f k (z / 64 ^ k) = false ∧ ∀ i, i < z / 64 ^ k → F f k i = true := by
  intro k
  induction k with
  | zero => simpa [F] using ⟨hz, hlo⟩
  | succ k ih =>
    rw [Nat.pow_succ, ← Nat.div_div_eq_div_mul]
    refine ⟨F_up f k _ ih.1, fun i hi => (F_succ f k i).2 fun j hj => ih.2 _ (by omega)⟩

theorem ctz_unique {x c : Nat} (hx : x < 18446744073709551616) (hc : x.testBit c = true) (hlo : ∀ j, j < c → x.testBit j = false) : Lib.ctz 64 x = c := by
  have h0 : x ≠ 0 := by rintro rfl; simp at hc
  obtain ⟨c1, c2, c3⟩ := ctz_bit x h0 hx
  by_cases h : Lib.ctz 64 x < c
  · rw [hlo _ h] at c1; exact absurd c1 (by decide)
  · by_cases h2 : c < Lib.ctz 64 x
    · rw [c2 _ h2] at hc; exact absurd hc (by decide)
    · omega

/-- The way from the top leads to the lowest free place. -/
theorem Is.top {o : SO} {S : Nat → Bool} (h : Is o S) (hsh : Shape o) {z : Nat} (hz : z < o.n) (hS : S z = false) (hlo : ∀ y, y < z → S y = true) : ∀ d j, d = o.L.length - j → j ≤ o.L.length → o.top j = z / 64 ^ j := by
  have hf := lowest_up (f := fbase o.n S) (z := z) (by simp [fbase, hS]; omega) (fun y hy => by simp [fbase, hlo y hy])
  intro d
  induction d with
  | zero =>
    intro j hd hj
    have e : j = o.L.length := by omega
    subst e
    rw [o.top_end _ (Nat.le_refl _)]
    have h1 := lsz_reach o.n z hz (o.L.length - 1)
    have h2 := h.last
    have h3 : o.L.length = (o.L.length - 1) + 1 := by have := h.one; omega
    rw [h3, Nat.pow_succ, ← Nat.div_div_eq_div_mul]
    generalize z / 64 ^ (o.L.length - 1) = q at *
    omega
  | succ d ih =>
    intro j hd hj
    have hjl : j < o.L.length := by omega
    rw [o.top_step j hjl, ih (j + 1) (by omega) (by omega)]
    have hidx := hsh.reach z j hz hjl
    have hw := hsh.word j _ hjl hidx
    have hag := h.agree j hjl
    have hdiv : z / 64 ^ (j + 1) = z / 64 ^ j / 64 := by rw [Nat.pow_succ, ← Nat.div_div_eq_div_mul]
    have hc : Lib.ctz 64 (18446744073709551615 - (o.lv j).getD (z / 64 ^ (j + 1)) 0) = z / 64 ^ j % 64 := by
      refine ctz_unique (by omega) ?_ fun b hb => ?_
      · rw [compl_bit _ _ hw (Nat.mod_lt _ (by decide)), hag _ _ hidx (Nat.mod_lt _ (by decide)), hdiv, show 64 * (z / 64 ^ j / 64) + z / 64 ^ j % 64 = z / 64 ^ j from by omega, (hf j).1]
        rfl
      · rw [compl_bit _ _ hw (by omega), hag _ _ hidx (by omega), hdiv, (hf j).2 _ (by omega)]
        rfl
    rw [hc, hdiv]
    omega

/-- The lowest free place. -/
theorem lowest (S : Nat → Bool) (n : Nat) (h : cnt S n < n) : ∃ z, z < n ∧ S z = false ∧ ∀ y, y < z → S y = true := by
  induction n with
  | zero => omega
  | succ n ih =>
    by_cases hc : cnt S n < n
    · obtain ⟨z, h1, h2⟩ := ih hc
      exact ⟨z, by omega, h2⟩
    · have he : cnt S n = n := by have := cnt_le S n; omega
      have hall := cnt_full S n he
      refine ⟨n, by omega, ?_, hall⟩
      rw [cnt_succ, he] at h
      cases e : S n with
      | false => rfl
      | true => simp [e] at h

end Go.Proofs.YtiphdlhnoceeiaaDoor
