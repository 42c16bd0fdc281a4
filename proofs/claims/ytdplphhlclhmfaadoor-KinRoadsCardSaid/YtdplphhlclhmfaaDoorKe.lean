/- num of the law's package. Chapter 10's laws: ints, nothing of nil turns, sure. Chapter 10's laws: nothing of nil turns; TurnNew. Chapter 10's laws: corner. Chapter 10, plain: the lists' lengths; an edge laid and lifted; lists turned to begin with the least. Chapter 10's laws: an act done to both. -/
import Derived.Test.YtdplphhlclhmfaaDoorErr
namespace Go.Proofs.YtdplphhlclhmfaaDoor
open Go Go.RowKit
set_option linter.unusedVariables false
set_option linter.unusedSimpArgs false
set_option maxRecDepth 100000

def NumPost (k : Int) (w : World) (e : Ending) (w' : World) : Prop := e = .returned (.int .i64 k) ∧ Keeps (fun _ => False) w w'
theorem num12_nil (w : World) : Calls Tryd.prog 13 #[.nilIface] w (NumPost 0 w) := by
  go_enter Tryd.func13, Tryd.ntmps13
  go_wp2_with fail
  go_ret
  exact ⟨rfl, (Keeps.refl _ _).alloc _⟩
theorem num12_err (k : Int) (w : World) (hg : ErrT w) : Calls Tryd.prog 13 #[errno k] w (NumPost k w) := by
  have hlt : 0 < w.heap.size := World.block_lt_of_cell? w _ hg
  have hg' : ErrT (w.alloc (.cells #[.int .i64 0] 87)) := hg.kept ((Keeps.refl (fun _ => False) _).alloc _) id
  have hit := Lib.hid (as_hit k ⟨w.heap.size, 0, none⟩ (.int .i64 0) (w.alloc (.cells #[.int .i64 0] 87)) hg' (by rw [(Blk.new w _ _).cell]; rfl) ((Blk.new w _ _).free 0))
  clear hg hg'
  unfold errno
  go_enter Tryd.func13, Tryd.ntmps13
  go_wp2_with (go_at_call 43; refine (hit.out).mono ?_; rintro e w' ⟨rfl, rfl⟩)
  go_ret
  refine ⟨rfl, ?_⟩
  repeat (first | exact Keeps.refl _ _ | refine Keeps.alloc ?_ _ | (refine Keeps.setCell ?_ _ _ (fun h => absurd h (by simp))))
theorem num12_val (k : Nat) (w : World) (hg : ErrT w) : Calls Tryd.prog 13 #[errVal k] w (NumPost k w) := by
  unfold errVal
  split
  · rename_i h; subst h; exact num12_nil w
  · exact num12_err k w hg
theorem num15_nil (w : World) : Calls Tryd.prog 27 #[.nilIface] w (NumPost 0 w) := by
  go_enter Tryd.func27, Tryd.ntmps27
  go_wp2_with fail
  go_ret
  exact ⟨rfl, (Keeps.refl _ _).alloc _⟩
theorem num15_err (k : Int) (w : World) (hg : ErrT w) : Calls Tryd.prog 27 #[errno k] w (NumPost k w) := by
  have hlt : 0 < w.heap.size := World.block_lt_of_cell? w _ hg
  have hg' : ErrT (w.alloc (.cells #[.int .i64 0] 87)) := hg.kept ((Keeps.refl (fun _ => False) _).alloc _) id
  have hit := Lib.hid (as_hit k ⟨w.heap.size, 0, none⟩ (.int .i64 0) (w.alloc (.cells #[.int .i64 0] 87)) hg' (by rw [(Blk.new w _ _).cell]; rfl) ((Blk.new w _ _).free 0))
  clear hg hg'
  unfold errno
  go_enter Tryd.func27, Tryd.ntmps27
  go_wp2_with (go_at_call 43; refine (hit.out).mono ?_; rintro e w' ⟨rfl, rfl⟩)
  go_ret
  refine ⟨rfl, ?_⟩
  repeat (first | exact Keeps.refl _ _ | refine Keeps.alloc ?_ _ | (refine Keeps.setCell ?_ _ _ (fun h => absurd h (by simp))))
theorem num15_val (k : Nat) (w : World) (hg : ErrT w) : Calls Tryd.prog 27 #[errVal k] w (NumPost k w) := by
  unfold errVal
  split
  · rename_i h; subst h; exact num15_nil w
  · exact num15_err k w hg
def TruePost (w : World) (e : Ending) (w' : World) : Prop := e = .returned (.bool true) ∧ Keeps (fun _ => False) w w'
theorem Keeps.thin {fp : Nat → Prop} {a b c : World} (h : Keeps (fun _ => False) a b) (k : Keeps fp b c) (hs : ∀ i, fp i → a.heap.size ≤ i) : Keeps (fun _ => False) a c :=
  h.trans k fun i hi e => by have := hs i e; omega
theorem ErrT.keep {w w' : World} (h : ErrT w) (hk : Keeps (fun _ => False) w w') : ErrT w' := h.kept hk id
theorem Keeps.free {fp : Nat → Prop} {a b : World} (h : Keeps (fun _ => False) a b) : Keeps fp a b := h.mono fun _ _ q => q.elim
theorem errVal_ne {k : Nat} (h : k ≠ 0) : errVal k ≠ .nilIface := by rw [errVal_pos h]; intro e; cases e
section
variable (w : World)
theorem nvertex (v : Int) : Calls Tryd.prog 87 #[.pointer none, .int .i64 v] w (RetPost (errno 1) w) := by
  unfold RetPost
  go_enter Tryd.func87, Tryd.ntmps87
  go_wp2_with fail
  go_ret
  exact ⟨rfl, Keeps.refl _ _⟩
theorem nedge (v : Int) : Calls Tryd.prog 49 #[.pointer none, .int .i64 v] w (RetPost (errno 1) w) := by
  unfold RetPost
  go_enter Tryd.func49, Tryd.ntmps49
  go_wp2_with fail
  go_ret
  exact ⟨rfl, Keeps.refl _ _⟩
theorem ndart (v : Int) : Calls Tryd.prog 69 #[.pointer none, .int .i64 v] w (RetPost (.tuple #[dval 0 0 0, errno 1]) w) := by
  unfold RetPost
  go_enter Tryd.func69, Tryd.ntmps69
  go_wp2_with fail
  refine bodyPost_ret (v := .tuple #[dval 0 0 0, errno 1]) (by simp [results, Tryd.results69, go_sem, dval, errno]) rfl ?_
  exact ⟨by first | rfl | simp [errno], (Keeps.refl _ _).alloc _⟩
theorem nnext (v : Int) : Calls Tryd.prog 104 #[.pointer none, .int .i64 v] w (RetPost (.tuple #[.int .i64 0, errno 1]) w) := by
  have hd := Lib.hid (ndart w v)
  unfold RetPost dval errno at *
  go_enter Tryd.func104, Tryd.ntmps104
  go_wp2_with fail
  refine (hd.out).mono ?_
  rintro e w1 ⟨rfl, hk⟩
  go_wp2_with fail
  go_ret2
  exact ⟨rfl, hk.alloc _⟩
theorem ndegree (v : Int) : Calls Tryd.prog 72 #[.pointer none, .int .i64 v] w (RetPost (.tuple #[.int .i64 0, errno 1]) w) := by
  have hd := Lib.hid (nvertex w v)
  unfold RetPost errno at *
  go_enter Tryd.func72, Tryd.ntmps72
  go_wp2_with fail
  refine (hd.out).mono ?_
  rintro e w1 ⟨rfl, hk⟩
  have HK := Lib.hid hk
  clear hk
  go_wp2_with fail
  go_ret2
  exact ⟨rfl, HK.out⟩
theorem nround (v : Int) : Calls Tryd.prog 95 #[.pointer none, .int .i64 v] w (RetPost (.tuple #[.slice none 0 0, errno 1]) w) := by
  have hd := Lib.hid (nvertex w v)
  unfold RetPost errno at *
  go_enter Tryd.func95, Tryd.ntmps95
  go_wp2_with fail
  refine (hd.out).mono ?_
  rintro e w1 ⟨rfl, hk⟩
  have HK := Lib.hid hk
  clear hk
  go_wp2_with fail
  go_ret2
  exact ⟨rfl, HK.out⟩
theorem nsizes : Calls Tryd.prog 56 #[.pointer none] w (RetPost (.tuple #[.int .i64 0, .int .i64 0]) w) := by
  unfold RetPost
  go_enter Tryd.func56, Tryd.ntmps56
  go_wp2_with fail
  go_ret2
  exact ⟨rfl, Keeps.refl _ _⟩
theorem nhas (v : Int) : Calls Tryd.prog 22 #[.pointer none, .int .i64 v] w (RetPost (.bool false) w) := by
  have hd := Lib.hid (nedge w v)
  unfold RetPost errno at *
  go_enter Tryd.func22, Tryd.ntmps22
  go_wp2_with fail
  refine (hd.out).mono ?_
  rintro e w1 ⟨rfl, hk⟩
  have HK := Lib.hid hk
  clear hk
  go_wp2_with fail
  go_ret
  exact ⟨rfl, HK.out⟩
theorem ncheck (v b : Int) : Calls Tryd.prog 53 #[.pointer none, .agg #[.int .i64 v, .int .i64 b]] w (RetPost (errno 1) w) := by
  have hd := Lib.hid (nvertex (w.alloc (.cells #[.int .i64 v, .int .i64 b] 51)) v)
  have HK0 := Lib.hid ((Keeps.refl (fun _ => False) w).alloc (.cells #[.int .i64 v, .int .i64 b] 51))
  unfold RetPost errno at *
  go_enter Tryd.func53, Tryd.ntmps53
  go_wp2_with fail
  refine (hd.out).mono ?_
  rintro e w1 ⟨rfl, hk⟩
  have HK := Lib.hid (HK0.out.trans' hk)
  clear hk
  go_wp2_with fail
  go_ret
  exact ⟨rfl, HK.out⟩
theorem nlift (v : Int) : Calls Tryd.prog 35 #[.pointer none, .int .i64 v] w (RetPost (errno 1) w) := by
  have hd := Lib.hid (nedge w v)
  unfold RetPost errno at *
  go_enter Tryd.func35, Tryd.ntmps35
  go_wp2_with fail
  refine (hd.out).mono ?_
  rintro e w1 ⟨rfl, hk⟩
  have HK := Lib.hid hk
  clear hk
  go_wp2_with fail
  go_ret
  exact ⟨rfl, HK.out⟩
theorem nlay (e a1 a2 b1 b2 : Int) : Calls Tryd.prog 24 #[.pointer none, .int .i64 e, .agg #[.int .i64 a1, .int .i64 a2], .agg #[.int .i64 b1, .int .i64 b2]] w (RetPost (errno 1) w) := by
  have hd := Lib.hid (nedge ((w.alloc (.cells #[.int .i64 a1, .int .i64 a2] 51)).alloc (.cells #[.int .i64 b1, .int .i64 b2] 51)) e)
  have HK0 := Lib.hid (((Keeps.refl (fun _ => False) w).alloc (.cells #[.int .i64 a1, .int .i64 a2] 51)).alloc (.cells #[.int .i64 b1, .int .i64 b2] 51))
  unfold RetPost errno at *
  go_enter Tryd.func24, Tryd.ntmps24
  go_wp2_with fail
  refine (hd.out).mono ?_
  rintro e w1 ⟨rfl, hk⟩
  have HK := Lib.hid (HK0.out.trans' hk)
  clear hk
  go_wp2_with fail
  go_ret
  exact ⟨rfl, HK.out⟩
end
/-- A number without its sign, as 64 bits. -/
def unsg (n : Int) : Nat := (n % 18446744073709551616).toNat
theorem unsg_eq (n : Int) : IntKind.u64.wrap n = (unsg n : Int) := by rw [IntKind.wrap_u64]; unfold unsg; omega
theorem mod_val (n : Int) (m : Nat) (h0 : 0 < m) (hm : m ≤ 2097152) : wrap64 ((IntKind.u64.wrap n).tmod m) = ((unsg n % m : Nat) : Int) := by
  rw [unsg_eq, ← Int.ofNat_tmod]
  have := Nat.mod_lt (unsg n) h0
  unfold wrap64
  omega
theorem mod_valK (n : Int) (m : Nat) (h0 : 0 < m) (hm : m ≤ 2097152) : IntKind.i64.wrap ((IntKind.u64.wrap n).tmod m) = ((unsg n % m : Nat) : Int) := by
  rw [unsg_eq, ← Int.ofNat_tmod, IntKind.wrap_i64]
  have := Nat.mod_lt (unsg n) h0
  omega
/-- What the laws take for a size. -/
def kof (n : Int) (m : Nat) : Nat := 1 + unsg n % m
theorem kof_val (n : Int) (m : Nat) (h0 : 0 < m) (hm : m ≤ 100000) : wrap64 (1 + wrap64 ((IntKind.u64.wrap n).tmod m)) = (kof n m : Int) := by
  rw [mod_val n m h0 (by omega)]
  have := Nat.mod_lt (unsg n) h0
  unfold wrap64 kof
  omega
theorem kof_le (n : Int) (m : Nat) (h0 : 0 < m) : 1 ≤ kof n m ∧ kof n m ≤ m := by
  have := Nat.mod_lt (unsg n) h0
  unfold kof
  omega
/-- A corner that is meant. -/
def crn (L : List (List Nat)) (c : Int × Int) : Int × Int :=
  if L.getD (unsg c.1 % L.length) [] = [] then (((unsg c.1 % L.length : Nat) : Int), -1)
  else (((unsg c.1 % L.length : Nat) : Int), (((L.getD (unsg c.1 % L.length) []).getD (unsg c.2 % (L.getD (unsg c.1 % L.length) []).length) 0 : Nat) : Int))
def crnR (L : List (List Nat)) (c : Int × Int) (raw : Bool) : Int × Int := if raw = true then c else crn L c
theorem crn_ok {L : List (List Nat)} (h0 : 0 < L.length) (c : Int × Int) : chkErr L (crn L c).1 (crn L c).2 = 0 := by
  have hv := Nat.mod_lt (unsg c.1) h0
  unfold crn
  generalize unsg c.1 % L.length = v at *
  split
  · rename_i hl
    unfold chkErr
    rw [if_neg (by simp only; omega), if_pos ⟨rfl, by simpa using hl⟩]
  · rename_i hl
    have hlp : 0 < (L.getD v []).length := by
      rcases Nat.eq_zero_or_pos (L.getD v []).length with h | h
      · exact absurd (List.eq_nil_of_length_eq_zero h) hl
      · exact h
    have hk := Nat.mod_lt (unsg c.2) hlp
    unfold chkErr
    simp only
    rw [if_neg (by omega), if_neg (by omega), Int.toNat_natCast, Int.toNat_natCast, if_neg]
    rintro (h | h)
    · omega
    · exact h (getD_mem hk)
section
variable {w : World} {B E : Nat} {v : Value} {L : List (List Nat)}
def cArr (c : Int × Int) : Value := .agg #[.int .i64 c.1, .int .i64 c.2]
end
def manyN (L : List (List Nat)) (n : Nat) : Nat := (L.take n).flatten.length
def laidN (L : List (List Nat)) (n : Nat) : Nat := ((List.range n).filter fun e => decide (Stands L (2 * e))).length
theorem manyN_zero (L : List (List Nat)) : manyN L 0 = 0 := by simp [manyN]
theorem manyN_step {L : List (List Nat)} {n : Nat} (h : n < L.length) : manyN L (n + 1) = manyN L n + (L.getD n []).length := by
  unfold manyN
  rw [List.take_add_one, some_getD h]
  simp
theorem manyN_all (L : List (List Nat)) : manyN L L.length = L.flatten.length := by simp [manyN]
theorem laidN_zero (L : List (List Nat)) : laidN L 0 = 0 := rfl
theorem laidN_step (L : List (List Nat)) (n : Nat) : laidN L (n + 1) = laidN L n + if Stands L (2 * n) then 1 else 0 := by
  unfold laidN
  rw [List.range_succ, List.filter_append, List.length_append]
  congr 1
  by_cases h : Stands L (2 * n) <;> simp [h]
theorem darts_two {L : List (List Nat)} (h : ∀ e, Stands L (2 * e) ↔ Stands L (2 * e + 1)) : ∀ n, ((List.range (2 * n)).filter fun d => decide (Stands L d)).length = 2 * laidN L n
  | 0 => rfl
  | n + 1 => by
    have := h n
    rw [show 2 * (n + 1) = 2 * n + 1 + 1 by omega, List.range_succ, List.range_succ, List.filter_append, List.filter_append, List.length_append, List.length_append, darts_two h n, laidN_step]
    by_cases h1 : Stands L (2 * n)
    · simp [h1, this.1 h1]; omega
    · have h2 : ¬ Stands L (2 * n + 1) := fun q => h1 (this.2 q)
      simp [h1, h2]
theorem twin_iff {E : Nat} {L : List (List Nat)} (h : Good E L) (e : Nat) : Stands L (2 * e) ↔ Stands L (2 * e + 1) := ⟨fun q => tw_even e ▸ h.twin _ q, fun q => tw_odd e ▸ h.twin _ q⟩
theorem perm_mem {l m : List Nat} (hl : l.Nodup) (hm : m.Nodup) (h : ∀ x, x ∈ l ↔ x ∈ m) : l.Perm m := (List.perm_ext_iff_of_nodup hl hm).2 h
theorem sums {E : Nat} {L : List (List Nat)} (h : Good E L) : manyN L L.length = 2 * laidN L E := by
  rw [manyN_all, ← darts_two (twin_iff h) E]
  refine List.Perm.length_eq (perm_mem h.nodup (List.Pairwise.filter _ List.nodup_range) fun x => ?_)
  rw [List.mem_filter, List.mem_range]
  constructor
  · intro q; exact ⟨h.toWF.bdS q, decide_eq_true (q : Stands L x)⟩
  · rintro ⟨_, q⟩; exact of_decide_eq_true q
theorem laidN_le (L : List (List Nat)) (n : Nat) : laidN L n ≤ n := by
  unfold laidN
  exact Nat.le_trans (List.length_filter_le _ _) (by simp)
theorem many_le {E : Nat} {L : List (List Nat)} (h : Good E L) (n : Nat) : manyN L n ≤ 2 * E := by
  have h1 : manyN L n ≤ L.flatten.length := by
    unfold manyN
    conv => rhs; rw [← List.take_append_drop n L, List.flatten_append, List.length_append]
    omega
  have h2 := sums h
  rw [manyN_all] at h2
  have := laidN_le L E
  omega
theorem rnd_has {E : Nat} {L : List (List Nat)} (h : Good E L) {v j : Nat} {l : List Nat} (hv : L[v]? = some l) (hj : j < l.length) : Stands L (2 * ((rnd l).getD j 0 / 2)) := by
  have hs : Stands L ((rnd l).getD j 0) := stands_at hv (rnd_mem.1 (getD_mem (by rw [rnd_length]; exact hj)))
  have ht := h.twin _ hs
  unfold tw at ht
  split at ht
  · rwa [show (rnd l).getD j 0 - 1 = 2 * ((rnd l).getD j 0 / 2) by omega] at ht
  · rwa [show 2 * ((rnd l).getD j 0 / 2) = (rnd l).getD j 0 by omega]

theorem ins_filter {b : Int} {d : Nat} : ∀ {l : List Nat}, d ∉ l → (insB b d l).filter (· != d) = l
  | [], _ => by simp [insB]
  | x :: l, h => by
    have h1 : x ≠ d := fun e => h (by simp [e])
    have h2 : d ∉ l := fun q => h (by simp [q])
    have hl : l.filter (· != d) = l := List.filter_eq_self.2 fun y hy => by simp only [bne_iff_ne, ne_eq]; intro e; exact h2 (e ▸ hy)
    unfold insB
    split
    · simp [h1, hl]
    · simp [h1, ins_filter h2]
theorem rem_none {L : List (List Nat)} {d : Nat} (h : ¬ Stands L d) : remL L d = L := by
  unfold remL
  conv => rhs; rw [← List.map_id L]
  refine List.map_congr_left fun l hl => List.filter_eq_self.2 fun y hy => ?_
  simp only [bne_iff_ne, ne_eq]
  intro e
  exact h (List.mem_flatten.2 ⟨l, hl, e ▸ hy⟩)
theorem rem_put {L : List (List Nat)} {d v : Nat} {b : Int} (hv : v < L.length) (hn : ¬ Stands L d) : remL (putL L d v b) d = L := by
  have h0 : d ∉ L.getD v [] := fun q => hn (stands_at (some_getD hv) q)
  unfold putL
  have := rem_none hn
  unfold remL at this ⊢
  rw [List.map_set, this, ins_filter h0]
  apply List.ext_getElem?
  intro u
  rw [set_get hv]
  split
  · rename_i e; subst e; exact (some_getD hv).symm
  · rfl
theorem rem_comm (L : List (List Nat)) (d e : Nat) : remL (remL L d) e = remL (remL L e) d := by
  unfold remL
  rw [List.map_map, List.map_map]
  refine List.map_congr_left fun l _ => ?_
  simp only [Function.comp_apply, List.filter_filter]
  congr 1
  funext x
  exact Bool.and_comm _ _
theorem lift_layL {L : List (List Nat)} {e : Nat} {a b : Int × Int} (ha : chkErr L a.1 a.2 = 0) (hb : chkErr L b.1 b.2 = 0) (hn : ¬ Stands L (2 * e)) (hn1 : ¬ Stands L (2 * e + 1)) : liftL (layL L e a b) e = L := by
  unfold liftL layL
  rw [rem_comm, rem_put (by rw [putL_length]; exact chk_lt hb), rem_put (chk_lt ha) hn]
  rw [putL_stands (chk_lt ha)]
  rintro (q | q)
  · omega
  · exact hn1 q
theorem laidN_congr {L M : List (List Nat)} {n : Nat} (h : ∀ e, e < n → (Stands L (2 * e) ↔ Stands M (2 * e))) : laidN L n = laidN M n := by
  unfold laidN
  congr 1
  refine List.filter_congr fun e he => ?_
  have := h e (List.mem_range.1 he)
  simp only [this]
theorem Good.more {E F : Nat} {L : List (List Nat)} (h : Good E L) (hf : E ≤ F) : Good F L := ⟨⟨fun l hl d hd => by have := h.lt l hl d hd; omega, h.nodup⟩, h.twin⟩
theorem not_past {E : Nat} {L : List (List Nat)} (h : WF E L) {d : Nat} (hd : 2 * E ≤ d) : ¬ Stands L d := fun q => by have := h.bdS q; omega
/-- One edge more: two darts more. -/
theorem many_lay {E : Nat} {L : List (List Nat)} (h : Good E L) {a b : Int × Int} (ha : chkErr L a.1 a.2 = 0) (hb : chkErr L b.1 b.2 = 0) (hg : Good (E + 1) (layL L E a b)) :
    manyN (layL L E a b) (layL L E a b).length = manyN L L.length + 2 := by
  rw [sums hg, sums (h.more (Nat.le_succ E)), laidN_step, laidN_step, if_pos ((lay_stands ha hb).2 (Or.inl (by omega))), if_neg (not_past h.toWF (Nat.le_refl _))]
  rw [laidN_congr (L := layL L E a b) (M := L) fun e he => by
    rw [lay_stands ha hb]
    constructor
    · rintro (q | q)
      · omega
      · exact q
    · exact Or.inr]
  omega

theorem map_get (L : List (List Nat)) (v : Nat) : (L.map rnd)[v]? = (L[v]?).map rnd := by simp
theorem map_getD (L : List (List Nat)) (v : Nat) : (L.map rnd).getD v [] = rnd (L.getD v []) := by
  simp only [List.getD_eq_getElem?_getD, map_get]
  cases L[v]? <;> simp [rnd_nil]
theorem stands_map {L : List (List Nat)} {d : Nat} : Stands (L.map rnd) d ↔ Stands L d := by
  rw [stands_iff, stands_iff]
  constructor
  · rintro ⟨v, l, hl, hd⟩
    rw [map_get] at hl
    obtain ⟨m, hm, rfl⟩ := Option.map_eq_some_iff.1 hl
    exact ⟨v, m, hm, rnd_mem.1 hd⟩
  · rintro ⟨v, l, hl, hd⟩
    exact ⟨v, rnd l, by rw [map_get, hl]; rfl, rnd_mem.2 hd⟩
theorem Good.map {E : Nat} {L : List (List Nat)} (h : Good E L) : Good E (L.map rnd) := by
  refine ⟨⟨?_, ?_⟩, fun d hd => stands_map.2 (h.twin _ (stands_map.1 hd))⟩
  · intro l hl d hd
    exact h.toWF.bdS (stands_map.1 (List.mem_flatten.2 ⟨l, hl, hd⟩))
  · refine nodup_of (fun v l hv => ?_) fun u v l m d hu hv hl hm => ?_
    · rw [map_get] at hv
      obtain ⟨m, hm, rfl⟩ := Option.map_eq_some_iff.1 hv
      exact (rnd_perm m).nodup_iff.2 (h.toWF.nd hm)
    · rw [map_get] at hu hv
      obtain ⟨x, hx, rfl⟩ := Option.map_eq_some_iff.1 hu
      obtain ⟨y, hy, rfl⟩ := Option.map_eq_some_iff.1 hv
      exact h.toWF.one hx hy (rnd_mem.1 hl) (rnd_mem.1 hm)
theorem vtx_map {E : Nat} {L : List (List Nat)} (h : Good E L) {d : Nat} (hd : Stands L d) : vtx (L.map rnd) d = vtx L d := by
  obtain ⟨v, l, hl, hm⟩ := stands_iff.1 hd
  rw [h.toWF.vtx hl hm, h.map.toWF.vtx (v := v) (l := rnd l) (by rw [map_get, hl]; rfl) (rnd_mem.2 hm)]
theorem rnd_atD {l : List Nat} (h : l ≠ []) {j : Nat} (hj : j < l.length) : (rnd l).getD j 0 = l.getD ((argm l + j) % l.length) 0 := rotL_getD (argm_lt h) hj
theorem sc_rot {m n j : Nat} (_ : m < n) (hj : j < n) : (m + sc n j) % n = sc n ((m + j) % n) := by
  have h1 : (m + j) % n < n := Nat.mod_lt _ (by omega)
  rw [sc_mod hj, sc_mod h1, Nat.add_mod_mod, Nat.mod_add_mod, Nat.add_assoc]
/-- Round a vertex: the one behind. -/
theorem nxt_rnd {E : Nat} {L : List (List Nat)} (h : WF E L) {v j : Nat} {l : List Nat} (hv : L[v]? = some l) (hj : j < l.length) : nxt L ((rnd l).getD j 0) = (rnd l).getD (sc l.length j) 0 := by
  have h0 : l ≠ [] := by intro e; rw [e] at hj; exact absurd hj (Nat.not_lt_zero _)
  have hm := argm_lt h0
  have hq : (argm l + j) % l.length < l.length := Nat.mod_lt _ (by omega)
  rw [rnd_atD h0 hj, rnd_atD h0 (sc_lt hj), sc_rot hm hj]
  exact (h.at_ hv hq).2.2.1
theorem nxt_map {E : Nat} {L : List (List Nat)} (h : Good E L) {d : Nat} (hd : Stands L d) : nxt (L.map rnd) d = nxt L d := by
  obtain ⟨v, l, hl, hm⟩ := stands_iff.1 hd
  obtain ⟨j, hj, rfl⟩ := mem_getD (rnd_mem.2 hm)
  have hv : (L.map rnd)[v]? = some (rnd l) := by rw [map_get, hl]; rfl
  rw [(h.map.toWF.at_ hv hj).2.2.1, rnd_length]
  rw [rnd_length] at hj
  rw [nxt_rnd h.toWF hl hj]
theorem dErr_map {E : Nat} {L : List (List Nat)} (d : Int) : dErr E (L.map rnd) d = dErr E L d := by
  unfold dErr; simp only [stands_map]
/-- An act: its kind, its edge, two corners. -/
structure Act10 where
  kind : Int
  e : Int
  a : Int × Int
  b : Int × Int
def actVal (x : Act10) : Value := .agg #[.int .i64 x.kind, .int .i64 x.e, .int .i64 x.a.1, .int .i64 x.a.2, .int .i64 x.b.1, .int .i64 x.b.2]
/-- What it makes of the lists. -/
def actL (E : Nat) (L : List (List Nat)) (x : Act10) : List (List Nat) :=
  if 9 < unsg x.kind % 12 then lift E L x.e else lay E L x.e (crnR L x.a (unsg x.kind % 12 == 9)) (crnR L x.b (unsg x.kind % 12 == 9))
theorem actL_length (E : Nat) (L : List (List Nat)) (x : Act10) : (actL E L x).length = L.length := by
  unfold actL; split
  · exact lift_length _ _ _
  · exact lay_length _ _ _ _ _
theorem actL_good {E : Nat} {L : List (List Nat)} (h : Good E L) (x : Act10) : Good E (actL E L x) := by
  unfold actL; split
  · exact h.lift _
  · exact h.lay _ _ _
theorem Keeps.cellO {fp : Nat → Prop} {w w' : World} (hk : Keeps fp w w') {a : Addr} {v : Value} (h : w.cell? a = some v) (hn : ¬ fp a.block) : w'.cell? a = some v :=
  (World.cell?_of_block (hk.block _ (World.block_lt_of_cell? w _ h) hn)).trans h
/-- Both, done. -/
def DoPost (own : Nat → Prop) (p Et E B : Nat) (L : List (List Nat)) (w : World) (e : Ending) (w' : World) : Prop :=
  ∃ v, e = .returned (.tuple #[rval E v, .bool true]) ∧ Tu w' own p Et L ∧ LsRow w' B v L ∧ Keeps own w w'
theorem do_end {w w6 : World} {own : Nat → Prop} {p Et E B b n c : Nat} {L : List (List Nat)} {a : Option Addr} {cs : Array Value} (hk : Keeps own w w6) (hls : LsRow w6 B (.slice a n c) L) (hb : Blk w6 b cs 27) (hbw : w.heap.size ≤ b) (hcs : cs.size = 2) (ht : Tu w6 own p Et L) (hnb : ¬ own b) :
    Hid (Blk ((w6.setCell ⟨b, 0, none⟩ (.int .i64 (E : Int))).setCell ⟨b, 1, none⟩ (.slice a n c)) b #[.int .i64 (E : Int), .slice a n c] 27 ∧ Tu ((w6.setCell ⟨b, 0, none⟩ (.int .i64 (E : Int))).setCell ⟨b, 1, none⟩ (.slice a n c)) own p Et L ∧
      LsRow ((w6.setCell ⟨b, 0, none⟩ (.int .i64 (E : Int))).setCell ⟨b, 1, none⟩ (.slice a n c)) B (.slice a n c) L ∧ Keeps own w ((w6.setCell ⟨b, 0, none⟩ (.int .i64 (E : Int))).setCell ⟨b, 1, none⟩ (.slice a n c))) := by
  have hkb : Keeps (fun k => k = b) w6 ((w6.setCell ⟨b, 0, none⟩ (.int .i64 (E : Int))).setCell ⟨b, 1, none⟩ (.slice a n c)) := ((Keeps.refl (fun k => k = b) w6).setIn b 0 _ rfl).setIn b 1 _ rfl
  refine ⟨?_, ht.kept hkb fun k hk e => hnb (e ▸ hk), hls.setOther hb (by decide) (by decide) hkb, (hk.setCell _ _ fun q => absurd q (Nat.not_lt.2 hbw)).setCell _ _ fun q => absurd q (Nat.not_lt.2 hbw)⟩
  have h1 := (hb.set 0 (.int .i64 (E : Int))).set 1 (.slice a n c)
  match cs, hcs with
  | ⟨[x, y]⟩, _ => simpa using h1
/-- The document's room and the other's: an act within both is one. -/
def Room (E Et : Nat) (e : Int) : Prop := E = Et ∨ E ≤ Et ∧ 0 ≤ e ∧ e < E
theorem Room.le {E Et : Nat} {e : Int} (h : Room E Et e) : E ≤ Et := by rcases h with h | h <;> omega
theorem Room.lay {E Et : Nat} {e : Int} (h : Room E Et e) (L : List (List Nat)) (a b : Int × Int) : layErr Et L e a b = layErr E L e a b ∧ Proofs.YtdplphhlclhmfaaDoor.lay Et L e a b = Proofs.YtdplphhlclhmfaaDoor.lay E L e a b := by
  rcases h with rfl | ⟨h1, h2, h3⟩
  · exact ⟨rfl, rfl⟩
  · have q : layErr Et L e a b = layErr E L e a b := by unfold layErr; rw [if_neg (show ¬ (e < 0 ∨ (Et : Int) ≤ e) by omega), if_neg (show ¬ (e < 0 ∨ (E : Int) ≤ e) by omega)]
    exact ⟨q, by unfold Proofs.YtdplphhlclhmfaaDoor.lay; rw [q]⟩
theorem Room.lift {E Et : Nat} {e : Int} (h : Room E Et e) (L : List (List Nat)) : liftErr Et L e = liftErr E L e ∧ Proofs.YtdplphhlclhmfaaDoor.lift Et L e = Proofs.YtdplphhlclhmfaaDoor.lift E L e := by
  rcases h with rfl | ⟨h1, h2, h3⟩
  · exact ⟨rfl, rfl⟩
  · have q : liftErr Et L e = liftErr E L e := by unfold liftErr; rw [if_neg (show ¬ (e < 0 ∨ (Et : Int) ≤ e) by omega), if_neg (show ¬ (e < 0 ∨ (E : Int) ≤ e) by omega)]
    exact ⟨q, by unfold Proofs.YtdplphhlclhmfaaDoor.lift; rw [q]⟩
end Go.Proofs.YtdplphhlclhmfaaDoor
