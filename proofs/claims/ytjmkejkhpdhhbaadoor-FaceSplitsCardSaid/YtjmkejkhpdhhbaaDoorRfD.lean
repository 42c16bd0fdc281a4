/- The document's put. -/
import Derived.Test.YtjmkejkhpdhhbaaDoorRfC
namespace Go.Proofs.YtjmkejkhpdhhbaaDoor
open Go Go.RowKit
set_option linter.unusedVariables false
set_option linter.unusedSimpArgs false
set_option maxRecDepth 100000

theorem nats_one (l : List Nat) : ∀ u ∈ nats l, u.oneCell' = true := by
  intro u hu
  simp [nats] at hu
  obtain ⟨n, _, rfl⟩ := hu
  rfl
theorem nats_take (l : List Nat) (k : Nat) : nats (l.take k) = (nats l).take k := by simp [nats, List.map_take]
theorem nats_drop (l : List Nat) (k : Nat) : nats (l.drop k) = (nats l).drop k := by simp [nats, List.map_drop]
section
variable {w : World} {B g c : Nat} {l : List Nat}
theorem LRow.head (h : LRow w B (.slice (some ⟨g, 0, none⟩) l.length c) l) (k : Nat) (hk : k ≤ l.length) (W : World) (hW : Keeps (fun _ => False) w W) : Src W (.slice (some ⟨g, 0, none⟩) k c) k 1 (nats (l.take k)) := by
  have h' := h.keep hW
  refine .inr ⟨_, _, rfl, by rw [nats_length, List.length_take]; omega, fun j u hu => ?_, nats_one _⟩
  rw [nats_take, List.getElem?_take] at hu
  split at hu
  · exact h'.1.cells rfl j u hu
  · cases hu
theorem LRow.tail (h : LRow w B (.slice (some ⟨g, 0, none⟩) l.length c) l) (k : Nat) (hk : k ≤ l.length) (W : World) (hW : Keeps (fun _ => False) w W) (AD : Addr) (c' m : Nat) (hm : m = l.length - k) (hA : AD = ⟨g, k, none⟩ ∨ l.length ≤ k) :
    Src W (.slice (some AD) m c') m 1 (nats (l.drop k)) := by
  subst hm
  have h' := h.keep hW
  refine .inr ⟨_, _, rfl, by rw [nats_length, List.length_drop]; omega, fun j u hu => ?_, nats_one _⟩
  rcases hA with rfl | hA
  · rw [nats_drop, List.getElem?_drop] at hu
    have := h'.1.cells (g := g) rfl (k + j) u hu
    have e1 : (⟨g, 0, none⟩ : Addr).add (k + j) = ⟨g, k + j, none⟩ := by unfold Addr.add; split <;> simp_all
    have e2 : (⟨g, k, none⟩ : Addr).add j = ⟨g, k + j, none⟩ := by
      unfold Addr.add; split
      · rename_i e; simp_all
      · rfl
    rw [e1] at this
    rw [e2]; exact this
  · rw [List.drop_of_length_le hA] at hu
    simp [nats] at hu
end
/-- A new dart as what is appended. -/
theorem src_new {w W : World} {b : Nat} {d : Nat} {t : TypeId} (h : Blk w b #[.int .i64 (d : Int)] t) (hW : Keeps (fun _ => False) w W) : Src W (.slice (some ⟨b, 0, none⟩) 1 1) 1 1 (nats [d]) := by
  have h' := h.kept hW id
  refine .inr ⟨_, _, rfl, rfl, fun j u hu => ?_, nats_one _⟩
  have e1 : (⟨b, 0, none⟩ : Addr).add j = ⟨b, j, none⟩ := by unfold Addr.add; split <;> simp_all
  rw [e1, h'.cell]
  simpa [nats] using hu
theorem ins_at {l : List Nat} (hn : l.Nodup) (b : Int) (d : Nat) : ∃ K, K ≤ l.length ∧ (∀ i, i < l.length → (((l.getD i 0 : Nat) : Int) = b ↔ i = K)) ∧
    insB b d l = l.take ((if K < l.length then K else l.length - 1) + 1) ++ d :: l.drop ((if K < l.length then K else l.length - 1) + 1) := by
  by_cases h : ∃ i, i < l.length ∧ ((l.getD i 0 : Nat) : Int) = b
  · obtain ⟨K, hK, rfl⟩ := h
    refine ⟨K, by omega, fun i hi => ⟨fun e => getD_inj hn hi hK (by omega), fun e => by rw [e]⟩, ?_⟩
    rw [if_pos hK, getD_at hK]
    exact insB_at hn hK
  · refine ⟨l.length, Nat.le_refl _, fun i hi => ⟨fun e => absurd ⟨i, hi, e⟩ h, fun e => by omega⟩, ?_⟩
    rw [if_neg (by omega), insB_not fun x hx e => ?_]
    · by_cases h0 : l = []
      · subst h0; simp
      · have : 0 < l.length := by
          cases l with
          | nil => exact absurd rfl h0
          | cons a l => simp
        rw [show l.length - 1 + 1 = l.length by omega, List.take_length, List.drop_length]
    · obtain ⟨i, hi, rfl⟩ := mem_getD hx
      exact h ⟨i, hi, e⟩
section
variable {w : World} {B E : Nat} {v : Value} {L : List (List Nat)}
theorem ownsRow_ne {w : World} {base : Nat} {e t : TypeId} {size : Nat} {v : Value} {n b : Nat} {xs : List Value} {cs : Array Value} (h : w.ownsRow base e size v n xs) (hb : Blk w b cs t) (ht : t ≠ e) : ∀ k, v.ownBlock = some k → ¬ k = b := by
  rintro k hk rfl
  rcases h.2 with ⟨rfl, _⟩ | ⟨g, c, cur, rfl, _, hg, _⟩
  · simp [Value.ownBlock] at hk
  · simp [Value.ownBlock] at hk
    subst hk
    rw [show w.heap[g]? = _ from hb] at hg
    simp at hg
    exact ht hg.2
theorem LRow.setOther {w w' : World} {B b : Nat} {u : Value} {l : List Nat} {cs : Array Value} {t : TypeId} (h : LRow w B u l) (hb : Blk w b cs t) (ht : t ≠ 3) (hk : Keeps (fun k => k = b) w w') : LRow w' B u l :=
  ⟨ownsRow_kept h.1 hk (ownsRow_ne h.1 hb ht), h.2⟩
theorem LsRow.setOther {w w' : World} {B b : Nat} {v : Value} {L : List (List Nat)} {cs : Array Value} {t : TypeId} (h : LsRow w B v L) (hb : Blk w b cs t) (ht : t ≠ 3) (ht2 : t ≠ 47) (hk : Keeps (fun k => k = b) w w') : LsRow w' B v L := by
  obtain ⟨cells, h1, h2⟩ := h
  refine ⟨cells, ownsRow_kept h1 hk (ownsRow_ne h1 hb ht2), fun i l hl => ?_⟩
  obtain ⟨u, hu, hr⟩ := h2 i l hl
  exact ⟨u, hu, hr.setOther hb ht hk⟩
theorem app_chain {w0 W0 w1 W1 w2 w3 : World} {v1 v2 : Value} (k0 : Keeps (fun _ => False) w0 W0) (hk1 : Keeps (fun _ => False) W0 w1) (hb1 : ∀ k, v1.ownBlock = some k → (Value.slice none 0 0).ownBlock = some k ∨ k = W0.heap.size)
    (k1 : Keeps (fun _ => False) w1 W1) (hk2 : Keeps (fun k => v1.ownBlock = some k) W1 w2) (hb2 : ∀ k, v2.ownBlock = some k → v1.ownBlock = some k ∨ k = W1.heap.size) (hk3 : Keeps (fun k => v2.ownBlock = some k) w2 w3) : Keeps (fun _ => False) w0 w3 := by
  have s0 := k0.size
  have s1 := hk1.size
  have s2 := k1.size
  have e1 : ∀ k, v1.ownBlock = some k → w0.heap.size ≤ k := fun k e => by
    rcases hb1 k e with h | h
    · simp [Value.ownBlock] at h
    · omega
  have e2 : ∀ k, v2.ownBlock = some k → w0.heap.size ≤ k := fun k e => by
    rcases hb2 k e with h | h
    · exact e1 k h
    · omega
  exact ((((k0.trans' hk1).trans' k1).trans hk2 fun i hi e => by have := e1 i e; omega)).trans hk3 fun i hi e => by have := e2 i e; omega
/-- What the three appends leave. -/
def PutCut (B : Nat) (l : List Nat) (w0 : World) (t : Value) (wc : World) : Prop := LRow wc B t l ∧ Keeps (fun _ => False) w0 wc
theorem putCut {B d : Nat} {l1 l2 : List Nat} {w0 wc : World} {t : Value} {n : Nat} {xs : List Value} (h : wc.ownsRow B 3 1 t n xs) (hn : n = l1.length + 1 + l2.length) (hx : xs = nats l1 ++ nats [d] ++ nats l2) (hk : Keeps (fun _ => False) w0 wc) : PutCut B (l1 ++ d :: l2) w0 t wc := by
  subst hn hx
  refine ⟨⟨?_, fun e => by simp at e⟩, hk⟩
  have e1 : l1.length + 1 + l2.length = (l1 ++ d :: l2).length := by simp; omega
  have e2 : nats l1 ++ nats [d] ++ nats l2 = nats (l1 ++ d :: l2) := by simp [nats]
  rw [e1, e2] at h
  exact h
set_option maxHeartbeats 2000000 in
theorem rput (h : LsRow w B v L) (hw : WF E L) (hV : L.length ≤ 1048576) (hE : E ≤ 1048576) {n d : Nat} {l : List Nat} (hl : L[n]? = some l) (hd : d < 2097152) (b : Int) (d' n' : Int) (hd' : d' = d) (hn' : n' = n) :
    Calls Tryd.prog 69 #[rval E v, .int .i64 d', .int .i64 n', .int .i64 b] w (RPost E B (putL L d n b) w) := by
  subst hd' hn'
  have hn := (List.getElem?_eq_some_iff.1 hl).1
  have h0 : 0 < L.length := by omega
  obtain ⟨i0, hi, hz0, hz1, hz2⟩ := info_parts infoI
  have hBw := h.size_le h0
  have hnd := hw.nd hl
  have hll : l.length ≤ 2 * E := by
    have h1 : l.length ≤ (List.range (2 * E)).length := List.Nodup.length_le_of_subset (hw.nd hl) (fun x hx => List.mem_range.2 (hw.bd hl hx))
    simpa using h1
  obtain ⟨K, hK, hKi, hins⟩ := ins_at hnd b d
  have HWI := Lib.hid (fun W (hk : Keeps (fun _ => False) w W) (u : Value) (hu : LRow W B u (insB b d l)) => rwith (E := E) (h.keep hk) h0 hV hn hu (n : Int) rfl)
  have hput : L.set n (insB b d l) = putL L d n b := by unfold putL; rw [getD_some hl]
  rw [hput] at HWI
  rw [hins] at HWI
  obtain ⟨g, c, rfl, hc, hB, hat⟩ := h.at_ h0
  obtain ⟨u, hu, hrow⟩ := hat n l hl
  have hgb : g < w.heap.size := World.block_lt_of_cell? w _ hu
  generalize hW : (w.alloc (.cells #[.int .i64 (E : Int), .slice (some ⟨g, 0, none⟩) L.length c] 32)).alloc (.cells #[.int .i64 0, .slice none 0 0] 32) = w0
  have hK0 : Keeps (fun _ => False) w w0 := by rw [← hW]; exact ((Keeps.refl _ _).alloc _).alloc _
  have HB1 : Hid (Blk w0 w.heap.size #[.int .i64 (E : Int), .slice (some ⟨g, 0, none⟩) L.length c] 32) := by rw [← hW]; exact (Blk.new w _ _).alloc _
  have HB2 : Hid (Blk w0 (w.heap.size + 1) #[.int .i64 0, .slice none 0 0] 32) := by rw [← hW]; exact Blk.newAt _ _ _ (by simp)
  have HK0 := Lib.hid hK0
  have hu0 := hK0.cellF hu
  have HROW := Lib.hid (hrow.keep hK0)
  have hBs : B ≤ w0.heap.size := Nat.le_trans hBw hK0.size
  have HI := Lib.hid hi
  clear h hat hu hrow hput hins hw hl hnd hK0
  generalize putL L d n b = L2 at *
  unfold RPost rval
  rcases HROW.out.1.2 with ⟨rfl, hlen⟩ | ⟨g2, c2, cur, rfl, hBg, hgg, hnc, _⟩
  · have hnil : l = [] := List.eq_nil_of_length_eq_zero hlen
    subst hnil
    go_enter Tryd.func69, Tryd.ntmps69
    go_upto_region 1 with fail
    clear hW
    have b1 := HB1.out.cell (i := 1)
    simp only [List.getElem?_toArray, List.getElem?_cons_zero, List.getElem?_cons_succ] at b1
    go_wp2_with fail
    go_loopw [10, 11] (fun a i wr => w0 = wr ∧ a = .int .i64 (-1) ∧ i = .int .i64 0) (fun _ _ _ => 0)
    case atStart => exact ⟨rfl, rfl, rfl⟩
    case round =>
      obtain ⟨rfl, rfl, rfl⟩ := hrel
      go_upto_region 9 with fail
      have hw00 : IntKind.i64.wrap 0 = 0 := by decide
      go_cut [12] (fun t wc => Hid (PutCut B ([] ++ d :: []) w0 t wc))
      case first =>
        go_region_held3 (fun _ => True) (trivial)
          (first
            | (refine step_appS rfl _ _ 47 rfl B 3 i0 (.int .i64 0) 1 8 Tryd.underlying47 HI.out hz0 hz1 hz2 rfl (by decide) (.slice none 0 0) 0 [] rfl (World.ownsRow_nil _ _ _ _) _ 0 [] rfl (.inl ⟨rfl, rfl, rfl⟩) (by first | decide | (unfold maxLen; omega) | omega) (by first | decide | (unfold maxLen; omega) | omega) (by first | exact hBs | (simp; omega)) ?_; intro v1 w1 ho1 hk1 hb1 hn1; have hs1 := hk1.size; have hk1' : Keeps (fun _ => False) _ w1 := hk1.mono fun _ _ e => by simp [Value.ownBlock] at e)
            | (refine step_appS rfl _ _ 47 rfl B 3 i0 (.int .i64 0) 1 8 Tryd.underlying47 HI.out hz0 hz1 hz2 rfl (by decide) v1 _ _ rfl (by first | exact ho1 | exact ho1.alloc _) _ 1 (nats [d]) rfl (by first | exact src_new (Blk.new _ _ _) (Keeps.refl _ _) | exact src_new (by exact Blk.new _ _ _) hk1') (by first | decide | (unfold maxLen; omega) | omega) (by first | decide | (unfold maxLen; omega) | omega) (by first | exact Nat.le_trans hBs hs1 | (simp at hs1 ⊢; omega)) ?_; intro v2 w2 ho2 hk2 hb2 hn2; have hs2 := hk2.size)
            | (refine step_appS rfl _ _ 47 rfl B 3 i0 (.int .i64 0) 1 8 Tryd.underlying47 HI.out hz0 hz1 hz2 rfl (by decide) v2 _ _ rfl ho2 _ 0 [] rfl (.inl ⟨rfl, rfl, rfl⟩) (by first | decide | (unfold maxLen; omega) | omega) (by first | decide | (unfold maxLen; omega) | omega) (by simp at hs1 hs2; omega) ?_; intro v3 w3 ho3 hk3 hb3 hn3)
            | fail)
        all_goals
          have HP : Hid (PutCut B ([] ++ d :: []) w0 v3 w3) := putCut ho3 rfl rfl (app_chain (by repeat (first | exact Keeps.refl _ _ | refine Keeps.drew ?_ | refine Keeps.alloc ?_ _)) hk1' hb1 (by first | exact Keeps.refl _ _ | exact (Keeps.refl _ _).alloc _) hk2 hb2 hk3)
          clear ho1 hk1 hb1 hn1 hs1 hk1' ho2 hk2 hb2 hn2 hs2 ho3 hk3 hb3 hn3
          go_wp2_with fail
          go_meet
          exact HP
      case rest =>
        obtain ⟨hrow, hkc⟩ := hcut.out
        have hk2 := HK0.out.trans' hkc
        have hB1' := HB1.out.kept hkc id
        have hB2' := HB2.out.kept hkc id
        have c0 := hB1'.cell (i := 0)
        have c1 := hB1'.cell (i := 1)
        simp only [List.getElem?_toArray, List.getElem?_cons_zero, List.getElem?_cons_succ] at c0 c1
        have hwi := Lib.hid (HWI.out wc hk2 _ (by simpa using hrow))
        have HK2 := Lib.hid hk2
        have HB2' := Lib.hid hB2'
        unfold RPost rval at hwi
        clear hcut hrow hkc hk2 hB1' hB2'
        go_wp2_with fail
        refine hwi.out.mono ?_
        rintro e w4 ⟨v4, rfl, hls, hk4⟩
        obtain ⟨v4a, v4c, rfl⟩ : ∃ a c, v4 = .slice a L2.length c := by
          obtain ⟨_, h1, _⟩ := hls
          exact ownsRow_slice h1
        have hB2'' := HB2'.out.kept hk4 id
        have e0 := hB2''.cell (i := 0)
        have e1 := hB2''.cell (i := 1)
        have f0 := hB2''.free 0
        have f1 := hB2''.free 1
        have hlt := hB2''.lt
        simp only [List.getElem?_toArray, List.getElem?_cons_zero, List.getElem?_cons_succ] at e0 e1
        have HW := Lib.hid ((hB2''.set 0 (.int .i64 (E : Int))).set 1 (.slice v4a L2.length v4c))
        have HKW : Hid (Keeps (fun _ => False) w ((w4.setCell ⟨w.heap.size + 1, 0, none⟩ (.int .i64 (E : Int))).setCell ⟨w.heap.size + 1, 1, none⟩ (.slice v4a L2.length v4c))) :=
          ((HK2.out.trans' hk4).setNew (Nat.le_succ _) 0 _).setNew (Nat.le_succ _) 1 _
        have HLS := Lib.hid (hls.setOther hB2'' (by decide) (by decide) (((Keeps.refl (fun k => k = w.heap.size + 1) w4).setIn (w.heap.size + 1) 0 (.int .i64 (E : Int)) rfl).setIn (w.heap.size + 1) 1 (.slice v4a L2.length v4c) rfl))
        clear hB2'' hls hk4
        go_wp2_with fail
        generalize (w4.setCell ⟨w.heap.size + 1, 0, none⟩ (.int .i64 (E : Int))).setCell ⟨w.heap.size + 1, 1, none⟩ (.slice v4a L2.length v4c) = W at *
        have k0 := HW.out.cell (i := 0)
        have k1 := HW.out.cell (i := 1)
        refine bodyPost_ret (v := rval E (.slice v4a L2.length v4c)) (by simp at k0 k1; simp [results, Tryd.results69, go_sem, k0, k1, rval]) rfl ?_
        exact ⟨_, rfl, HLS.out, HKW.out⟩
  · have hlp : 0 < l.length := by
      rcases Nat.eq_zero_or_pos l.length with h | h
      · have h1 := HROW.out.2 (List.eq_nil_of_length_eq_zero h)
        simp at h1
      · exact h
    have hcell : ∀ i, i < l.length → w0.cell? ⟨g2, i, none⟩ = some (.int .i64 ((l.getD i 0 : Nat) : Int)) := fun i hi => by
      rw [HROW.out.1.cellAt i (by omega), nats_get hi]
    have HC := Lib.hid hcell
    have HKI := Lib.hid hKi
    clear hcell hKi
    obtain ⟨A, hA⟩ : ∃ A, A = if K < l.length then K else l.length - 1 := ⟨_, rfl⟩
    have HAA := Lib.hid hA.symm
    have hAl : A + 1 ≤ l.length := by rw [hA]; split <;> omega
    clear hA
    have hcc : ((c2 = A + 1) = False ∧ True) ∨ ((c2 = A + 1) = True ∧ l.length ≤ A + 1) := by
      by_cases hcap : c2 = A + 1
      · exact .inr ⟨eq_true hcap, by omega⟩
      · exact .inl ⟨eq_false hcap, trivial⟩
    have HCC := Lib.hid hcc
    have hw1 : wrap64 ((l.length : Int) - 1) = (l.length : Int) - 1 := by unfold wrap64; omega
    clear hcc
    go_enter Tryd.func69, Tryd.ntmps69
    go_upto_region 1 with fail
    clear hW
    have b1 := HB1.out.cell (i := 1)
    simp only [List.getElem?_toArray, List.getElem?_cons_zero, List.getElem?_cons_succ] at b1
    go_wp2_with fail
    go_loopw [10, 11] (fun a i wr => w0 = wr ∧ ∃ (k : Nat) (ak : Int), k ≤ l.length ∧ a = .int .i64 ak ∧ i = .int .i64 (k : Int) ∧ Hid (ak = if K < k then (K : Int) else (l.length : Int) - 1)) (fun _ i _ => l.length - (intOf i).toNat)
    case atStart => exact ⟨rfl, 0, _, Nat.zero_le _, rfl, rfl, rfl⟩
    case round =>
      obtain ⟨rfl, k, ak, hk, rfl, rfl, HAK⟩ := hrel
      by_cases hkl : k < l.length
      · have hck := HC.out k hkl
        have hki := HKI.out k hkl
        generalize ((l.getD k 0 : Nat) : Int) = x at *
        by_cases hkK : k = K
        · obtain rfl : x = b := hki.2 hkK
          subst hkK
          have hb : (x == x) = true := by simp
          have HN : Hid ((k : Int) = if k < k + 1 then (k : Int) else (l.length : Int) - 1) := (if_pos (Nat.lt_succ_self k)).symm
          clear hki
          go_wp2_with fail
          refine ⟨⟨trivial, k + 1, _, hkl, rfl, by go_num, HN⟩, by simp [intOf]; omega⟩
        · have hb : (x == b) = false := by rw [beq_eq_false_iff_ne]; exact fun e => hkK (hki.1 e)
          have HN : Hid (ak = if K < k + 1 then (K : Int) else (l.length : Int) - 1) := by
            show ak = _
            rw [HAK.out]
            by_cases h : K < k
            · rw [if_pos h, if_pos (by omega)]
            · rw [if_neg h, if_neg (by omega)]
          clear hki
          go_wp2_with fail
          refine ⟨⟨trivial, k + 1, _, hkl, rfl, by go_num, HN⟩, by simp [intOf]; omega⟩
      · obtain rfl : k = l.length := by omega
        obtain rfl : ak = (A : Int) := by
          rw [HAK.out, ← HAA.out]; split <;> omega
        clear HAK
        go_upto_region 9 with fail
        have hb1 : (0 : Int) ≤ (A : Int) + 1 := by omega
        have hb2 : (A : Int) + 1 ≤ (c2 : Int) := by omega
        have hb3 : (A : Int) + 1 ≤ (l.length : Int) := by omega
        have hb5 : (l.length : Int) ≤ (c2 : Int) := by omega
        have hb6 : IntKind.i64.wrap ((A : Int) + 1) = (A : Int) + 1 := by rw [IntKind.wrap_i64]; omega
        have hb7 : wrap64 ((A : Int) + 1) = (A : Int) + 1 := by unfold wrap64; omega
        have HLL : Hid ((l.take (A + 1)).length + 1 + (l.drop (A + 1)).length = 0 + (A + 1) + 1 + (l.length - (A + 1))) := by
          show (l.take (A + 1)).length + 1 + (l.drop (A + 1)).length = _
          rw [List.length_take, List.length_drop]; exact ar_len hAl
        have HMX := Lib.hid (ar_mx hAl hll hE)
        go_cut [12] (fun t wc => Hid (PutCut B (l.take (A + 1) ++ d :: l.drop (A + 1)) w0 t wc))
        case first =>
          have hkd : Keeps (fun _ => False) w0 w0.drew := (Keeps.refl _ _).drew
          have hka : Keeps (fun _ => False) w0 (w0.alloc (.cells #[.int .i64 (d : Int)] 3)).drew := ((Keeps.refl _ _).alloc _).drew
          have HKD := Lib.hid hkd
          have HKA := Lib.hid hka
          have HHD := Lib.hid (HROW.out.head (A + 1) hAl)
          have HTL := Lib.hid (HROW.out.tail (A + 1) hAl)
          have HBD := Lib.hid (Nat.le_trans hBs hkd.size)
          have HBA := Lib.hid (Nat.le_trans hBs hka.size)
          clear hkd hka
          rcases HCC.out with ⟨hcap1, HCL⟩ | ⟨hcap1, hcl⟩
          case' inr => have HCL := Lib.hid hcl; clear hcl
          all_goals
            go_region_held3 (fun _ => True) (trivial)
              (first
                | (refine step_appS rfl _ _ 47 rfl B 3 i0 (.int .i64 0) 1 8 Tryd.underlying47 HI.out hz0 hz1 hz2 rfl (by decide) (.slice none 0 0) 0 [] rfl (World.ownsRow_nil _ _ _ _) _ (A + 1) (nats (l.take (A + 1))) rfl (HHD.out _ HKD.out) HMX.out.1 HMX.out.2.1 HBD.out ?_; intro v1 w1 ho1 hk1 hb1 hn1; have hk1' : Keeps (fun _ => False) _ w1 := hk1.mono fun _ _ e => by simp [Value.ownBlock] at e)
                | (refine step_appS rfl _ _ 47 rfl B 3 i0 (.int .i64 0) 1 8 Tryd.underlying47 HI.out hz0 hz1 hz2 rfl (by decide) (.slice none 0 0) 0 [] rfl (World.ownsRow_nil _ _ _ _) _ (A + 1) (nats (l.take (A + 1))) rfl (HHD.out _ HKA.out) HMX.out.1 HMX.out.2.1 HBA.out ?_; intro v1 w1 ho1 hk1 hb1 hn1; have hk1' : Keeps (fun _ => False) _ w1 := hk1.mono fun _ _ e => by simp [Value.ownBlock] at e)
                | (refine step_appS rfl _ _ 47 rfl B 3 i0 (.int .i64 0) 1 8 Tryd.underlying47 HI.out hz0 hz1 hz2 rfl (by decide) v1 _ _ rfl ho1 _ 1 (nats [d]) rfl (src_new (by exact Blk.new _ _ _) hk1') HMX.out.2.2.1 HMX.out.2.2.2.1 (Nat.le_trans HBA.out hk1'.size) ?_; intro v2 w2 ho2 hk2 hb2 hn2; have hc3 := app_chain HKA.out hk1' hb1 (Keeps.refl _ _) hk2 hb2 (Keeps.refl _ _))
                | (refine step_appS rfl _ _ 47 rfl B 3 i0 (.int .i64 0) 1 8 Tryd.underlying47 HI.out hz0 hz1 hz2 rfl (by decide) v1 _ _ rfl (ho1.alloc _) _ 1 (nats [d]) rfl (src_new (Blk.new w1 _ _) (Keeps.refl _ _)) HMX.out.2.2.1 HMX.out.2.2.2.1 (Nat.le_trans HBD.out (Nat.le_trans hk1'.size ((Keeps.refl (fun _ => False) _).alloc _).size)) ?_; intro v2 w2 ho2 hk2 hb2 hn2; have hc3 := app_chain HKD.out hk1' hb1 ((Keeps.refl _ _).alloc _) hk2 hb2 (Keeps.refl _ _))
                | (refine step_appS rfl _ _ 47 rfl B 3 i0 (.int .i64 0) 1 8 Tryd.underlying47 HI.out hz0 hz1 hz2 rfl (by decide) v2 _ _ rfl ho2 _ (l.length - (A + 1)) (nats (l.drop (A + 1))) rfl (HTL.out _ hc3 _ _ _ rfl (by first | exact .inl rfl | exact .inr HCL.out)) HMX.out.2.2.2.2.1 HMX.out.2.2.2.2.2 (Nat.le_trans hBs hc3.size) ?_; intro v3 w3 ho3 hk3 hb3 hn3)
                | fail)
            all_goals
              have HP : Hid (PutCut B (l.take (A + 1) ++ d :: l.drop (A + 1)) w0 v3 w3) := putCut ho3 HLL.out.symm (by simp only [List.nil_append]) (hc3.trans hk3 fun i hi e => by
                rcases hb2 i e with h | h
                · rcases hb1 i h with h2 | h2
                  · simp [Value.ownBlock] at h2
                  · exact absurd hi (Nat.not_lt.2 (by rw [h2]; first | exact HKD.out.size | exact HKA.out.size))
                · exact absurd hi (Nat.not_lt.2 (by rw [h]; first | exact Nat.le_trans HKA.out.size hk1'.size | exact Nat.le_trans HKD.out.size (Nat.le_trans hk1'.size ((Keeps.refl (fun _ => False) _).alloc _).size))))
              clear ho1 hk1 hb1 hn1 hk1' ho2 hk2 hb2 hn2 hc3 ho3 hk3 hb3 hn3
              go_wp2_with fail
              go_meet
              exact HP
        case rest =>
          obtain ⟨hrow, hkc⟩ := hcut.out
          have hk2 := HK0.out.trans' hkc
          have hB1' := HB1.out.kept hkc id
          have hB2' := HB2.out.kept hkc id
          have c0 := hB1'.cell (i := 0)
          have c1 := hB1'.cell (i := 1)
          simp only [List.getElem?_toArray, List.getElem?_cons_zero, List.getElem?_cons_succ] at c0 c1
          have hwi := Lib.hid (HWI.out wc hk2 _ (by have := hrow; rw [← HAA.out] at this; exact this))
          have HK2 := Lib.hid hk2
          have HB2' := Lib.hid hB2'
          unfold RPost rval at hwi
          clear hcut hrow hkc hk2 hB1' hB2'
          go_wp2_with fail
          refine hwi.out.mono ?_
          rintro e w4 ⟨v4, rfl, hls, hk4⟩
          obtain ⟨v4a, v4c, rfl⟩ : ∃ a c, v4 = .slice a L2.length c := by
            obtain ⟨_, h1, _⟩ := hls
            exact ownsRow_slice h1
          have hB2'' := HB2'.out.kept hk4 id
          have e0 := hB2''.cell (i := 0)
          have e1 := hB2''.cell (i := 1)
          have f0 := hB2''.free 0
          have f1 := hB2''.free 1
          have hlt := hB2''.lt
          simp only [List.getElem?_toArray, List.getElem?_cons_zero, List.getElem?_cons_succ] at e0 e1
          have HW := Lib.hid ((hB2''.set 0 (.int .i64 (E : Int))).set 1 (.slice v4a L2.length v4c))
          have HKW : Hid (Keeps (fun _ => False) w ((w4.setCell ⟨w.heap.size + 1, 0, none⟩ (.int .i64 (E : Int))).setCell ⟨w.heap.size + 1, 1, none⟩ (.slice v4a L2.length v4c))) :=
            ((HK2.out.trans' hk4).setNew (Nat.le_succ _) 0 _).setNew (Nat.le_succ _) 1 _
          have HLS := Lib.hid (hls.setOther hB2'' (by decide) (by decide) (((Keeps.refl (fun k => k = w.heap.size + 1) w4).setIn (w.heap.size + 1) 0 (.int .i64 (E : Int)) rfl).setIn (w.heap.size + 1) 1 (.slice v4a L2.length v4c) rfl))
          clear hB2'' hls hk4
          go_wp2_with fail
          generalize (w4.setCell ⟨w.heap.size + 1, 0, none⟩ (.int .i64 (E : Int))).setCell ⟨w.heap.size + 1, 1, none⟩ (.slice v4a L2.length v4c) = W at *
          have k0 := HW.out.cell (i := 0)
          have k1 := HW.out.cell (i := 1)
          refine bodyPost_ret (v := rval E (.slice v4a L2.length v4c)) (by simp at k0 k1; simp [results, Tryd.results69, go_sem, k0, k1, rval]) rfl ?_
          exact ⟨_, rfl, HLS.out, HKW.out⟩
end
end Go.Proofs.YtjmkejkhpdhhbaaDoor
