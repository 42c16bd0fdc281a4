/- kin: Groups (plain). kin: Groups. -/
import Derived.Test.YtdplphhlclhmfaaDoorKiF
import Derived.Test.YtdplphhlclhmfaaDoorKiI
import Derived.Deep.LoopGhost
import Derived.Deep.DeepCutAuto
namespace Go.Proofs.YtdplphhlclhmfaaDoor
open Go Go.RowKit
set_option linter.unusedVariables false
set_option linter.unusedSimpArgs false
set_option maxRecDepth 100000

/-! kin: Groups (plain). -/
/-- The vertices of the groups below v are told. -/
def oV (g : List Nat) (v : Nat) : List Nat := g.map fun x => if x < v then x else g.length
structure GrI (L : List (List Nat)) (g : List Nat) (v : Nat) (o wait : List Nat) (x : Nat) (todo : List Nat) : Prop where
  len : o.length = g.length
  old : ∀ y, y < g.length → g.getD y 0 < v → o.getD y 0 = g.getD y 0
  new : ∀ y, y < g.length → v ≤ g.getD y 0 → (o.getD y 0 = v ∧ g.getD y 0 = v) ∨ o.getD y 0 = g.length
  hv : o.getD v 0 = v
  clo : ∀ y, y < g.length → o.getD y 0 = v → y ∈ wait ∨ ∀ d, Stands L d → vtx L d = y → (y = x → d ∉ todo) → o.getD (De L d) 0 = v
  wt : ∀ y ∈ wait, y < g.length ∧ o.getD y 0 = v
section
variable {L : List (List Nat)} {E v x d : Nat} {o wait todo : List Nat}
theorem oV_length (g : List Nat) (v : Nat) : (oV g v).length = g.length := by simp [oV]
theorem oV_get (g : List Nat) (v : Nat) {y : Nat} (hy : y < g.length) : (oV g v).getD y 0 = if g.getD y 0 < v then g.getD y 0 else g.length := by
  unfold oV
  simp [List.getD_eq_getElem?_getD, hy]
theorem getD_ext {a b : List Nat} (hl : a.length = b.length) (h : ∀ y, y < a.length → a.getD y 0 = b.getD y 0) : a = b := by
  apply List.ext_getElem hl
  intro i h1 h2
  have := h i h1
  simpa [List.getD_eq_getElem?_getD, h1, h2] using this
/-- A group is begun. -/
theorem GrI.begin (hg : Good E L) (hv : v < L.length) (h0 : (oV (grp L E) v).getD v 0 = L.length) : GrI L (grp L E) v ((oV (grp L E) v).set v v) [v] v [] := by
  have hok := grp_ok hg
  have hl := hok.len
  have hgv : (grp L E).getD v 0 = v := by
    have := hok.le v hv
    rw [oV_get _ _ (by rw [hl]; exact hv)] at h0
    by_cases q : (grp L E).getD v 0 < v
    · rw [if_pos q] at h0; omega
    · omega
  have hset : ∀ y, ((oV (grp L E) v).set v v).getD y 0 = if y = v then v else (oV (grp L E) v).getD y 0 := fun y => getD_setL _ _ _ _ (by rw [oV_length, hl]; exact hv)
  refine ⟨by rw [List.length_set, oV_length], fun y hy hlt => ?_, fun y hy hle => ?_, by rw [hset, if_pos rfl], fun y hy e => ?_, fun y hy => ?_⟩
  · rw [hset, if_neg (fun e => by rw [e, hgv] at hlt; omega), oV_get _ _ hy, if_pos hlt]
  · rw [hset]
    split
    · rename_i e; exact Or.inl ⟨rfl, by rw [e, hgv]⟩
    · rw [oV_get _ _ hy, if_neg (by omega)]; exact Or.inr rfl
  · by_cases q : y = v
    · exact Or.inl (by rw [q]; exact List.mem_singleton.2 rfl)
    · rw [hset, if_neg q, oV_get _ _ hy] at e
      split at e
      · omega
      · rw [hl] at e; omega
  · have := List.mem_singleton.1 hy
    rw [this]
    exact ⟨by rw [hl]; exact hv, by rw [hset, if_pos rfl]⟩
theorem GrI.lt (h : GrI L (grp L E) v o wait x todo) (hg : Good E L) {y : Nat} (hy : y < L.length) : o.getD y 0 ≤ L.length := by
  have hok := grp_ok hg
  have hl := hok.len
  by_cases q : (grp L E).getD y 0 < v
  · rw [h.old y (by omega) q]
    have := hok.le y hy
    omega
  · rcases h.new y (by omega) (by omega) with ⟨e, e2⟩ | e
    · have := hok.le y hy; omega
    · omega
/-- The last that waits is taken. -/
theorem GrI.take (h : GrI L (grp L E) v o (wait ++ [x]) d []) (hg : Good E L) : GrI L (grp L E) v o wait x (arL L x) := by
  refine ⟨h.len, h.old, h.new, h.hv, fun y hy e => ?_, fun y hy => h.wt y (List.mem_append_left _ hy)⟩
  rcases h.clo y hy e with q | q
  · rcases List.mem_append.1 q with q | q
    · exact Or.inl q
    · refine Or.inr fun d' hs hv' hn => ?_
      have e2 := List.mem_singleton.1 q
      refine absurd ((arL_iff hg.toWF ?_).2 ⟨hs, by rw [hv', e2]⟩) (hn e2)
      rw [← e2, ← (grp_ok hg).len]; exact hy
  · exact Or.inr fun d' hs hv' _ => q d' hs hv' fun _ => by simp
/-- A dart leads to what is told. -/
theorem GrI.seen (h : GrI L (grp L E) v o wait x (d :: todo)) (hg : Good E L) (hs : Stands L d) (hx : vtx L d = x) (hxv : o.getD x 0 = v) (hne : o.getD (De L d) 0 ≠ L.length) : GrI L (grp L E) v o wait x todo := by
  have hok := grp_ok hg
  have hl := hok.len
  have hxl : x < L.length := by rw [← hx]; exact hg.toWF.vtx_lt hs
  have hy : De L d < L.length := hg.toWF.vtx_lt (hg.twin _ hs)
  have hgx : (grp L E).getD x 0 = v ∨ (grp L E).getD x 0 < v ∧ o.getD x 0 = (grp L E).getD x 0 := by
    by_cases q : (grp L E).getD x 0 < v
    · exact Or.inr ⟨q, h.old x (by omega) q⟩
    · rcases h.new x (by omega) (by omega) with e | e
      · exact Or.inl e.2
      · have := hok.le x hxl; omega
  have hgx : (grp L E).getD x 0 = v := by
    rcases hgx with e | e
    · exact e
    · omega
  have hsame : (grp L E).getD (De L d) 0 = (grp L E).getD x 0 := by
    rw [← hx]
    exact ((grp_iff hg (hg.toWF.vtx_lt hs) hy).2 (hang_tw hg hs)).symm
  have hov : o.getD (De L d) 0 = v := by
    rcases h.new (De L d) (by omega) (by omega) with e | e
    · exact e.1
    · omega
  refine ⟨h.len, h.old, h.new, h.hv, fun y hy' e => ?_, h.wt⟩
  rcases h.clo y hy' e with q | q
  · exact Or.inl q
  · refine Or.inr fun d' hs' hv' hn => ?_
    by_cases e2 : y = x ∧ d' = d
    · rw [e2.2]; exact hov
    · exact q d' hs' hv' fun e3 hm => by
        rcases List.mem_cons.1 hm with e4 | e4
        · exact e2 ⟨e3, e4⟩
        · exact hn e3 e4
/-- A dart leads to a new one. -/
theorem GrI.found (h : GrI L (grp L E) v o wait x (d :: todo)) (hg : Good E L) (hv : v < L.length) (hs : Stands L d) (hx : vtx L d = x) (hxv : o.getD x 0 = v) (hne : o.getD (De L d) 0 = L.length) : GrI L (grp L E) v (o.set (De L d) v) (wait ++ [De L d]) x todo := by
  have hok := grp_ok hg
  have hl := hok.len
  have hxl : x < L.length := by rw [← hx]; exact hg.toWF.vtx_lt hs
  have hy : De L d < L.length := hg.toWF.vtx_lt (hg.twin _ hs)
  have hol := h.len
  have hset : ∀ z, (o.set (De L d) v).getD z 0 = if z = De L d then v else o.getD z 0 := fun z => getD_setL _ _ _ _ (by omega)
  have hgx : (grp L E).getD x 0 = v := by
    by_cases q : (grp L E).getD x 0 < v
    · have := h.old x (by omega) q; omega
    · rcases h.new x (by omega) (by omega) with e | e
      · exact e.2
      · omega
  have hsame : (grp L E).getD (De L d) 0 = v := by
    rw [← hgx, ← hx]
    exact ((grp_iff hg (hg.toWF.vtx_lt hs) hy).2 (hang_tw hg hs)).symm
  have hkeep : ∀ z, o.getD z 0 = v → (o.set (De L d) v).getD z 0 = v := fun z e => by rw [hset]; split; rfl; exact e
  refine ⟨by rw [List.length_set]; exact hol, fun z hz hlt => ?_, fun z hz hle => ?_, hkeep v h.hv, fun z hz e => ?_, fun z hz => ?_⟩
  · rw [hset, if_neg (fun e => by rw [e, hsame] at hlt; omega)]
    exact h.old z hz hlt
  · rw [hset]
    split
    · rename_i e; exact Or.inl ⟨rfl, by rw [e]; exact hsame⟩
    · exact h.new z hz hle
  · by_cases e2 : z = De L d
    · exact Or.inl (List.mem_append_right _ (List.mem_singleton.2 e2))
    · rw [hset, if_neg e2] at e
      rcases h.clo z hz e with q | q
      · exact Or.inl (List.mem_append_left _ q)
      · refine Or.inr fun d' hs' hv' hn => ?_
        by_cases e3 : z = x ∧ d' = d
        · rw [e3.2, hset, if_pos rfl]
        · exact hkeep _ (q d' hs' hv' fun e4 hm => by
            rcases List.mem_cons.1 hm with e5 | e5
            · exact e3 ⟨e4, e5⟩
            · exact hn e4 e5)
  · rcases List.mem_append.1 hz with q | q
    · exact ⟨(h.wt z q).1, hkeep z (h.wt z q).2⟩
    · rw [List.mem_singleton.1 q]
      exact ⟨by omega, by rw [hset, if_pos rfl]⟩
/-- Nobody waits: the group is told. -/
theorem GrI.done (h : GrI L (grp L E) v o [] x []) (hg : Good E L) (hv : v < L.length) : o = oV (grp L E) (v + 1) := by
  have hok := grp_ok hg
  have hl := hok.len
  have hstep : ∀ d, Stands L d → o.getD (vtx L d) 0 = v → o.getD (De L d) 0 = v := fun d hs e => by
    rcases h.clo (vtx L d) (by rw [hl]; exact hg.toWF.vtx_lt hs) e with q | q
    · cases q
    · exact q d hs rfl fun _ => by simp
  have hin : ∀ z, Hang L v z → o.getD z 0 = v := fun z hz => by
    induction hz with
    | refl => exact h.hv
    | edge e hs _ ih =>
      have := hstep (2 * e) hs ih
      rwa [show De L (2 * e) = vtx L (2 * e + 1) by unfold De tw; rw [if_neg (by omega)]] at this
    | back e hs _ ih =>
      have := hstep (2 * e + 1) ((hg.pair e).2 hs) ih
      rwa [show De L (2 * e + 1) = vtx L (2 * e) by unfold De tw; rw [if_pos (by omega)]; rfl] at this
  refine getD_ext (by rw [oV_length]; exact h.len) fun y hy => ?_
  have hyl : y < (grp L E).length := by rw [← h.len]; exact hy
  rw [oV_get _ _ hyl]
  by_cases q : (grp L E).getD y 0 < v
  · rw [if_pos (by omega)]; exact h.old y hyl q
  · by_cases q2 : (grp L E).getD y 0 = v
    · rw [if_pos (by omega), q2]
      refine hin y ((grp_iff hg hv (by omega)).1 ?_)
      rw [q2]
      have := hok.fix y (by omega)
      rwa [q2] at this
    · rw [if_neg (by omega)]
      rcases h.new y hyl (by omega) with e | e
      · exact absurd e.2 q2
      · exact e
theorem oV_skip {g : List Nat} (hok : GOk g.length g) (hv : v < g.length) (h0 : (oV g v).getD v 0 ≠ g.length) : oV g (v + 1) = oV g v := by
  refine getD_ext (by rw [oV_length, oV_length]) fun y hy => ?_
  rw [oV_length] at hy
  rw [oV_get g _ hv] at h0
  have hlt : g.getD v 0 < v := by
    by_cases q : g.getD v 0 < v
    · exact q
    · rw [if_neg q] at h0; exact absurd rfl h0
  rw [oV_get g _ hy, oV_get g _ hy]
  have hne : g.getD y 0 ≠ v := fun e => by
    have := hok.fix y hy
    rw [e] at this
    omega
  by_cases q : g.getD y 0 < v
  · rw [if_pos q, if_pos (by omega)]
  · rw [if_neg q, if_neg (by omega)]
theorem oV_zero (g : List Nat) : oV g 0 = List.replicate g.length g.length := by
  refine getD_ext (by rw [oV_length]; simp) fun y hy => ?_
  rw [oV_length] at hy
  rw [oV_get g _ hy, if_neg (Nat.not_lt_zero _)]
  simp [List.getD_eq_getElem?_getD, hy]
theorem oV_all {g : List Nat} (hok : GOk g.length g) : oV g g.length = g := by
  refine getD_ext (oV_length _ _) fun y hy => ?_
  rw [oV_length] at hy
  have := hok.le y hy
  rw [oV_get g _ hy, if_pos (by omega)]
theorem count_set_lt {o : List Nat} {y V : Nat} (hy : y < o.length) (h : o.getD y 0 = V) (hv : v ≠ V) : (o.set y v).count V + 1 = o.count V := by
  have e : o[y] = V := by rw [List.getD_eq_getElem?_getD, List.getElem?_eq_getElem hy] at h; exact h
  have hpos : 0 < o.count V := List.count_pos_iff.2 (by rw [← e]; exact List.getElem_mem hy)
  rw [List.count_set hy, e]
  simp [hv]
  omega
/-- Filled so far. -/
def fillL (V k : Nat) : List Nat := List.replicate k V ++ List.replicate (V - k) 0
theorem fillL_length (V k : Nat) (h : k ≤ V) : (fillL V k).length = V := by simp [fillL]; omega
theorem fillL_set {V k : Nat} (h : k < V) : (fillL V k).set k V = fillL V (k + 1) := by
  unfold fillL
  rw [List.set_append_right _ _ (by simp)]
  simp only [List.length_replicate, Nat.sub_self]
  rw [show V - k = (V - (k + 1)) + 1 by omega, List.replicate_succ, List.set_cons_zero, List.replicate_succ']
  simp
/-- Groups in memory: the list, and who waits. -/
structure GrW (B ob V : Nat) (w : World) (o wait : List Nat) (X : Value) (n k : Nat) (wr : World) : Prop where
  bl : Blk wr ob (nats o).toArray 3
  ow : wr.ownsRow B 3 1 X n (nats wait)
  hn : n = wait.length
  ol : o.length = V
  kp : Keeps (fun _ => False) w wr
  cnt : wait.length + o.count V ≤ k
  lo : ob < B
  hw : w.heap.size ≤ ob
  hB : B ≤ wr.heap.size
variable {B ob V n k : Nat} {w wr w1 : World} {X : Value}
theorem GrW.keep (h : GrW B ob V w o wait X n k wr) (hk : Keeps (fun _ => False) wr w1) : GrW B ob V w o wait X n k w1 :=
  ⟨h.bl.kept hk id, ownsRow_kept h.ow hk fun _ _ q => q, h.hn, h.ol, h.kp.trans' hk, h.cnt, h.lo, h.hw, Nat.le_trans h.hB hk.size⟩
theorem GrW.pop {g c x : Nat} {wt : List Nat} (h : GrW B ob V w o (wt ++ [x]) (.slice (some ⟨g, 0, none⟩) (n + 1) c) (n + 1) k wr) : 1 ≤ k ∧ wt.length = n ∧ wr.cell? ⟨g, n, none⟩ = some (.int .i64 (x : Int)) ∧ GrW B ob V w o wt (.slice (some ⟨g, 0, none⟩) n c) n (k - 1) wr := by
  have hn := h.hn
  have hc := h.cnt
  rw [List.length_append, List.length_singleton] at hn hc
  have hwt : wt.length = n := by omega
  refine ⟨by omega, hwt, ?_, h.bl, ?_, hwt.symm, h.ol, h.kp, by omega, h.lo, h.hw, h.hB⟩
  · rw [h.ow.cellAt n (by omega)]
    unfold nats
    rw [List.map_append, List.getElem?_append_right (by rw [List.length_map]; omega), List.length_map, hwt, Nat.sub_self]
    rfl
  · have := h.ow
    unfold nats at this
    rw [List.map_append] at this
    exact ownsRow_pop (by unfold nats; rw [List.length_map, hwt]; omega) this
/-- One more told. -/
theorem GrW.tell {y : Nat} (h : GrW B ob V w o wait X n k wr) (hy : y < V) (h0 : o.getD y 0 = V) (hv : v ≠ V) : GrW B ob V w (o.set y v) wait X n (k - 1) (wr.setCell ⟨ob, y, none⟩ (.int .i64 (v : Int))) ∧ 1 ≤ k := by
  have hc := count_set_lt (by rw [h.ol]; exact hy) h0 hv
  have hk : Keeps (fun q => q = ob) wr (wr.setCell ⟨ob, y, none⟩ (.int .i64 (v : Int))) := (Keeps.refl (fun q => q = ob) wr).setIn ob y _ rfl
  have hct := h.cnt
  refine ⟨⟨?_, ownsRow_kept h.ow hk fun q e1 e2 => ?_, h.hn, by rw [List.length_set]; exact h.ol, h.kp.setNew h.hw _ _, by omega, h.lo, h.hw, Nat.le_trans h.hB hk.size⟩, by omega⟩
  · have := h.bl.set y (.int .i64 (v : Nat))
    rwa [nats_set] at this
  · have := (h.ow.lt q e1).1
    have := h.lo
    omega
/-- .. and waits. -/
theorem GrW.more {y : Nat} {X' : Value} (h : GrW B ob V w o wait X n k wr) (ho : w1.ownsRow B 3 1 X' (n + 1) (nats wait ++ [.int .i64 (y : Int)])) (hk : Keeps (fun q => X.ownBlock = some q) wr w1) : GrW B ob V w o (wait ++ [y]) X' (n + 1) (k + 1) w1 := by
  have hct := h.cnt
  refine ⟨h.bl.kept hk fun e => ?_, by rw [nats_append]; exact ho, by rw [List.length_append, ← h.hn]; rfl, h.ol, h.kp.thin hk fun q e => ?_, by rw [List.length_append, List.length_singleton]; omega, h.lo, h.hw, Nat.le_trans h.hB hk.size⟩
  · have := (h.ow.lt ob e).1
    have := h.lo
    omega
  · have := (h.ow.lt q e).1
    have := h.lo
    have := h.hw
    omega
end
/-! kin: Groups. -/
section
variable {w : World} {own : Nat → Prop} {p E : Nat} {L : List (List Nat)}
theorem blk_own {w : World} {b B V : Nat} {l : List Nat} (h : Blk w b (nats l).toArray 3) (hl : l.length = V) (hV : V ≤ 1048576) (hB : B ≤ b) : w.ownsRow B 3 1 (.slice (some ⟨b, 0, none⟩) V V) V (nats l) :=
  ⟨by unfold nats; rw [List.length_map, hl]; omega, .inr ⟨b, V, (nats l).toArray, rfl, hB, h, Nat.le_refl _, by unfold maxLen; omega, by unfold nats; simp [hl], by rw [List.take_of_length_le]; unfold nats; simp [hl]⟩⟩
set_option maxHeartbeats 8000000 in
theorem kgroups (h : Tu w own p E L) (hg : Good E L) : Calls Tryd.prog 34 #[tptr p] w (OwnPost (grp L E) w) := by
  have hV := h.v2
  have HT := Lib.hid h
  have HG := Lib.hid hg
  have HS := Lib.hid (tsizes h)
  have hok := grp_ok hg
  have hgl := hok.len
  have HOK : Hid (GOk (grp L E).length (grp L E)) := Lib.hid (by rw [hgl]; exact hok)
  obtain ⟨ib, hib, hb0, hb1, hb2⟩ := info_parts infoI
  obtain ⟨i0, hi, hz0, hz1, hz2⟩ := info_parts infoI
  have hmkI : ∀ W, (Instr.makeSlice 23 (.int .i64 (L.length : Int)) (.int .i64 (L.length : Int))).run Tryd.prog W = .ok (.slice (some ⟨W.heap.size, 0, none⟩) L.length L.length) (W.alloc (.cells (nats (fillL L.length 0)).toArray 3)) := fun W => by
    have := run_make (P := Tryd.prog) W 23 3 ib _ Tryd.underlying23 hib hb0 .i64 .i64 (L.length : Int) (L.length : Int) (by omega) (Int.le_refl _) (by rw [hb2]; omega) (by omega)
    rw [this, hb1, show (Value.int .i64 0).cells = #[.int .i64 0] from rfl, Int.toNat_natCast, Nat.mul_one, madeCells_one]
    unfold fillL nats
    simp
  clear hib hb0 hb1 hb2 h hg hok
  unfold RetPost tptr at HS
  unfold OwnPost tptr
  go_enter Tryd.func34, Tryd.ntmps34
  go_wp2_with fail
  with_reducible refine HS.out.mono ?_
  rintro e w1 ⟨rfl, hk⟩
  have HK1 := Lib.hid hk
  clear hk HS
  go_upto_region 3 with fail
  have HB0 : Hid (Blk (w1.alloc (.cells (nats (fillL L.length 0)).toArray 3)) w1.heap.size (nats (fillL L.length 0)).toArray 3 ∧ Keeps (fun _ => False) w (w1.alloc (.cells (nats (fillL L.length 0)).toArray 3))) := Lib.hid ⟨Blk.new _ _ _, HK1.out.alloc _⟩
  have HOB : Hid (w.heap.size ≤ w1.heap.size) := Lib.hid HK1.out.size
  clear hmkI HK1
  generalize w1.alloc _ = w2 at *
  generalize w1.heap.size = ob at *
  have HBX : Hid (ob < w2.heap.size) := Lib.hid HB0.out.1.lt
  go_upto_region 4 with fail
  go_loopw [22] (fun i wr => ∃ (k : Nat), k ≤ L.length ∧ i = .int .i64 (k : Int) ∧ Hid (Blk wr ob (nats (fillL L.length k)).toArray 3 ∧ Keeps (fun _ => False) w wr ∧ w2.heap.size ≤ wr.heap.size)) (fun i _ => L.length - (intOf i).toNat)
  case atStart => exact ⟨0, Nat.zero_le _, rfl, Lib.hid ⟨HB0.out.1, HB0.out.2, Nat.le_refl _⟩⟩
  case round =>
    obtain ⟨k, hk, rfl, HR⟩ := hrel
    clear HB0
    have f0 := HR.out.1.free k
    by_cases hkV : k < L.length
    · have hkI : (k : Int) < (L.length : Int) := Int.ofNat_lt.2 hkV
      have q0 := HR.out.1.cell k
      rw [List.getElem?_toArray, nats_get (by rw [fillL_length _ _ hk]; exact hkV)] at q0
      have HN : Hid (Blk (wr.setCell ⟨ob, k, none⟩ (.int .i64 (L.length : Int))) ob (nats (fillL L.length (k + 1))).toArray 3 ∧ Keeps (fun _ => False) w (wr.setCell ⟨ob, k, none⟩ (.int .i64 (L.length : Int))) ∧ w2.heap.size ≤ (wr.setCell ⟨ob, k, none⟩ (.int .i64 (L.length : Int))).heap.size) := Lib.hid ⟨by
        have := HR.out.1.set k (.int .i64 (L.length : Nat))
        rwa [nats_set, fillL_set hkV] at this, HR.out.2.1.setNew HOB.out _ _, by have := HR.out.2.2; simpa using this⟩
      generalize (fillL L.length k).getD k 0 = z at *
      clear HR
      go_wp2_with fail
      exact ⟨⟨k + 1, by omega, by simp, HN⟩, by simp [intOf]; omega⟩
    · obtain rfl : k = L.length := by omega
      have HO : Hid (Blk wr ob (nats (oV (grp L E) 0)).toArray 3 ∧ Keeps (fun _ => False) w wr ∧ w2.heap.size ≤ wr.heap.size) := Lib.hid ⟨by
        have := HR.out.1
        rwa [show fillL L.length L.length = oV (grp L E) 0 by rw [oV_zero, hgl]; unfold fillL; simp] at this, HR.out.2⟩
      clear HR f0
      go_upto_region 9 with fail
      go_loopg [32] L.length (fun q i wr => ∃ (v : Nat), v + q = L.length ∧ i = .int .i64 (v : Int) ∧ Hid (Blk wr ob (nats (oV (grp L E) v)).toArray 3 ∧ Keeps (fun _ => False) w wr ∧ w2.heap.size ≤ wr.heap.size))
      case atStart => exact ⟨0, by omega, rfl, HO⟩
      case round =>
        obtain ⟨v, hv, rfl, HR⟩ := hrel
        clear HO
        by_cases hvV : v < L.length
        · obtain ⟨g1, rfl⟩ : ∃ g1, gk = g1 + 1 := ⟨gk - 1, by omega⟩
          have hvI : (v : Int) < (L.length : Int) := Int.ofNat_lt.2 hvV
          have q0 := HR.out.1.cell v
          have f0 := HR.out.1.free v
          rw [List.getElem?_toArray, nats_get (by rw [oV_length, hgl]; exact hvV)] at q0
          by_cases hsk : (oV (grp L E) v).getD v 0 = L.length
          · rw [hsk] at q0
            have HBG : Hid (GrI L (grp L E) v ((oV (grp L E) v).set v v) [v] v []) := Lib.hid (GrI.begin HG.out hvV hsk)
            have hcnt : ((oV (grp L E) v).set v v).count L.length ≤ L.length := by
              have := List.count_le_length (a := L.length) (l := (oV (grp L E) v).set v v)
              rw [List.length_set, oV_length, hgl] at this
              exact this
            have hkB : Keeps (fun q => q = ob) wr (wr.setCell ⟨ob, v, none⟩ (.int .i64 (v : Int))) := (Keeps.refl (fun q => q = ob) wr).setIn ob v _ rfl
            have HGW : Hid (∀ W B, W = (wr.setCell ⟨ob, v, none⟩ (.int .i64 (v : Int))) → w2.heap.size = B → GrW B ob L.length w ((oV (grp L E) v).set v v) [v] (.slice (some ⟨W.heap.size, 0, none⟩) 1 1) 1 (L.length + 1) (W.alloc (.cells #[.int .i64 (v : Int)] 3))) := Lib.hid fun W B hW hB => by
              have hbl : Blk W ob (nats ((oV (grp L E) v).set v v)).toArray 3 := by
                rw [hW]
                have := HR.out.1.set v (.int .i64 (v : Nat))
                rwa [nats_set] at this
              have hsz : W.heap.size = wr.heap.size := by rw [hW]; simp
              have h3 := HR.out.2.2
              have hBX := HBX.out
              refine ⟨hbl.alloc _, ?_, rfl, by rw [List.length_set, oV_length, hgl], ?_, by rw [List.length_singleton]; omega, by omega, HOB.out, by rw [size_alloc]; omega⟩
              · have := World.ownsRow_lit (base := B) (e := 3) (size := 1) W #[.int .i64 (v : Int)] 1 (by omega) (by decide) rfl
                exact this
              · rw [hW]
                exact (HR.out.2.1.setNew HOB.out _ _).alloc _
            obtain ⟨B, hB⟩ : ∃ B, w2.heap.size = B := ⟨_, rfl⟩
            rw [hB] at HGW
            have HGW2 := Lib.hid fun W hW => HGW.out W B hW rfl
            clear HGW HR hkB hsk hcnt
            go_upto_region 13 with fail
            generalize hW3 : World.setCell wr _ _ = w3 at *
            have HIN : Hid (∃ o wait x0, GrI L (grp L E) v o wait x0 [] ∧ GrW B ob L.length w o wait (.slice (some ⟨w3.heap.size, 0, none⟩) 1 1) 1 (L.length + 1) (w3.alloc (.cells #[.int .i64 (v : Int)] 3))) := Lib.hid ⟨_, _, _, HBG.out, HGW2.out _ rfl⟩
            clear HGW2 hW3 HBG
            clear f0 q0
            have hvz : v < L.length := hvV
            go_upto_region 14 with fail
            go_loopg [8] (L.length + 1) (fun q x wx => ∃ (n : Nat) (a : Option Addr) (c : Nat), q ≤ L.length + 1 ∧ x = .slice a n c ∧ Hid (∃ o wait x0, GrI L (grp L E) v o wait x0 [] ∧ GrW B ob L.length w o wait x n q wx))
            case atStart => exact ⟨1, _, 1, Nat.le_refl _, rfl, HIN⟩
            case round =>
              obtain ⟨n, a, c, hgq, rfl, HX⟩ := hrel
              clear HIN
              cases n with
              | zero =>
                have HN : Hid (∀ wz, Keeps (fun _ => False) wr wz → Blk wz ob (nats (oV (grp L E) (v + 1))).toArray 3 ∧ Keeps (fun _ => False) w wz ∧ w2.heap.size ≤ wz.heap.size) := Lib.hid (by
                  intro wz hkz
                  obtain ⟨o, wait, x0, h1, h2⟩ := HX.out
                  have hw0 : wait = [] := List.eq_nil_of_length_eq_zero h2.hn.symm
                  subst hw0
                  have := h1.done HG.out hvz
                  rw [← this]
                  have h3 := h2.keep hkz
                  exact ⟨h3.bl, h3.kp, by rw [hB]; exact h3.hB⟩)
                clear HX
                go_wp2_with fail
                go_roundg g1
                case measure => omega
                case rel => exact ⟨v + 1, by omega, by simp, HN.out _ (Keeps.refl _ _)⟩
              | succ n =>
                obtain ⟨o, wait, x0, h1, h2⟩ := HX.out
                clear HX
                obtain ⟨g, cc, e, _, _⟩ := h2.ow.form (Nat.succ_pos _)
                cases e
                obtain ⟨wt, x, rfl⟩ : ∃ wt x, wait = wt ++ [x] := by
                  have hne : wait ≠ [] := fun e => by have := h2.hn; rw [e] at this; cases this
                  exact ⟨wait.dropLast, wait.getLast hne, (List.dropLast_concat_getLast hne).symm⟩
                obtain ⟨hgk, hwl, hcx, h3⟩ := h2.pop
                have hxw := h1.wt x (List.mem_append_right _ (List.mem_singleton.2 rfl))
                have hxl : x < L.length := by rw [← hgl]; exact hxw.1
                have hncap : n + 1 ≤ c := by
                  rcases h2.ow.2 with ⟨q, _⟩ | ⟨g', c', cur, q, _, _, q2, _⟩
                  · cases q
                  · cases q; exact q2
                obtain ⟨g2, rfl⟩ : ∃ g2, gk = g2 + 1 := ⟨gk - 1, by omega⟩
                have hwt2 : wt.length ≤ L.length + 1 := by have := h3.cnt; omega
                have hwn : wrap64 (n : Int) = (n : Int) := kwrap64 n (by omega)
                have hnI : (n : Int) < (n : Int) + 1 := Int.lt_succ _
                have hnc : n ≤ c := Nat.le_of_succ_le hncap
                have HG3 := Lib.hid (h1.take HG.out)
                have HW3 := Lib.hid h3
                have HXV : Hid (o.getD x 0 = v) := Lib.hid hxw.2
                have HAR := Lib.hid (karound (HT.out.keep h3.kp) hxl)
                have HAI : Hid (∀ d, d ∈ arL L x → Stands L d ∧ vtx L d = x) := Lib.hid fun d hd => (arL_iff HG.out.toWF hxl).1 hd
                clear h1 h2 h3 hxw hwl hgk hncap
                unfold OwnPost tptr at HAR
                go_wp2_with (go_at_call 61; with_reducible refine HAR.out.mono ?_; rintro e w5 ⟨av, rfl, ho5, hk5⟩; obtain ⟨a5, c5, rfl, hr5, _⟩ := Rd.of_own ho5; have HFR := Lib.hid (Fresh.of_own ho5 rfl (Nat.le_refl _)); have HR5 := Lib.hid hr5; have HW5 := Lib.hid (HW3.out.keep hk5); clear hr5 ho5 hk5 HAR hcx)
                generalize hal : arL L x = al at *
                have hall : al.length ≤ 4194304 := by
                  rw [← hal, arL_length]
                  have h5 := HT.out.len (some_getD hxl)
                  have h6 := HT.out.e2
                  omega
                clear hal
                have H4 : Hid (∃ o wait, GrI L (grp L E) v o wait x (al.drop 0) ∧ GrW B ob L.length w o wait (.slice (some ⟨g, 0, none⟩) n c) n g2 w5 ∧ o.getD x 0 = v ∧ Rd w5 a5 (nats al) ∧ ∀ b off, a5 = some ⟨b, off, none⟩ → al ≠ [] → b ≠ ob ∧ (Value.slice (some ⟨g, 0, none⟩) n c).ownBlock ≠ some b) := Lib.hid (by
                  refine ⟨o, wt, HG3.out, HW5.out, HXV.out, HR5.out, fun b off e hl => ?_⟩
                  have h7 := HFR.out b off e
                  have h8 := HW3.out.lo
                  have h9 := HW3.out.hB
                  have h10 := HW3.out.ow.lt g rfl
                  refine ⟨by omega, fun e => ?_⟩
                  simp only [Value.ownBlock, Option.some.injEq] at e
                  omega)
                clear HG3 HW3 HW5 HXV HR5 HFR
                go_loopg [8, 65] al.length (fun q xw i wx => ∃ (j m : Nat) (a : Option Addr) (c : Nat), j + q = al.length ∧ i = .int .i64 (j : Int) ∧ xw = .slice a m c ∧ Hid (∃ o wait, GrI L (grp L E) v o wait x (al.drop j) ∧ GrW B ob L.length w o wait xw m g2 wx ∧ o.getD x 0 = v ∧ Rd wx a5 (nats al) ∧ ∀ b off, a5 = some ⟨b, off, none⟩ → al ≠ [] → b ≠ ob ∧ xw.ownBlock ≠ some b))
                case atStart => exact ⟨0, n, _, c, by omega, rfl, rfl, H4⟩
                case round =>
                  obtain ⟨j, m, a, cc, hj, rfl, rfl, HX⟩ := hrel
                  clear H4
                  obtain ⟨o, wait, h1, h2, h3, h4, h5⟩ := HX.out
                  clear HX
                  by_cases hjl : j < al.length
                  · obtain ⟨g3, rfl⟩ : ∃ g3, gk = g3 + 1 := ⟨gk - 1, by omega⟩
                    have hd0 : al.drop j = al.getD j 0 :: al.drop (j + 1) := by
                      rw [List.drop_eq_getElem_cons hjl, List.getD_eq_getElem?_getD, List.getElem?_eq_getElem hjl]; rfl
                    have hmem : al.getD j 0 ∈ al := getD_mem hjl
                    obtain ⟨hds, hdx⟩ := HAI.out _ hmem
                    obtain ⟨b5, o5, e5, hcd⟩ := h4.nat hjl
                    have hal0 : al ≠ [] := fun e => by rw [e] at hjl; simp at hjl
                    have hsep := h5 b5 o5 e5 hal0
                    subst e5
                    have hb5 := rd_lt h4 hal0 rfl
                    have hjI : (j : Int) < (al.length : Int) := by omega
                    rw [hd0] at h1
                    generalize al.getD j 0 = d at *
                    have hyl : De L d < L.length := HG.out.toWF.vtx_lt (HG.out.twin _ hds)
                    have hyI : ((De L d : Nat) : Int) < (L.length : Int) := Int.ofNat_lt.2 hyl
                    have HKE := Lib.hid (kend (HT.out.keep h2.kp) HG.out hds)
                    have q1 := h2.bl.cell (De L d)
                    rw [List.getElem?_toArray, nats_get (by rw [h2.ol]; exact hyl)] at q1
                    have H1 := Lib.hid h1
                    have H2 := Lib.hid h2
                    have HD := Lib.hid (And.intro hds hdx)
                    have HXV2 := Lib.hid h3
                    have H4b := Lib.hid h4
                    have HSEP := Lib.hid hsep
                    unfold RetPost tptr at HKE
                    clear h1 h2 h3 h4 h5 hd0 hmem hds hdx hsep
                    generalize hy : De L d = y at *
                    have HY := Lib.hid hy
                    clear hy
                    by_cases hse : o.getD y 0 = L.length
                    · have hse1 : ((o.getD y 0 : Int) == (L.length : Int)) = true := by rw [kbeq, decide_eq_true hse]
                      have hvn : v ≠ L.length := by omega
                      have HTE : Hid (∀ wz, Keeps (fun _ => False) wr wz → GrW B ob L.length w (o.set y v) wait (.slice a m cc) m (g2 - 1) (wz.setCell ⟨ob, y, none⟩ (.int .i64 (v : Int))) ∧ 1 ≤ g2) := Lib.hid fun wz hk => (H2.out.keep hk).tell hyl hse hvn
                      have HGF : Hid (GrI L (grp L E) v (o.set y v) (wait ++ [y]) x (al.drop (j + 1))) := Lib.hid (by
                        have := H1.out.found HG.out hvz HD.out.1 HD.out.2 HXV2.out (by rw [HY.out]; exact hse)
                        rwa [HY.out] at this)
                      have HXV3 : Hid ((o.set y v).getD x 0 = v) := Lib.hid (by
                        rw [getD_setL _ _ _ _ (by rw [H2.out.ol]; exact hyl)]
                        split
                        · rfl
                        · exact HXV2.out)
                      have HFZ : Hid (∀ wz, Keeps (fun _ => False) wr wz → wz.frozen? ⟨ob, y, none⟩ = false) := Lib.hid fun wz hk => (H2.out.keep hk).bl.free y
                      have hmb : m ≤ L.length + 1 := by have := H2.out.cnt; have := H2.out.hn; omega
                      clear H1 H2 HD HXV2 HY hvn
                      rw [hse] at q1
                      clear hse
                      go_upto_region 23 with (go_at_call 62; with_reducible refine HKE.out.mono ?_; rintro e w6 ⟨rfl, hk6⟩; have r1 := hk6.cellF q1; have HTE6 := Lib.hid (HTE.out _ hk6); have fz6 := HFZ.out _ hk6; have HR6 := Lib.hid (H4b.out.keep hk6); have HS6 := Lib.hid hk6.size; clear HKE hk6 q1 hcd HTE H4b HFZ)
                      have HR7 : Hid (Rd (World.setCell w6 ⟨ob, y, none⟩ (.int .i64 (v : Int))) (some ⟨b5, o5, none⟩) (nats al) ∧ (World.setCell w6 ⟨ob, y, none⟩ (.int .i64 (v : Int))).heap.size = w6.heap.size) := Lib.hid ⟨HR6.out.kept ((Keeps.refl (fun q => q = ob) w6).setIn ob y _ rfl) (fun b off e k => by cases e; exact HSEP.out.1 k), by simp⟩
                      clear HR6 r1 fz6
                      generalize World.setCell w6 _ _ = w7 at *
                      have hown0 := HTE6.out.1.ow
                      go_wp2_with (at_builtin; refine wpList_app1 rfl _ _ 23 rfl B 3 i0 (.int .i64 0) 1 8 Tryd.underlying23 hi hz0 hz1 hz2 rfl (by decide) _ _ _ rfl hown0 _ 1 1 [.int .i64 (y : Int)] 3 rfl rfl rfl ?c1 ?c2 ?c3 ?c4 ?_)
                      case c1 => simp [Value.oneCell']
                      case c2 => unfold maxLen; omega
                      case c3 => omega
                      case c4 => exact HTE6.out.1.hB
                      intro v8 w8 ho hk8 hb8 _ _
                      obtain ⟨g8, c8, rfl, _⟩ := ho.form (Nat.succ_pos _)
                      have HN : Hid (∃ o wait, GrI L (grp L E) v o wait x (al.drop (j + 1)) ∧ GrW B ob L.length w o wait (.slice (some ⟨g8, 0, none⟩) (m + 1) c8) (m + 1) g2 w8 ∧ o.getD x 0 = v ∧ Rd w8 (some ⟨b5, o5, none⟩) (nats al) ∧ ∀ b off, some (⟨b5, o5, none⟩ : Addr) = some ⟨b, off, none⟩ → al ≠ [] → b ≠ ob ∧ (Value.slice (some ⟨g8, 0, none⟩) (m + 1) c8).ownBlock ≠ some b) := Lib.hid (by
                        have h1 := HTE6.out.1.more ho hk8
                        rw [Nat.sub_add_cancel HTE6.out.2] at h1
                        refine ⟨_, _, HGF.out, h1, HXV3.out, HR7.out.1.kept hk8 (fun b off e k => by cases e; exact HSEP.out.2 k), fun b off e hl => ?_⟩
                        cases e
                        refine ⟨HSEP.out.1, fun e2 => ?_⟩
                        rcases hb8 _ e2 with q | q
                        · exact HSEP.out.2 q
                        · have h9 := HR7.out.2
                          have h10 := HS6.out
                          omega)
                      clear ho hk8 hb8 hown0 HR7 HTE6 HGF HXV3 HSEP HS6
                      go_wp2_with fail
                      go_roundg g3
                      case measure => omega
                      case rel => exact ⟨j + 1, m + 1, _, c8, by omega, by simp, rfl, HN⟩
                    · have hse2 : ((o.getD y 0 : Int) == (L.length : Int)) = false := by rw [kbeq, decide_eq_false hse]
                      have HN : Hid (∀ wz, Keeps (fun _ => False) wr wz → ∃ o wait, GrI L (grp L E) v o wait x (al.drop (j + 1)) ∧ GrW B ob L.length w o wait (.slice a m cc) m g2 wz ∧ o.getD x 0 = v ∧ Rd wz (some ⟨b5, o5, none⟩) (nats al) ∧ ∀ b off, some (⟨b5, o5, none⟩ : Addr) = some ⟨b, off, none⟩ → al ≠ [] → b ≠ ob ∧ (Value.slice a m cc).ownBlock ≠ some b) := Lib.hid fun wz hk => by
                        refine ⟨o, wait, H1.out.seen HG.out HD.out.1 HD.out.2 HXV2.out (by rw [HY.out]; exact hse), H2.out.keep hk, HXV2.out, H4b.out.keep hk, fun b off e _ => ?_⟩
                        cases e
                        exact HSEP.out
                      clear H1 H2 HD HXV2 H4b HSEP HY hse
                      generalize o.getD y 0 = z at *
                      go_wp2_with (go_at_call 62; with_reducible refine HKE.out.mono ?_; rintro e w6 ⟨rfl, hk6⟩; have r1 := hk6.cellF q1; have HN6 := Lib.hid (HN.out _ hk6); clear HKE hk6 q1 hcd)
                      go_roundg g3
                      case measure => omega
                      case rel => exact ⟨j + 1, m, a, cc, by omega, by simp, rfl, HN6⟩
                  · have HN : Hid (∃ o wait x0, GrI L (grp L E) v o wait x0 [] ∧ GrW B ob L.length w o wait (.slice a m cc) m g2 wr) := Lib.hid ⟨o, wait, x, by rw [List.drop_eq_nil_of_le (by omega)] at h1; exact h1, h2⟩
                    clear h1 h2 h3 h4 h5
                    have hjI : ¬ ((j : Int) < (al.length : Int)) := by omega
                    go_wp2_with fail
                    go_roundg g2
                    case measure => omega
                    case rel => exact ⟨m, a, cc, by omega, rfl, HN⟩
          · have HN : Hid (Blk wr ob (nats (oV (grp L E) (v + 1))).toArray 3 ∧ Keeps (fun _ => False) w wr ∧ w2.heap.size ≤ wr.heap.size) := Lib.hid ⟨by
              rw [oV_skip HOK.out (by rw [hgl]; exact hvV) (by rw [hgl]; exact hsk)]
              exact HR.out.1, HR.out.2⟩
            have hlt : (oV (grp L E) v).getD v 0 < L.length := by
              have h3 := oV_get (grp L E) v (y := v) (by rw [hgl]; exact hvV)
              rw [hgl] at h3
              have := HOK.out.le v (by rw [hgl]; exact hvV)
              split at h3 <;> omega
            have hltI : ((((oV (grp L E) v).getD v 0 : Nat) : Int)) < (L.length : Int) := Int.ofNat_lt.2 hlt
            clear hlt hsk HR
            generalize (oV (grp L E) v).getD v 0 = z at *
            go_wp2_with fail
            go_roundg g1
            case measure => omega
            case rel => exact ⟨v + 1, by omega, by simp, HN⟩
        · obtain rfl : v = L.length := by omega
          have HF : Hid (wr.ownsRow w.heap.size 3 1 (.slice (some ⟨ob, 0, none⟩) L.length L.length) (grp L E).length (nats (grp L E)) ∧ Keeps (fun _ => False) w wr) := Lib.hid ⟨by
            have h1 := HR.out.1
            have h2 := oV_all HOK.out
            rw [hgl] at h2
            rw [h2] at h1
            have := blk_own h1 hgl hV HOB.out
            rwa [hgl], HR.out.2.1⟩
          clear HR
          go_wp2_with fail
          go_ret
          exact ⟨_, rfl, HF.out⟩
end
end Go.Proofs.YtdplphhlclhmfaaDoor
