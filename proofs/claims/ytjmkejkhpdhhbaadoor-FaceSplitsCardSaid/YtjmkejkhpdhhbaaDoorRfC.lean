/- Appends of slices that may be nil; the document's With, Next. -/
import Derived.Test.YtjmkejkhpdhhbaaDoorRfB
import Derived.Deep.RegionHeld3
import Derived.Deep.AppendLies
namespace Go.Proofs.YtjmkejkhpdhhbaaDoor
open Go Go.RowKit
set_option linter.unusedVariables false
set_option linter.unusedSimpArgs false
set_option maxRecDepth 100000

theorem ar_len {A n : Nat} (h : A + 1 ≤ n) : min (A + 1) n + 1 + (n - (A + 1)) = 0 + (A + 1) + 1 + (n - (A + 1)) := by omega
theorem ar_mx {A n E : Nat} (h : A + 1 ≤ n) (hn : n ≤ 2 * E) (hE : E ≤ 1048576) : 0 + (A + 1) ≤ maxLen ∧ (0 + (A + 1)) * 8 ≤ 140737488355328 ∧ 0 + (A + 1) + 1 ≤ maxLen ∧ (0 + (A + 1) + 1) * 8 ≤ 140737488355328 ∧ 0 + (A + 1) + 1 + (n - (A + 1)) ≤ maxLen ∧ (0 + (A + 1) + 1 + (n - (A + 1))) * 8 ≤ 140737488355328 := by
  unfold maxLen
  exact ⟨by omega, by omega, by omega, by omega, by omega, by omega⟩
theorem ar_add {a j n E : Nat} (h1 : a < n) (h2 : j < n) (hn : n ≤ 2 * E) (hE : E ≤ 1048576) : wrap64 ((a : Int) + (j : Int)) = (a : Int) + (j : Int) := by unfold wrap64; omega
theorem ar_one {m n E : Nat} (h1 : m < n) (hn : n ≤ 2 * E) (hE : E ≤ 1048576) : wrap64 (m : Int) = (m : Int) := by unfold wrap64; omega
theorem ar_cap {j n E : Nat} (h1 : j < n) (hn : n ≤ 2 * E) (hE : E ≤ 1048576) : j + 1 ≤ maxLen ∧ (j + 1) * 8 ≤ 140737488355328 := by unfold maxLen; omega
theorem ar_less {j n : Nat} (h : j < n) : n - (j + 1) < n - j := by omega
/-- What is appended: nil, or cells that lie there. -/
def Src (w : World) (x : Value) (m size : Nat) (news : List Value) : Prop :=
  (x = .slice none 0 0 ∧ m = 0 ∧ news = []) ∨ ∃ ad c, x = .slice (some ad) m c ∧ news.length = m * size ∧ (∀ j u, news[j]? = some u → w.cell? (ad.add j) = some u) ∧ ∀ u ∈ news, u.oneCell' = true
theorem Src.len {w : World} {x : Value} {m size : Nat} {news : List Value} (h : Src w x m size news) : news.length = m * size := by
  rcases h with ⟨_, rfl, rfl⟩ | ⟨_, _, _, h, _⟩
  · simp
  · exact h
theorem Src.below {w w' : World} {x : Value} {m size : Nat} {news : List Value} (h : Src w x m size news) (hk : ∀ a c, x = .slice (some a) m c → a.block < w.heap.size → w'.heap[a.block]? = w.heap[a.block]?) : Src w' x m size news := by
  rcases h with h | ⟨ad, c, rfl, h1, h2, h3⟩
  · exact .inl h
  · refine .inr ⟨ad, c, rfl, h1, fun j u hu => ?_, h3⟩
    have := h2 j u hu
    rw [← this]
    have hb : (ad.add j).block = ad.block := by unfold Addr.add; split <;> rfl
    have hl := World.block_lt_of_cell? w _ this
    exact World.cell?_of_block (by rw [hb] at hl ⊢; exact hk ad c rfl hl)
theorem Src.keep {w w' : World} {x : Value} {m size : Nat} {news : List Value} (h : Src w x m size news) (hk : Keeps (fun _ => False) w w') : Src w' x m size news := h.below fun _ _ _ hb => hk.block _ hb id
section
variable {P : Program}
theorem run_appS (w : World) (base : Nat) (t ty e : TypeId) (i : TypeInfo) (z : Value) (size bytes : Nat) (ht : P.underlying t = some (.slice e)) (hi : P.info? e = some i) (hz : i.zero = some z)
    (hsize : i.size = size) (hby : i.bytes = bytes) (hzs : z.cells.size = size) (hsz : 0 < size)
    (v : Value) (n : Nat) (xs : List Value) (hown : w.ownsRow base e size v n xs) (x : Value) (m : Nat) (news : List Value) (hsrc : Src w x m size news)
    (h63 : n + m ≤ maxLen) (hbytes : (n + m) * bytes ≤ 140737488355328) (hbase : base ≤ w.heap.size) :
    ∃ v' w', (Builtin.append_ #[t, t] ty #[v, x]).run P w = .ok v' w' ∧ w'.ownsRow base e size v' (n + m) (xs ++ news) ∧ Keeps (fun k => v.ownBlock = some k) w w' ∧
      (∀ k, v'.ownBlock = some k → v.ownBlock = some k ∨ k = w.heap.size) ∧ (v' = .slice none 0 0 ↔ v = .slice none 0 0 ∧ m = 0) := by
  rcases hsrc with ⟨rfl, rfl, rfl⟩ | ⟨ad, c, rfl, hl, hnews, h1⟩
  · refine ⟨v, w, run_append_owned_none (P := P) (w := w) base t ty e i size ht hi v n xs hown, by simpa using hown, Keeps.refl _ _, fun k hk => .inl hk, by simp⟩
  · obtain ⟨v', w', hr, h2, h3, h4, h5⟩ := run_app (P := P) w base t ty e i z size bytes ht hi hz hsize hby hzs hsz v n xs hown ad m c news hl hnews h1 h63 hbytes hbase
    obtain ⟨v2, w2, hr2, _, _, hnil⟩ := run_append_own (P := P) w base t ty e i z size bytes ht hi hz hsize hby hzs hsz v n xs hown ad m c news hl hnews h1 h63 hbytes hbase
    rw [hr] at hr2
    simp only [Result.ok.injEq] at hr2
    obtain ⟨rfl, rfl⟩ := hr2
    exact ⟨v', w', hr, h2, h3, h4, hnil⟩
/-- .. at a step of a plain region. -/
theorem wpList_appS {ops : Array Oper} {rest : List Oper} {o : Oper} {a : Act} {Q : Exit → Act → World → Prop} {w : World} (hgd : o.guard = none) (s x : Operand) (t : TypeId)
    (ho : o.op = .call { callee := .builtin .append, args := #[s, x], argTypes := #[t, t] })
    (base : Nat) (e : TypeId) (i : TypeInfo) (z : Value) (size bytes : Nat) (ht : P.underlying t = some (.slice e)) (hi : P.info? e = some i) (hz : i.zero = some z)
    (hsize : i.size = size) (hby : i.bytes = bytes) (hzs : z.cells.size = size) (hsz : 0 < size)
    (v : Value) (n : Nat) (xs : List Value) (hs : a.eval s = v) (hown : w.ownsRow base e size v n xs)
    (y : Value) (m : Nat) (news : List Value) (hx : a.eval x = y) (hsrc : Src w y m size news)
    (h63 : n + m ≤ maxLen) (hbytes : (n + m) * bytes ≤ 140737488355328) (hbase : base ≤ w.heap.size)
    (h : ∀ v' w', w'.ownsRow base e size v' (n + m) (xs ++ news) → Keeps (fun k => v.ownBlock = some k) w w' → (∀ k, v'.ownBlock = some k → v.ownBlock = some k ∨ k = w.heap.size) →
      (v' = .slice none 0 0 ↔ v = .slice none 0 0 ∧ m = 0) → wpList P ops Q rest (a.put o.dst v') w') : wpList P ops Q (o :: rest) a w := by
  obtain ⟨v', w', hr, h2, h3, h4, h5⟩ := run_appS (P := P) w base t o.type e i z size bytes ht hi hz hsize hby hzs hsz v n xs hown y m news hsrc h63 hbytes hbase
  refine wpList_plain hgd fun K hK => ?_
  unfold Oper.wp execOp
  simp only [ho, resolve, invoke, builtin, Sem.run_bind, Sem.run_pure, Result.andThen_ok, List.map_toArray, List.map_cons, List.map_nil, hs, hx, hr]
  exact hK _ _ (h v' w' h2 h3 h4 h5)
/-- .. at a step of a region that draws its order. -/
theorem step_appS {ops : Array Oper} {o : Oper} {a : Act} {K : Act → World → Prop} {Q : Exit → Act → World → Prop} {E : Prop} {w : World} (hgd : o.guard = none) (s x : Operand) (t : TypeId)
    (ho : o.op = .call { callee := .builtin .append, args := #[s, x], argTypes := #[t, t] })
    (base : Nat) (e : TypeId) (i : TypeInfo) (z : Value) (size bytes : Nat) (ht : P.underlying t = some (.slice e)) (hi : P.info? e = some i) (hz : i.zero = some z)
    (hsize : i.size = size) (hby : i.bytes = bytes) (hzs : z.cells.size = size) (hsz : 0 < size)
    (v : Value) (n : Nat) (xs : List Value) (hs : a.eval s = v) (hown : w.ownsRow base e size v n xs)
    (y : Value) (m : Nat) (news : List Value) (hx : a.eval x = y) (hsrc : Src w y m size news)
    (h63 : n + m ≤ maxLen) (hbytes : (n + m) * bytes ≤ 140737488355328) (hbase : base ≤ w.heap.size)
    (h : ∀ v' w', w'.ownsRow base e size v' (n + m) (xs ++ news) → Keeps (fun k => v.ownBlock = some k) w w' → (∀ k, v'.ownBlock = some k → v.ownBlock = some k ∨ k = w.heap.size) →
      (v' = .slice none 0 0 ↔ v = .slice none 0 0 ∧ m = 0) → K (a.put o.dst v') w') :
    if Region.wanted o (yielded ops a.tmps) = true then Oper.wp P o a w K Q else E := by
  obtain ⟨v', w', hr, h2, h3, h4, h5⟩ := run_appS (P := P) w base t o.type e i z size bytes ht hi hz hsize hby hzs hsz v n xs hown y m news hsrc h63 hbytes hbase
  have hw : Region.wanted o (yielded ops a.tmps) = true := by simp [Region.wanted, hgd]
  rw [if_pos hw]
  unfold Oper.wp execOp
  simp only [ho, resolve, invoke, builtin, Sem.run_bind, Sem.run_pure, Result.andThen_ok, List.map_toArray, List.map_cons, List.map_nil, hs, hx, hr]
  exact h _ _ h2 h3 h4 h5
end
section
variable {w : World} {B E : Nat} {v : Value} {L : List (List Nat)}
theorem LsRow.size_le (h : LsRow w B v L) (h0 : 0 < L.length) : B ≤ w.heap.size := by
  obtain ⟨g, c, _, _, hB, hat⟩ := h.at_ h0
  obtain ⟨u, hu, _⟩ := hat 0 _ (List.getElem?_eq_getElem h0)
  have : g < w.heap.size := World.block_lt_of_cell? w _ hu
  omega
/-- The lists as what is appended. -/
theorem LsRow.src (h : LsRow w B v L) (h0 : 0 < L.length) : ∃ cells, cells.length = L.length ∧ Src w v L.length 1 cells ∧ ∀ (i : Nat) (l : List Nat), L[i]? = some l → ∃ u, cells[i]? = some u ∧ LRow w B u l := by
  obtain ⟨cells, h1, h2⟩ := h
  refine ⟨cells, by have := h1.1; omega, ?_, h2⟩
  have hone : ∀ u ∈ cells, u.oneCell' = true := fun u hu => by
    obtain ⟨i, hi, rfl⟩ := List.mem_iff_getElem.1 hu
    have hiL : i < L.length := by have := h1.1; omega
    obtain ⟨u', hu', hr⟩ := h2 i _ (List.getElem?_eq_getElem hiL)
    obtain ⟨a, c, e, _⟩ := hr.rd
    rw [List.getElem?_eq_getElem hi] at hu'
    cases hu'
    rw [e]; rfl
  rcases h1.2 with ⟨_, e⟩ | ⟨g, c, cur, rfl, _⟩
  · omega
  · exact .inr ⟨⟨g, 0, none⟩, c, rfl, h1.1, h1.cells rfl, hone⟩
theorem rwith (h : LsRow w B v L) (h0 : 0 < L.length) (hV : L.length ≤ 1048576) {n : Nat} (hn : n < L.length) {u : Value} {l : List Nat} (hu : LRow w B u l) (n' : Int) (hn' : n' = n) :
    Calls Tryd.prog 66 #[rval E v, .int .i64 n', u] w (RPost E B (L.set n l) w) := by
  subst hn'
  obtain ⟨i0, hi, hz0, hz1, hz2⟩ := info_parts infoS
  have hBw := h.size_le h0
  obtain ⟨ua, uc, rfl, _⟩ := hu.rd
  generalize hW : (w.alloc (.cells #[.int .i64 (E : Int), v] 32)).alloc (.cells #[.int .i64 0, .slice none 0 0] 32) = w0
  have hK : Keeps (fun _ => False) w w0 := by rw [← hW]; exact ((Keeps.refl _ _).alloc _).alloc _
  have HB1 : Hid (Blk w0 w.heap.size #[.int .i64 (E : Int), v] 32) := by rw [← hW]; exact (Blk.new w _ _).alloc _
  have HB2 : Hid (Blk w0 (w.heap.size + 1) #[.int .i64 0, .slice none 0 0] 32) := by rw [← hW]; exact Blk.newAt _ _ _ (by simp)
  obtain ⟨cells, hcl, hsrc, hrows⟩ := h.src h0
  have HU := Lib.hid hu
  have HROWS := Lib.hid hrows
  have HSRC := Lib.hid (hsrc.keep hK)
  have HK := Lib.hid hK
  have hBs : B ≤ w0.heap.size := Nat.le_trans hBw hK.size
  obtain ⟨va, vc, hv⟩ : ∃ a c, v = .slice a L.length c := by
    obtain ⟨_, h1, _⟩ := h
    exact ownsRow_slice h1
  subst hv
  clear h hu hsrc hrows hK
  unfold RPost rval
  go_enter Tryd.func66, Tryd.ntmps66
  go_upto_region 1 with fail
  clear hW
  have b1 := HB1.out.cell (i := 1)
  simp only [List.getElem?_toArray, List.getElem?_cons_zero, List.getElem?_cons_succ] at b1
  go_wp2_with (first | (at_builtin; refine wpList_appS rfl _ _ 30 rfl B 47 i0 (.slice none 0 0) 1 24 Tryd.underlying30 hi hz0 hz1 hz2 rfl (by decide) _ 0 [] rfl (World.ownsRow_nil _ _ _ _) _ L.length cells rfl HSRC.out ?c2 ?c3 ?c4 ?_))
  case c2 => unfold maxLen; omega
  case c3 => omega
  case c4 => exact hBs
  intro v1 w1 ho hk1 hob hnil
  have hv1 : v1 ≠ .slice none 0 0 := fun e => by have := hnil.1 e; simp [this] at h0
  have hk1' : Keeps (fun _ => False) w0 w1 := hk1.mono fun k _ e => by simp [Value.ownBlock] at e
  rcases ho.2 with ⟨e, _⟩ | ⟨g, c, cur, rfl, hBg, hgg, hnc, hcm, hcs, htk⟩
  · exact absurd e hv1
  · obtain ⟨u0, hu0, _⟩ := HROWS.out n _ (List.getElem?_eq_getElem hn)
    have hgw : w0.heap.size ≤ g := by
      rcases hob g rfl with e | e
      · simp [Value.ownBlock] at e
      · omega
    have hcell : w1.cell? ⟨g, n, none⟩ = some u0 := by rw [ho.cellAt n (by omega)]; exact hu0
    have hfr := ho.frozenAt n
    have hst := ho.stored n (.slice ua l.length uc)
    have HST := Lib.hid hst.1
    have HB1' := Lib.hid (HB1.out.kept hk1' id)
    have HB2' := Lib.hid (HB2.out.kept hk1' id)
    have c0 := HB1'.out.cell (i := 0)
    have e0 := HB2'.out.cell (i := 0)
    have e1 := HB2'.out.cell (i := 1)
    have f0 := HB2'.out.free 0
    have f1 := HB2'.out.free 1
    simp only [List.getElem?_toArray, List.getElem?_cons_zero, List.getElem?_cons_succ] at c0 e0 e1
    have HK1 := Lib.hid hk1'
    have hB1l := HB1.out.lt
    have hB2l := HB2.out.lt
    clear b1 hob hnil hv1 hk1 hk1' hgg hnc hcm hcs htk hst ho
    have hne1 : w.heap.size ≠ g := by omega
    have hne2 : w.heap.size + 1 ≠ g := by omega
    go_wp2_with fail
    have HW : Hid (Blk (((w1.setCell ⟨g, n, none⟩ (.slice ua l.length uc)).setCell ⟨w.heap.size + 1, 0, none⟩ (.int .i64 (E : Int))).setCell ⟨w.heap.size + 1, 1, none⟩ (.slice (some ⟨g, 0, none⟩) L.length c)) (w.heap.size + 1) #[.int .i64 (E : Int), .slice (some ⟨g, 0, none⟩) L.length c] 32) :=
      (((HB2'.out.set_other ⟨g, n, none⟩ (.slice ua l.length uc) hne2).set 0 (.int .i64 (E : Int))).set 1 (.slice (some ⟨g, 0, none⟩) L.length c))
    have HS1 : Hid (Keeps (fun k => k = w.heap.size + 1) (w1.setCell ⟨g, n, none⟩ (.slice ua l.length uc)) (((w1.setCell ⟨g, n, none⟩ (.slice ua l.length uc)).setCell ⟨w.heap.size + 1, 0, none⟩ (.int .i64 (E : Int))).setCell ⟨w.heap.size + 1, 1, none⟩ (.slice (some ⟨g, 0, none⟩) L.length c))) :=
      ((Keeps.refl (fun k => k = w.heap.size + 1) _).setIn (w.heap.size + 1) 0 _ rfl).setIn (w.heap.size + 1) 1 _ rfl
    have HKW : Hid (Keeps (fun _ => False) w (((w1.setCell ⟨g, n, none⟩ (.slice ua l.length uc)).setCell ⟨w.heap.size + 1, 0, none⟩ (.int .i64 (E : Int))).setCell ⟨w.heap.size + 1, 1, none⟩ (.slice (some ⟨g, 0, none⟩) L.length c))) :=
      (((HK.out.trans' HK1.out).setCell _ _ fun q => by simp only at q; omega).setCell _ _ fun q => by simp only at q; omega).setCell _ _ fun q => by simp only at q; omega
    have HKg : Hid (Keeps (fun k => k = g) w1 (w1.setCell ⟨g, n, none⟩ (.slice ua l.length uc))) := (Keeps.refl _ _).setCell _ _ fun _ => rfl
    generalize ((w1.setCell ⟨g, n, none⟩ (.slice ua l.length uc)).setCell ⟨w.heap.size + 1, 0, none⟩ (.int .i64 (E : Int))).setCell ⟨w.heap.size + 1, 1, none⟩ (.slice (some ⟨g, 0, none⟩) L.length c) = W at *
    have k0 := HW.out.cell (i := 0)
    have k1 := HW.out.cell (i := 1)
    refine bodyPost_ret (v := rval E (.slice (some ⟨g, 0, none⟩) L.length c)) (by simp at k0 k1; simp [results, Tryd.results66, go_sem, k0, k1, rval]) rfl ?_
    refine ⟨_, rfl, ⟨_, ownsRow_kept (by rw [List.length_set]; exact HST.out) HS1.out (fun k e q => by simp [Value.ownBlock] at e; omega), fun i l' hl' => ?_⟩, HKW.out⟩
    rw [set_get hn] at hl'
    split at hl'
    · rename_i ei
      subst ei
      cases hl'
      exact ⟨_, by rw [set_get (by omega), if_pos rfl], HU.out.keep HKW.out⟩
    · rename_i ei
      obtain ⟨u1, h1, h2⟩ := HROWS.out i l' hl'
      exact ⟨u1, by rw [set_get (by omega), if_neg ei]; exact h1, h2.keep HKW.out⟩
end
end Go.Proofs.YtjmkejkhpdhhbaaDoor
