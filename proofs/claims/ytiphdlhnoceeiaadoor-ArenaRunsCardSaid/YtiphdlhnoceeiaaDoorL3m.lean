/- Chapter 3's laws: ArenaRuns. -/
import Derived.Test.YtiphdlhnoceeiaaDoorL3l
namespace Go.Proofs.YtiphdlhnoceeiaaDoor
open Go Go.RowKit
set_option linter.unusedVariables false
set_option linter.unusedSimpArgs false
set_option maxRecDepth 100000

/-- The arena of the places MA; beside it the document's, of the places MB, in the block B. -/
structure RMem (w : World) (p k : Nat) (MA MB : List (Int × Int)) (own : Nat → Prop) (B : Nat) (ra : Option Addr) (rc : Nat) (wr : World) : Prop where
  a : ALoop w p k MA own wr
  b : Bes own wr B #[.int .i64 k, .slice ra MB.length rc] 75
  r : Rd wr ra (plVals MB)
  o : plVals MB = [] ∨ ∃ b off, ra = some ⟨b, off, none⟩ ∧ b ≠ B ∧ ¬ own b
  n : w.heap.size ≤ B
theorem Rd.lt {w : World} {b off : Nat} {xs : List Value} (h : Rd w (some ⟨b, off, none⟩) xs) (hn : xs ≠ []) : b < w.heap.size := by
  rcases h with h0 | ⟨b3, off3, he3, hc⟩
  · exact absurd h0 hn
  · simp only [Option.some.injEq, Addr.mk.injEq, and_true] at he3
    obtain ⟨rfl, rfl⟩ := he3
    cases xs with
    | nil => exact absurd rfl hn
    | cons x xs =>
      have hc0 := hc 0 (by simp)
      exact World.block_lt_of_cell? w _ hc0
section
variable {w wr w2 : World} {p k : Nat} {MA MA' MB MB' : List (Int × Int)} {own own' : Nat → Prop} {B : Nat} {ra ra' : Option Addr} {rc rc' : Nat}
theorem RMem.quiet (h : RMem w p k MA MB own B ra rc wr) (hk : Keeps (fun _ => False) wr w2) : RMem w p k MA MB own B ra rc w2 :=
  ⟨h.a.quiet hk, h.b.quiet hk, h.r.keep hk, h.o, h.n⟩
theorem RMem.arena (h : RMem w p k MA MB own B ra rc wr) (ha : ALoop w p k MA' own' w2) (hst : Step wr own w2 own') : RMem w p k MA' MB own' B ra rc w2 := by
  refine ⟨ha, h.b.step hst, ?_, ?_, h.n⟩
  · rcases h.o with h0 | ⟨b, off, he, _, hb⟩
    · exact .inl h0
    · exact h.r.kept hst.1 fun b2 off2 e => by
        rw [he] at e
        simp at e
        exact e.1 ▸ hb
  · rcases h.o with h0 | ⟨b, off, he, hbB, hb⟩
    · exact .inl h0
    · by_cases hn : plVals MB = []
      · exact .inl hn
      · refine .inr ⟨b, off, he, hbB, fun e => ?_⟩
        have hlt := Rd.lt (he ▸ h.r) hn
        rcases hst.2 b e with e2 | e2
        · exact hb e2
        · omega
theorem RMem.fresh (h : RMem w p k MA MB own B ra rc wr) (hr : Rd w2 ra' (plVals MB')) (hf : ∀ b off, ra' = some ⟨b, off, none⟩ → wr.heap.size ≤ b) : plVals MB' = [] ∨ ∃ b off, ra' = some ⟨b, off, none⟩ ∧ b ≠ B ∧ ¬ own b := by
  rcases hr with h0 | ⟨b, off, he, _⟩
  · exact .inl h0
  · have h1 := hf b off he
    have h2 := h.b.1.lt
    exact .inr ⟨b, off, he, by omega, fun e => by have := h.a.ar.lt b e; omega⟩
/-- The document's is told anew. -/
theorem RMem.ref (h : RMem w p k MA MB own B ra rc wr) (hr : Rd wr ra' (plVals MB')) (ho : plVals MB' = [] ∨ ∃ b off, ra' = some ⟨b, off, none⟩ ∧ b ≠ B ∧ ¬ own b) :
    RMem w p k MA MB' own B ra' rc' ((wr.setCell ⟨B, 0, none⟩ (.int .i64 k)).setCell ⟨B, 1, none⟩ (.slice ra' MB'.length rc')) := by
  have hk : Keeps (fun i => i = B) wr ((wr.setCell ⟨B, 0, none⟩ (.int .i64 k)).setCell ⟨B, 1, none⟩ (.slice ra' MB'.length rc')) := ((Keeps.refl (fun i => i = B) wr).setCell ⟨B, 0, none⟩ (.int .i64 k) fun _ => rfl).setCell ⟨B, 1, none⟩ (.slice ra' MB'.length rc') fun _ => rfl
  refine ⟨⟨h.a.ar.kept hk fun i e e2 => h.b.2 (e2 ▸ e), h.a.new, h.a.keep.thin hk fun i e => e ▸ h.n⟩, ⟨(h.b.1.set 0 _).set 1 _, h.b.2⟩, ?_, ho, h.n⟩
  rcases ho with h0 | ⟨b, off, he, hb, _⟩
  · exact .inl h0
  · exact hr.kept hk fun b2 off2 e => by
      rw [he] at e
      simp at e
      exact e.1 ▸ hb
end

def actVals (l : List (Int × Int × Int × Int)) : List Value := l.flatMap fun p => [Value.int .i64 p.1, .int .u32 p.2.1, .int .u32 p.2.2.1, .int .i64 p.2.2.2]
theorem actVals_length (l : List (Int × Int × Int × Int)) : (actVals l).length = l.length * 4 := by
  induction l with
  | nil => rfl
  | cons p l ih => simp only [actVals, List.flatMap_cons] at ih ⊢; simp [ih]; omega
theorem actVals_get (l : List (Int × Int × Int × Int)) (i : Nat) (h : i < l.length) : (actVals l)[i * 4]? = some (.int .i64 l[i].1) ∧ (actVals l)[i * 4 + 1]? = some (.int .u32 l[i].2.1) ∧ (actVals l)[i * 4 + 2]? = some (.int .u32 l[i].2.2.1) ∧ (actVals l)[i * 4 + 3]? = some (.int .i64 l[i].2.2.2) := by
  induction l generalizing i with
  | nil => simp at h
  | cons p l ih =>
    cases i with
    | zero => simp [actVals]
    | succ i =>
      have := ih i (by simpa using h)
      simp only [actVals, List.flatMap_cons] at this ⊢
      rw [List.getElem?_append_right (by simp; omega), List.getElem?_append_right (by simp; omega), List.getElem?_append_right (by simp; omega), List.getElem?_append_right (by simp; omega)]
      simp only [List.length_cons, List.length_nil, List.getElem_cons_succ]
      rw [show (i + 1) * 4 - (0 + 1 + 1 + 1 + 1) = i * 4 from by omega, show (i + 1) * 4 + 1 - (0 + 1 + 1 + 1 + 1) = i * 4 + 1 from by omega, show (i + 1) * 4 + 2 - (0 + 1 + 1 + 1 + 1) = i * 4 + 2 from by omega, show (i + 1) * 4 + 3 - (0 + 1 + 1 + 1 + 1) = i * 4 + 3 from by omega]
      exact this
theorem actAt {w : World} {a : Option Addr} {l : List (Int × Int × Int × Int)} (hr : Rd w a (actVals l)) (i : Nat) (hi : i < l.length) : ∃ b off, a = some ⟨b, off, none⟩ ∧ w.cell? ⟨b, off + i * 4, none⟩ = some (.int .i64 l[i].1) ∧ w.cell? ⟨b, off + i * 4 + 1, none⟩ = some (.int .u32 l[i].2.1) ∧
    w.cell? ⟨b, off + i * 4 + 2, none⟩ = some (.int .u32 l[i].2.2.1) ∧ w.cell? ⟨b, off + i * 4 + 3, none⟩ = some (.int .i64 l[i].2.2.2) := by
  have hl := actVals_length l
  obtain ⟨b, off, rfl, hc⟩ := hr.at_ (i * 4) (by omega)
  obtain ⟨g1, g2, g3, g4⟩ := actVals_get l i hi
  exact ⟨b, off, rfl, (hc _ (by omega)).trans g1, by rw [Nat.add_assoc, hc (i * 4 + 1) (by omega), g2], by rw [Nat.add_assoc, hc (i * 4 + 2) (by omega), g3], by rw [Nat.add_assoc, hc (i * 4 + 3) (by omega), g4]⟩

theorem lhandle_bad {w wr : World} {p n : Nat} {L : List (Int × Int)} {own : Nat → Prop} (h : ALoop w p n L own wr) (x : Int) (k : Nat) (hk : hanErr n L x = k) (hne : k ≠ 0) :
    Calls Tryd.prog 42 #[.pointer (some ⟨p, 0, none⟩), .int .i64 x] wr (NilPost (.tuple #[.agg #[.int .u32 0, .int .u32 0], .iface 92 (.int .i64 k)]) wr) := by
  refine (ahandle h.ar x).mono ?_
  rintro e w' ⟨he, hkk⟩
  refine ⟨?_, hkk⟩
  rw [he, hk, if_neg hne]
  unfold errVal
  rw [if_neg hne]
  rfl
def RAll (w : World) (p k B : Nat) (wr : World) : Prop := ∃ M own ra rc, RMem w p k M M own B ra rc wr
set_option maxHeartbeats 8000000 in
theorem arenaRuns_walk (n : Int) (a : Option Addr) (c : Nat) (L : List (Int × Int)) (da : Option Addr) (dc : Nat) (ls : List (Int × Int × Int × Int)) (w : World) (hT : Tab w) (hE : ErrT w) (hr : Rd w a (plVals L)) (hl : L.length * 16 ≤ 140737488351232) (hb : ∀ q ∈ L, 0 ≤ q.1 ∧ q.1 ≤ 4294967295)
    (hz : Rd w da (actVals ls)) (hzl : ls.length ≤ 9223372036854775807) (hzw : ∀ x ∈ ls, 0 ≤ x.2.2.1 ∧ x.2.2.1 ≤ 4294967295) :
    Calls Tryd.prog 14 #[.int .i64 n, .slice a L.length c, .slice da ls.length dc] w (TruePost w) := by
  have HT := Lib.hid hT
  have HE := Lib.hid hE
  have HR := Lib.hid hr
  have HB := Lib.hid hb
  have HZ := Lib.hid hz
  have HZW := Lib.hid hzw
  obtain ⟨hk1, hk2⟩ := kof_le n 20 (by decide)
  have hk := show wrap64 (1 + wrap64 ((IntKind.u64.wrap n).tmod 20)) = (kof n 20 : Int) from kof_val n 20 (by decide) (by decide)
  generalize kof n 20 = k at *
  clear hT hE hr hb hz hzw
  go_enter Tryd.func14, Tryd.ntmps14
  go_wp2_with fail
  rw [hk]
  refine (givePl a c w HR.out hl).mono ?_
  rintro e w1 ⟨v, rfl, ho, hk1⟩
  obtain ⟨va, vc, rfl, hr1, hva⟩ := PlRow.rd ho
  rcases Classical.em (LoadOk (k : Int) L) with hok | hok
  · have hld := Lib.hid (lload (k : Int) k rfl va vc w w1 hk1 hr1 hva HB.out hok)
    have HOK := Lib.hid hok
    have hLk : L.length ≤ k := by have := hok.le; omega
    clear ho hk1 hr1 hva hok
    go_wp2_with fail
    refine hld.out.mono ?_
    rintro e w2 ⟨p, own, rfl, hal⟩
    have H2 := Lib.hid hal
    have hrl := Lib.hid (refLoad3 (k : Int) a c w2 (HR.out.keep hal.keep) (by omega))
    clear hal hld
    go_wp2_with fail
    refine hrl.out.mono ?_
    rintro e w3 ⟨v, k', rfl, hres, hkk⟩
    obtain ⟨rfl, rfl⟩ : v = RV k a L.length c ∧ k' = 0 := by
      rcases hres with ⟨_, h1, h2⟩ | ⟨h, _⟩
      · exact ⟨h1, h2⟩
      · exact absurd HOK.out h
    have hka : Keeps (fun _ => False) w3 (w3.alloc (.cells #[.int .i64 k, .slice a L.length c] 75)) := (Keeps.refl _ _).alloc _
    have hB3 := Bes.new (H2.out.quiet hkk) #[.int .i64 k, .slice a L.length c] 75
    have hrw := HR.out
    have H4 : Hid (RMem w p k L L own w3.heap.size a c (w3.alloc (.cells #[.int .i64 k, .slice a L.length c] 75))) := by
      refine ⟨(H2.out.quiet hkk).quiet hka, hB3, hrw.keep (((H2.out.quiet hkk).quiet hka).keep), ?_, ((H2.out.quiet hkk).keep).size⟩
      by_cases hn : plVals L = []
      · exact .inl hn
      · rcases hrw with h0 | ⟨b, off, he, hc⟩
        · exact .inl h0
        · have hlt := Rd.lt (he ▸ HR.out) hn
          have hs3 := ((H2.out.quiet hkk).keep).size
          exact .inr ⟨b, off, he, by omega, fun e => by have := (H2.out.quiet hkk).new b e; omega⟩
    unfold RV
    clear hres hkk H2 hrl hka hB3 hrw
    go_wp2_with fail
    refine (num03_nil _).mono ?_
    rintro e w5 ⟨rfl, hk5⟩
    have H5 : Hid (RAll w p k w3.heap.size w5) := ⟨L, own, a, c, H4.out.quiet hk5⟩
    generalize w3.heap.size = B at *
    clear hk5 H4
    go_wp2_with fail
    go_loopw [12] (fun i wr => ∃ (j : Nat), j ≤ ls.length ∧ j ≤ 200 ∧ i = .int .i64 (j : Int) ∧ Hid (RAll w p k B wr)) (fun i _ => ls.length - (intOf i).toNat)
    case atStart => exact ⟨0, Nat.zero_le _, Nat.zero_le _, rfl, H5⟩
    case round =>
      obtain ⟨j, hj, hj200, rfl, HS⟩ := hrel
      clear H5
      by_cases hlt : j < ls.length ∧ j < 200
      · obtain ⟨hlt, hlt2⟩ := hlt
        obtain ⟨M, o, ra, rc, hm⟩ := HS.out
        have HM := Lib.hid hm
        obtain ⟨ab, aoff, rfl, q0, q1, q2, q3⟩ := actAt (HZ.out.keep hm.a.keep) j hlt
        obtain ⟨y, hy⟩ : ∃ y : Nat, ls[j].2.2.1 = (y : Int) := Int.eq_ofNat_of_zero_le (HZW.out _ (List.getElem_mem hlt)).1
        have hyb : y ≤ 4294967295 := by have := (HZW.out _ (List.getElem_mem hlt)).2; omega
        rw [hy] at q2
        generalize ls[j].1 = z at *
        generalize ls[j].2.1 = ag at *
        generalize ls[j].2.2.2 = pl at *
        have HMV := mod_val z 7 (by decide) (by decide)
        have hm7 := Nat.mod_lt (unsg z) (show 0 < 7 by decide)
        generalize unsg z % 7 = m at *
        clear hy hm HS
        have HA : Hid (Keeps (fun _ => False) wr (wr.alloc (.cells #[.int .i64 z, .int .u32 ag, .int .u32 (y : Int), .int .i64 pl] 79))) := (Keeps.refl _ _).alloc _
        have HAB : Hid (Blk (wr.alloc (.cells #[.int .i64 z, .int .u32 ag, .int .u32 (y : Int), .int .i64 pl] 79)) wr.heap.size #[.int .i64 z, .int .u32 ag, .int .u32 (y : Int), .int .i64 pl] 79) := Blk.new wr _ _
        have HM1 := Lib.hid (HM.out.quiet HA.out)
        have hle := HM.out.a.ar.le
        have HOKM := Lib.hid HM.out.a.ar.ok
        go_upto_block 2 with fail
        rw [show (7 : Int) = ((7 : Nat) : Int) from rfl, HMV]
        go_cut [] (fun wc => Hid (RAll w p k B wc))
        case first =>
          as_aux_lemma =>
          have hms : m = 3 ∨ m = 4 ∨ m = 5 ∨ m = 6 ∨ m < 3 := by omega
          clear q0 q1 q2 q3 HM HA
          generalize wr.alloc (.cells #[.int .i64 z, .int .u32 ag, .int .u32 (y : Int), .int .i64 pl] 79) = W1 at *
          have x1 := HAB.out.cell (i := 1)
          have x2 := HAB.out.cell (i := 2)
          have x3 := HAB.out.cell (i := 3)
          have g0 := HM1.out.b.1.cell (i := 0)
          have g1 := HM1.out.b.1.cell (i := 1)
          simp only [List.getElem?_toArray, List.getElem?_cons_zero, List.getElem?_cons_succ] at x1 x2 x3 g0 g1
          rcases hms with rfl | rfl | rfl | rfl | hms
          · as_aux_lemma =>
            obtain ⟨fe, hfe⟩ : ∃ fe, findErr k M ag y = fe := ⟨_, rfl⟩
            have hrd := refDrop3 (L := M) k ra rc ag y hyb W1 HM1.out.r hle (by omega)
            unfold RDropPost at hrd
            rw [hfe] at hrd
            have hrd := Lib.hid hrd
            unfold RV at hrd
            have HFE := Lib.hid hfe
            clear hfe
            go_wp2_with fail
            refine hrd.out.mono ?_
            rintro e w5 ⟨hres, hk5⟩
            rcases hres with ⟨hne, rfl⟩ | ⟨rfl, a2, c2, rfl, hr2, hf2⟩
            · try unfold RV
              have hka : Keeps (fun _ => False) w5 (w5.alloc (.cells #[.int .i64 k, .slice ra M.length rc] 75)) := (Keeps.refl _ _).alloc _
              have H5 := Lib.hid (And.intro ((HM1.out.quiet hk5).quiet hka) (And.intro (Blk.new w5 #[.int .i64 k, .slice ra M.length rc] 75) (And.intro ((HAB.out.quiet hk5).quiet hka) (fun e => Nat.lt_irrefl _ ((HM1.out.quiet hk5).a.ar.lt _ e) : ¬ o w5.heap.size))))
              have x1 := Blk.cell H5.out.2.2.1 (i := 1)
              have x2 := Blk.cell H5.out.2.2.1 (i := 2)
              simp only [List.getElem?_toArray, List.getElem?_cons_zero, List.getElem?_cons_succ] at x1 x2
              have hd := Lib.hid (ldrop H5.out.1.a ag y hyb (.iface 92 (.int .i64 fe)) (by rw [HFE.out]; unfold errVal; rw [if_neg hne]; rfl) M (by unfold dropL; rw [HFE.out, if_neg hne]))
              have hfb : ((fe : Int) == 0) = false := by rw [beq_eq_false_iff_ne]; omega
              clear hk5 hka hrd hne
              go_wp2_with fail
              refine hd.out.mono ?_
              rintro e w6 ⟨rfl, hl6, hk6⟩
              have H6 := Lib.hid (And.intro (H5.out.1.arena hl6 ⟨hk6, fun i e => .inl e⟩) (Blk.kept H5.out.2.1 hk6 H5.out.2.2.2))
              clear hl6 hk6 hd H5
              go_wp2_with fail
              refine (num03_err fe _ (HE.out.keep H6.out.1.a.keep)).mono ?_
              rintro e w7 ⟨rfl, hk7⟩
              have H7 := Lib.hid (And.intro (H6.out.1.quiet hk7) (Blk.quiet H6.out.2 hk7))
              have g0 := H7.out.1.b.1.cell (i := 0)
              have g1 := H7.out.1.b.1.cell (i := 1)
              have f0 := H7.out.1.b.1.free 0
              have f1 := H7.out.1.b.1.free 1
              have c0 := Blk.cell H7.out.2 (i := 0)
              have c1 := Blk.cell H7.out.2 (i := 1)
              simp only [List.getElem?_toArray, List.getElem?_cons_zero, List.getElem?_cons_succ] at g0 g1 c0 c1
              have H8 := Lib.hid (H7.out.1.ref (rc' := rc) H7.out.1.r H7.out.1.o)
              clear hk7 H6
              go_wp2_with fail
              go_meet
              exact ⟨M, _, ra, rc, H8.out⟩
            · try unfold RV
              obtain ⟨M2, hM2⟩ : ∃ M2, dropL k M ag y = M2 := ⟨_, rfl⟩
              rw [hM2] at hr2 ⊢
              have hka : Keeps (fun _ => False) w5 (w5.alloc (.cells #[.int .i64 k, .slice a2 M2.length c2] 75)) := (Keeps.refl _ _).alloc _
              have H5 := Lib.hid (And.intro ((HM1.out.quiet hk5).quiet hka) (And.intro (Blk.new w5 #[.int .i64 k, .slice a2 M2.length c2] 75) (And.intro ((HAB.out.quiet hk5).quiet hka) (And.intro (hr2.keep hka) (And.intro (HM1.out.fresh hr2 hf2) (fun e => Nat.lt_irrefl _ ((HM1.out.quiet hk5).a.ar.lt _ e) : ¬ o w5.heap.size))))))
              have x1 := Blk.cell H5.out.2.2.1 (i := 1)
              have x2 := Blk.cell H5.out.2.2.1 (i := 2)
              simp only [List.getElem?_toArray, List.getElem?_cons_zero, List.getElem?_cons_succ] at x1 x2
              have hd := Lib.hid (ldrop H5.out.1.a ag y hyb .nilIface (by rw [HFE.out]; rfl) M2 hM2)
              clear hk5 hka hrd hM2 hr2 hf2
              go_wp2_with fail
              refine hd.out.mono ?_
              rintro e w6 ⟨rfl, hl6, hk6⟩
              have hrk : Rd w6 a2 (plVals M2) := by
                rcases H5.out.2.2.2.2.1 with h0 | ⟨b, off, he, _, hb⟩
                · exact .inl h0
                · exact H5.out.2.2.2.1.kept hk6 fun b2 off2 e => by
                    rw [he] at e
                    simp at e
                    exact e.1 ▸ hb
              have H6 := Lib.hid (And.intro (H5.out.1.arena hl6 ⟨hk6, fun i e => .inl e⟩) (And.intro (Blk.kept H5.out.2.1 hk6 H5.out.2.2.2.2.2) (And.intro hrk H5.out.2.2.2.2.1)))
              clear hl6 hk6 hd H5 hrk
              go_wp2_with fail
              refine (num03_nil _).mono ?_
              rintro e w7 ⟨rfl, hk7⟩
              have H7 := Lib.hid (And.intro (H6.out.1.quiet hk7) (And.intro (Blk.quiet H6.out.2.1 hk7) (And.intro (H6.out.2.2.1.keep hk7) H6.out.2.2.2)))
              have g0 := H7.out.1.b.1.cell (i := 0)
              have g1 := H7.out.1.b.1.cell (i := 1)
              have f0 := H7.out.1.b.1.free 0
              have f1 := H7.out.1.b.1.free 1
              have c0 := Blk.cell H7.out.2.1 (i := 0)
              have c1 := Blk.cell H7.out.2.1 (i := 1)
              simp only [List.getElem?_toArray, List.getElem?_cons_zero, List.getElem?_cons_succ] at g0 g1 c0 c1
              have H8 := Lib.hid (H7.out.1.ref (rc' := c2) H7.out.2.2.1 H7.out.2.2.2)
              clear hk7 H6
              go_wp2_with fail
              go_meet
              exact ⟨M2, _, a2, c2, H8.out⟩
          · as_aux_lemma =>
            obtain ⟨fe, hfe⟩ : ∃ fe, findErr k M ag y = fe := ⟨_, rfl⟩
            have hrd := refDrop3 (L := M) k ra rc ag y hyb W1 HM1.out.r hle (by omega)
            unfold RDropPost at hrd
            rw [hfe] at hrd
            have hrd := Lib.hid hrd
            unfold RV at hrd
            have HFE := Lib.hid hfe
            clear hfe
            go_wp2_with fail
            refine hrd.out.mono ?_
            rintro e w5 ⟨hres, hk5⟩
            rcases hres with ⟨hne, rfl⟩ | ⟨rfl, a2, c2, rfl, hr2, hf2⟩
            · try unfold RV
              have hka : Keeps (fun _ => False) w5 (w5.alloc (.cells #[.int .i64 k, .slice ra M.length rc] 75)) := (Keeps.refl _ _).alloc _
              have H5 := Lib.hid (And.intro ((HM1.out.quiet hk5).quiet hka) (And.intro (Blk.new w5 #[.int .i64 k, .slice ra M.length rc] 75) (And.intro ((HAB.out.quiet hk5).quiet hka) (fun e => Nat.lt_irrefl _ ((HM1.out.quiet hk5).a.ar.lt _ e) : ¬ o w5.heap.size))))
              have x1 := Blk.cell H5.out.2.2.1 (i := 1)
              have x2 := Blk.cell H5.out.2.2.1 (i := 2)
              simp only [List.getElem?_toArray, List.getElem?_cons_zero, List.getElem?_cons_succ] at x1 x2
              have hd := Lib.hid (ldrop H5.out.1.a ag y hyb (.iface 92 (.int .i64 fe)) (by rw [HFE.out]; unfold errVal; rw [if_neg hne]; rfl) M (by unfold dropL; rw [HFE.out, if_neg hne]))
              have hfb : ((fe : Int) == 0) = false := by rw [beq_eq_false_iff_ne]; omega
              clear hk5 hka hrd hne
              go_wp2_with fail
              refine hd.out.mono ?_
              rintro e w6 ⟨rfl, hl6, hk6⟩
              have H6 := Lib.hid (And.intro (H5.out.1.arena hl6 ⟨hk6, fun i e => .inl e⟩) (Blk.kept H5.out.2.1 hk6 H5.out.2.2.2))
              clear hl6 hk6 hd H5
              go_wp2_with fail
              refine (num03_err fe _ (HE.out.keep H6.out.1.a.keep)).mono ?_
              rintro e w7 ⟨rfl, hk7⟩
              have H7 := Lib.hid (And.intro (H6.out.1.quiet hk7) (Blk.quiet H6.out.2 hk7))
              have g0 := H7.out.1.b.1.cell (i := 0)
              have g1 := H7.out.1.b.1.cell (i := 1)
              have f0 := H7.out.1.b.1.free 0
              have f1 := H7.out.1.b.1.free 1
              have c0 := Blk.cell H7.out.2 (i := 0)
              have c1 := Blk.cell H7.out.2 (i := 1)
              simp only [List.getElem?_toArray, List.getElem?_cons_zero, List.getElem?_cons_succ] at g0 g1 c0 c1
              have H8 := Lib.hid (H7.out.1.ref (rc' := rc) H7.out.1.r H7.out.1.o)
              clear hk7 H6
              go_wp2_with fail
              go_meet
              exact ⟨M, _, ra, rc, H8.out⟩
            · try unfold RV
              obtain ⟨M2, hM2⟩ : ∃ M2, dropL k M ag y = M2 := ⟨_, rfl⟩
              rw [hM2] at hr2 ⊢
              have hka : Keeps (fun _ => False) w5 (w5.alloc (.cells #[.int .i64 k, .slice a2 M2.length c2] 75)) := (Keeps.refl _ _).alloc _
              have H5 := Lib.hid (And.intro ((HM1.out.quiet hk5).quiet hka) (And.intro (Blk.new w5 #[.int .i64 k, .slice a2 M2.length c2] 75) (And.intro ((HAB.out.quiet hk5).quiet hka) (And.intro (hr2.keep hka) (And.intro (HM1.out.fresh hr2 hf2) (fun e => Nat.lt_irrefl _ ((HM1.out.quiet hk5).a.ar.lt _ e) : ¬ o w5.heap.size))))))
              have x1 := Blk.cell H5.out.2.2.1 (i := 1)
              have x2 := Blk.cell H5.out.2.2.1 (i := 2)
              simp only [List.getElem?_toArray, List.getElem?_cons_zero, List.getElem?_cons_succ] at x1 x2
              have hd := Lib.hid (ldrop H5.out.1.a ag y hyb .nilIface (by rw [HFE.out]; rfl) M2 hM2)
              clear hk5 hka hrd hM2 hr2 hf2
              go_wp2_with fail
              refine hd.out.mono ?_
              rintro e w6 ⟨rfl, hl6, hk6⟩
              have hrk : Rd w6 a2 (plVals M2) := by
                rcases H5.out.2.2.2.2.1 with h0 | ⟨b, off, he, _, hb⟩
                · exact .inl h0
                · exact H5.out.2.2.2.1.kept hk6 fun b2 off2 e => by
                    rw [he] at e
                    simp at e
                    exact e.1 ▸ hb
              have H6 := Lib.hid (And.intro (H5.out.1.arena hl6 ⟨hk6, fun i e => .inl e⟩) (And.intro (Blk.kept H5.out.2.1 hk6 H5.out.2.2.2.2.2) (And.intro hrk H5.out.2.2.2.2.1)))
              clear hl6 hk6 hd H5 hrk
              go_wp2_with fail
              refine (num03_nil _).mono ?_
              rintro e w7 ⟨rfl, hk7⟩
              have H7 := Lib.hid (And.intro (H6.out.1.quiet hk7) (And.intro (Blk.quiet H6.out.2.1 hk7) (And.intro (H6.out.2.2.1.keep hk7) H6.out.2.2.2)))
              have g0 := H7.out.1.b.1.cell (i := 0)
              have g1 := H7.out.1.b.1.cell (i := 1)
              have f0 := H7.out.1.b.1.free 0
              have f1 := H7.out.1.b.1.free 1
              have c0 := Blk.cell H7.out.2.1 (i := 0)
              have c1 := Blk.cell H7.out.2.1 (i := 1)
              simp only [List.getElem?_toArray, List.getElem?_cons_zero, List.getElem?_cons_succ] at g0 g1 c0 c1
              have H8 := Lib.hid (H7.out.1.ref (rc' := c2) H7.out.2.2.1 H7.out.2.2.2)
              clear hk7 H6
              go_wp2_with fail
              go_meet
              exact ⟨M2, _, a2, c2, H8.out⟩
          · as_aux_lemma =>
            obtain ⟨fe, hfe⟩ : ∃ fe, findErr k M ag y = fe := ⟨_, rfl⟩
            have HFE := Lib.hid hfe
            clear hfe
            have hcs : fe = 0 ∨ fe ≠ 0 := by omega
            rcases hcs with rfl | hne
            · skip
              have hf := Lib.hid (lfind HM1.out.a ag y hyb 0 HFE.out (y : Int) rfl .nilIface (by unfold errVal; first | rfl | (rw [if_neg hne]; rfl)))
              go_wp2_with fail
              refine hf.out.mono ?_
              rintro e w5 ⟨rfl, hk5⟩
              have H5 := Lib.hid (And.intro (HM1.out.quiet hk5) (HAB.out.quiet hk5))
              have x1 := Blk.cell H5.out.2 (i := 1)
              have x2 := Blk.cell H5.out.2 (i := 2)
              have g0 := H5.out.1.b.1.cell (i := 0)
              have g1 := H5.out.1.b.1.cell (i := 1)
              simp only [List.getElem?_toArray, List.getElem?_cons_zero, List.getElem?_cons_succ] at x1 x2 g0 g1
              have hrf := refFind3 (L := M) k ra rc ag y hyb w5 H5.out.1.r hle (by omega)
              rw [HFE.out] at hrf
              have hrf := Lib.hid hrf
              unfold RV at hrf
              clear hk5 hf
              go_wp2_with fail
              refine hrf.out.mono ?_
              rintro e w6 ⟨rfl, hk6⟩
              have H6 := Lib.hid (And.intro (H5.out.1.quiet hk6) (Blk.quiet H5.out.2 hk6))
              clear hk6 hrf H5
              go_wp2_with fail
              refine (num03_nil _).mono ?_
              rintro e w7 ⟨rfl, hk7⟩
              have H7 := Lib.hid (And.intro (H6.out.1.quiet hk7) (Blk.quiet H6.out.2 hk7))
              have x2 := Blk.cell H7.out.2 (i := 2)
              simp only [List.getElem?_toArray, List.getElem?_cons_zero, List.getElem?_cons_succ] at x2
              clear hk7 H6
              go_wp2_with fail
              go_meet
              exact ⟨M, _, ra, rc, H7.out.1⟩
            · have hfb : ((fe : Int) == 0) = false := by rw [beq_eq_false_iff_ne]; omega
              have hf := Lib.hid (lfind HM1.out.a ag y hyb fe HFE.out 0 (if_neg hne) (.iface 92 (.int .i64 fe)) (by unfold errVal; first | rfl | (rw [if_neg hne]; rfl)))
              go_wp2_with fail
              refine hf.out.mono ?_
              rintro e w5 ⟨rfl, hk5⟩
              have H5 := Lib.hid (And.intro (HM1.out.quiet hk5) (HAB.out.quiet hk5))
              have x1 := Blk.cell H5.out.2 (i := 1)
              have x2 := Blk.cell H5.out.2 (i := 2)
              have g0 := H5.out.1.b.1.cell (i := 0)
              have g1 := H5.out.1.b.1.cell (i := 1)
              simp only [List.getElem?_toArray, List.getElem?_cons_zero, List.getElem?_cons_succ] at x1 x2 g0 g1
              have hrf := refFind3 (L := M) k ra rc ag y hyb w5 H5.out.1.r hle (by omega)
              rw [HFE.out] at hrf
              have hrf := Lib.hid hrf
              unfold RV at hrf
              clear hk5 hf
              go_wp2_with fail
              refine hrf.out.mono ?_
              rintro e w6 ⟨rfl, hk6⟩
              have H6 := Lib.hid (And.intro (H5.out.1.quiet hk6) (Blk.quiet H5.out.2 hk6))
              clear hk6 hrf H5
              go_wp2_with fail
              refine (num03_err fe _ (HE.out.keep H6.out.1.a.keep)).mono ?_
              rintro e w7 ⟨rfl, hk7⟩
              have H7 := Lib.hid (And.intro (H6.out.1.quiet hk7) (Blk.quiet H6.out.2 hk7))
              have x2 := Blk.cell H7.out.2 (i := 2)
              simp only [List.getElem?_toArray, List.getElem?_cons_zero, List.getElem?_cons_succ] at x2
              clear hk7 H6
              go_wp2_with fail
              go_meet
              exact ⟨M, _, ra, rc, H7.out.1⟩
          · as_aux_lemma =>
            have hple : (pl < 0 ∨ (k : Int) ≤ pl) ∨ (0 ≤ pl ∧ pl < (k : Int)) := by omega
            rcases hple with hbadr | ⟨hp0, hpk⟩
            · have he12 : hanErr k M pl = 12 := by unfold hanErr; rw [if_pos hbadr]
              have hh := Lib.hid (lhandle_bad HM1.out.a pl 12 he12 (by decide))
              have hcs : pl < 0 ∨ (0 ≤ pl ∧ (k : Int) ≤ pl) := by omega
              clear he12 hbadr
              rcases hcs with hpn | ⟨hpn, hpk⟩
              all_goals
                go_wp2_with fail
                refine hh.out.mono ?_
                rintro e w5 ⟨rfl, hk5⟩
                have H5 := Lib.hid (And.intro (HM1.out.quiet (hk5.alloc (.cells #[.int .u32 0, .int .u32 0] 46))) ((HAB.out.quiet hk5).alloc (.cells #[.int .u32 0, .int .u32 0] 46)))
                have x3 := Blk.cell H5.out.2 (i := 3)
                have g0 := H5.out.1.b.1.cell (i := 0)
                have g1 := H5.out.1.b.1.cell (i := 1)
                simp only [List.getElem?_toArray, List.getElem?_cons_zero, List.getElem?_cons_succ] at x3 g0 g1
                skip
                clear hk5 hh
                go_wp2_with fail
                refine wp_region_held_drew (S := (fun _ => True)) (by kernel_rfl) (trivial) (fun hHeld => ?_)
                refine wpAnyH_take (i := 0) (v := ?_) rfl (by kernel_rfl) (by kernel_rfl) (by kernel_rfl) (fun _ _ _ h => h) (Or.inl ⟨by rfl, ?_⟩) (by assumption) ?_
                rotate_left
                · (intro w hSw; (try dsimp only at hSw); simp only [List.getElem_toArray, List.getElem_cons_zero, List.getElem_cons_succ]; go_simp <;> with_reducible rfl)
                try simp only [Act.put, List.getElem_toArray, List.getElem_cons_zero, List.getElem_cons_succ, List.setIfInBounds_toArray, List.set_cons_zero, List.set_cons_succ]
                refine wpAnyH_take (i := 2) (v := ?_) rfl (by kernel_rfl) (by kernel_rfl) (by kernel_rfl) (fun _ _ _ h => h) (Or.inl ⟨by rfl, ?_⟩) (by assumption) ?_
                rotate_left
                · (intro w hSw; (try dsimp only at hSw); simp only [List.getElem_toArray, List.getElem_cons_zero, List.getElem_cons_succ]; go_simp <;> with_reducible rfl)
                try simp only [Act.put, List.getElem_toArray, List.getElem_cons_zero, List.getElem_cons_succ, List.setIfInBounds_toArray, List.set_cons_zero, List.set_cons_succ]
                refine wpAnyH_ready (rs := [1]) (by kernel_rfl) (by simp) (AllReadyH.cons rfl (fun K hK => ?_) AllReadyH.nil)
                try simp only [List.getElem_toArray, List.getElem_cons_zero, List.getElem_cons_succ]
                go_simp
                refine (num03_err 12 _ (HE.out.keep (H5.out.1.a.keep.trans' (Keeps.refl _ _).drew))).mono ?_
                rintro e w6 ⟨rfl, hk6⟩
                try go_wp2_with fail
                refine hK.out _ _ ?_ (fun hHeld => ?_)
                · exact trivial
                clear hK K
                try simp only [Act.put, List.getElem_toArray, List.getElem_cons_zero, List.getElem_cons_succ, List.setIfInBounds_toArray, List.set_cons_zero, List.set_cons_succ]
                refine wpAnyH_take (i := 3) (v := ?_) rfl (by kernel_rfl) (by kernel_rfl) (by kernel_rfl) (fun _ _ _ h => h) (Or.inl ⟨by rfl, ?_⟩) (by assumption) ?_
                rotate_left
                · (intro w hSw; (try dsimp only at hSw); simp only [List.getElem_toArray, List.getElem_cons_zero, List.getElem_cons_succ]; go_simp <;> with_reducible rfl)
                try simp only [Act.put, List.getElem_toArray, List.getElem_cons_zero, List.getElem_cons_succ, List.setIfInBounds_toArray, List.set_cons_zero, List.set_cons_succ]
                refine wpAnyH_take (i := 4) (v := ?_) rfl (by kernel_rfl) (by kernel_rfl) (by kernel_rfl) (fun _ _ _ h => h) (Or.inl ⟨by rfl, ?_⟩) (by assumption) ?_
                rotate_left
                · (intro w hSw; (try dsimp only at hSw); simp only [List.getElem_toArray, List.getElem_cons_zero, List.getElem_cons_succ]; go_simp <;> with_reducible rfl)
                try simp only [Act.put, List.getElem_toArray, List.getElem_cons_zero, List.getElem_cons_succ, List.setIfInBounds_toArray, List.set_cons_zero, List.set_cons_succ]
                refine wpAnyH_take (i := 5) (v := ?_) rfl (by kernel_rfl) (by kernel_rfl) (by kernel_rfl) (fun _ _ _ h => h) (Or.inl ⟨by rfl, ?_⟩) (by assumption) ?_
                rotate_left
                · (intro w hSw; (try dsimp only at hSw); simp only [List.getElem_toArray, List.getElem_cons_zero, List.getElem_cons_succ]; go_simp <;> with_reducible rfl)
                try simp only [Act.put, List.getElem_toArray, List.getElem_cons_zero, List.getElem_cons_succ, List.setIfInBounds_toArray, List.set_cons_zero, List.set_cons_succ]
                refine wpAnyH_take (i := 6) (v := ?_) rfl (by kernel_rfl) (by kernel_rfl) (by kernel_rfl) (fun _ _ _ h => h) (Or.inl ⟨by rfl, ?_⟩) (by assumption) ?_
                rotate_left
                · (intro w hSw; (try dsimp only at hSw); simp only [List.getElem_toArray, List.getElem_cons_zero, List.getElem_cons_succ]; go_simp <;> with_reducible rfl)
                try simp only [Act.put, List.getElem_toArray, List.getElem_cons_zero, List.getElem_cons_succ, List.setIfInBounds_toArray, List.set_cons_zero, List.set_cons_succ]
                refine wpAnyH_take (i := 7) (v := ?_) rfl (by kernel_rfl) (by kernel_rfl) (by kernel_rfl) (fun _ _ _ h => h) (Or.inl ⟨by rfl, ?_⟩) (by assumption) ?_
                rotate_left
                · (intro w hSw; (try dsimp only at hSw); simp only [List.getElem_toArray, List.getElem_cons_zero, List.getElem_cons_succ]; go_simp <;> with_reducible rfl)
                try simp only [Act.put, List.getElem_toArray, List.getElem_cons_zero, List.getElem_cons_succ, List.setIfInBounds_toArray, List.set_cons_zero, List.set_cons_succ]
                refine wpAnyH_take (i := 8) (v := undef) rfl (by kernel_rfl) (by kernel_rfl) (by kernel_rfl) (fun _ _ _ h => h) (Or.inr ⟨by rfl, rfl⟩) (by assumption) ?_
                try simp only [Act.put, List.getElem_toArray, List.getElem_cons_zero, List.getElem_cons_succ, List.setIfInBounds_toArray, List.set_cons_zero, List.set_cons_succ]
                refine wpAnyH_take (i := 9) (v := undef) rfl (by kernel_rfl) (by kernel_rfl) (by kernel_rfl) (fun _ _ _ h => h) (Or.inr ⟨by rfl, rfl⟩) (by assumption) ?_
                try simp only [Act.put, List.getElem_toArray, List.getElem_cons_zero, List.getElem_cons_succ, List.setIfInBounds_toArray, List.set_cons_zero, List.set_cons_succ]
                refine wpAnyH_take (i := 10) (v := undef) rfl (by kernel_rfl) (by kernel_rfl) (by kernel_rfl) (fun _ _ _ h => h) (Or.inr ⟨by rfl, rfl⟩) (by assumption) ?_
                try simp only [Act.put, List.getElem_toArray, List.getElem_cons_zero, List.getElem_cons_succ, List.setIfInBounds_toArray, List.set_cons_zero, List.set_cons_succ]
                refine wpAnyH_take (i := 11) (v := undef) rfl (by kernel_rfl) (by kernel_rfl) (by kernel_rfl) (fun _ _ _ h => h) (Or.inr ⟨by rfl, rfl⟩) (by assumption) ?_
                try simp only [Act.put, List.getElem_toArray, List.getElem_cons_zero, List.getElem_cons_succ, List.setIfInBounds_toArray, List.set_cons_zero, List.set_cons_succ]
                refine wpAnyH_take (i := 12) (v := undef) rfl (by kernel_rfl) (by kernel_rfl) (by kernel_rfl) (fun _ _ _ h => h) (Or.inr ⟨by rfl, rfl⟩) (by assumption) ?_
                try simp only [Act.put, List.getElem_toArray, List.getElem_cons_zero, List.getElem_cons_succ, List.setIfInBounds_toArray, List.set_cons_zero, List.set_cons_succ]
                refine wpAnyH_take (i := 13) (v := undef) rfl (by kernel_rfl) (by kernel_rfl) (by kernel_rfl) (fun _ _ _ h => h) (Or.inr ⟨by rfl, rfl⟩) (by assumption) ?_
                try simp only [Act.put, List.getElem_toArray, List.getElem_cons_zero, List.getElem_cons_succ, List.setIfInBounds_toArray, List.set_cons_zero, List.set_cons_succ]
                refine wpAnyH_take (i := 14) (v := undef) rfl (by kernel_rfl) (by kernel_rfl) (by kernel_rfl) (fun _ _ _ h => h) (Or.inr ⟨by rfl, rfl⟩) (by assumption) ?_
                try simp only [Act.put, List.getElem_toArray, List.getElem_cons_zero, List.getElem_cons_succ, List.setIfInBounds_toArray, List.set_cons_zero, List.set_cons_succ]
                refine wpAnyH_take (i := 15) (v := undef) rfl (by kernel_rfl) (by kernel_rfl) (by kernel_rfl) (fun _ _ _ h => h) (Or.inr ⟨by rfl, rfl⟩) (by assumption) ?_
                try simp only [Act.put, List.getElem_toArray, List.getElem_cons_zero, List.getElem_cons_succ, List.setIfInBounds_toArray, List.set_cons_zero, List.set_cons_succ]
                refine wpAnyH_take (i := 16) (v := undef) rfl (by kernel_rfl) (by kernel_rfl) (by kernel_rfl) (fun _ _ _ h => h) (Or.inr ⟨by rfl, rfl⟩) (by assumption) ?_
                try simp only [Act.put, List.getElem_toArray, List.getElem_cons_zero, List.getElem_cons_succ, List.setIfInBounds_toArray, List.set_cons_zero, List.set_cons_succ]
                refine wpAnyH_take (i := 17) (v := undef) rfl (by kernel_rfl) (by kernel_rfl) (by kernel_rfl) (fun _ _ _ h => h) (Or.inr ⟨by rfl, rfl⟩) (by assumption) ?_
                try simp only [Act.put, List.getElem_toArray, List.getElem_cons_zero, List.getElem_cons_succ, List.setIfInBounds_toArray, List.set_cons_zero, List.set_cons_succ]
                refine wpAnyH_take (i := 18) (v := undef) rfl (by kernel_rfl) (by kernel_rfl) (by kernel_rfl) (fun _ _ _ h => h) (Or.inr ⟨by rfl, rfl⟩) (by assumption) ?_
                try simp only [Act.put, List.getElem_toArray, List.getElem_cons_zero, List.getElem_cons_succ, List.setIfInBounds_toArray, List.set_cons_zero, List.set_cons_succ]
                refine wpAnyH_take (i := 19) (v := undef) rfl (by kernel_rfl) (by kernel_rfl) (by kernel_rfl) (fun _ _ _ h => h) (Or.inr ⟨by rfl, rfl⟩) (by assumption) ?_
                try simp only [Act.put, List.getElem_toArray, List.getElem_cons_zero, List.getElem_cons_succ, List.setIfInBounds_toArray, List.set_cons_zero, List.set_cons_succ]
                refine wpAnyH_take (i := 20) (v := undef) rfl (by kernel_rfl) (by kernel_rfl) (by kernel_rfl) (fun _ _ _ h => h) (Or.inr ⟨by rfl, rfl⟩) (by assumption) ?_
                try simp only [Act.put, List.getElem_toArray, List.getElem_cons_zero, List.getElem_cons_succ, List.setIfInBounds_toArray, List.set_cons_zero, List.set_cons_succ]
                refine wpAnyH_take (i := 21) (v := ?_) rfl (by kernel_rfl) (by kernel_rfl) (by kernel_rfl) (fun _ _ _ h => h) (Or.inl ⟨by rfl, ?_⟩) (by assumption) ?_
                rotate_left
                · (intro w hSw; (try dsimp only at hSw); simp only [List.getElem_toArray, List.getElem_cons_zero, List.getElem_cons_succ]; go_simp <;> with_reducible rfl)
                try simp only [Act.put, List.getElem_toArray, List.getElem_cons_zero, List.getElem_cons_succ, List.setIfInBounds_toArray, List.set_cons_zero, List.set_cons_succ]
                refine wpAnyH_take (i := 22) (v := ?_) rfl (by kernel_rfl) (by kernel_rfl) (by kernel_rfl) (fun _ _ _ h => h) (Or.inl ⟨by rfl, ?_⟩) (by assumption) ?_
                rotate_left
                · (intro w hSw; (try dsimp only at hSw); simp only [List.getElem_toArray, List.getElem_cons_zero, List.getElem_cons_succ]; go_simp <;> with_reducible rfl)
                try simp only [Act.put, List.getElem_toArray, List.getElem_cons_zero, List.getElem_cons_succ, List.setIfInBounds_toArray, List.set_cons_zero, List.set_cons_succ]
                refine wpAnyH_done (by kernel_rfl) ?_ _
                have H7 := Lib.hid (H5.out.1.quiet ((Keeps.refl _ _).drew.trans' hk6))
                clear hk6
                go_wp2_with fail
                go_meet
                exact ⟨M, _, _, rc, H7.out⟩
            · obtain ⟨x, rfl⟩ := Int.eq_ofNat_of_zero_le hp0
              have hxk : x < k := by omega
              have hcs : (M.length ≤ x) ∨ (∃ hx : x < M.length, M[x].2 ≠ 1) ∨ (∃ hx : x < M.length, M[x].2 = 1) := by
                by_cases h1 : M.length ≤ x
                · exact .inl h1
                · by_cases h2 : (M[x]'(by omega)).2 = 1
                  · exact .inr (.inr ⟨by omega, h2⟩)
                  · exact .inr (.inl ⟨by omega, h2⟩)
              rcases hcs with hx | ⟨hx, hx1⟩ | ⟨hx, hx1⟩
              · have he13 : hanErr k M (x : Int) = 13 := by unfold hanErr; rw [if_neg (by omega), Int.toNat_natCast, List.getElem?_eq_none hx]; rfl
                have hh := Lib.hid (lhandle_bad HM1.out.a (x : Int) 13 he13 (by decide))
                have hlx : decide (M.length ≤ x) = true := by simp [hx]
                clear he13
                go_wp2_with fail
                refine hh.out.mono ?_
                rintro e w5 ⟨rfl, hk5⟩
                have H5 := Lib.hid (And.intro (HM1.out.quiet (hk5.alloc (.cells #[.int .u32 0, .int .u32 0] 46))) ((HAB.out.quiet hk5).alloc (.cells #[.int .u32 0, .int .u32 0] 46)))
                have x3 := Blk.cell H5.out.2 (i := 3)
                have g0 := H5.out.1.b.1.cell (i := 0)
                have g1 := H5.out.1.b.1.cell (i := 1)
                simp only [List.getElem?_toArray, List.getElem?_cons_zero, List.getElem?_cons_succ] at x3 g0 g1
                skip
                clear hk5 hh
                go_wp2_with fail
                refine wp_region_held_drew (S := (fun _ => True)) (by kernel_rfl) (trivial) (fun hHeld => ?_)
                refine wpAnyH_take (i := 0) (v := ?_) rfl (by kernel_rfl) (by kernel_rfl) (by kernel_rfl) (fun _ _ _ h => h) (Or.inl ⟨by rfl, ?_⟩) (by assumption) ?_
                rotate_left
                · (intro w hSw; (try dsimp only at hSw); simp only [List.getElem_toArray, List.getElem_cons_zero, List.getElem_cons_succ]; go_simp <;> with_reducible rfl)
                try simp only [Act.put, List.getElem_toArray, List.getElem_cons_zero, List.getElem_cons_succ, List.setIfInBounds_toArray, List.set_cons_zero, List.set_cons_succ]
                refine wpAnyH_take (i := 2) (v := ?_) rfl (by kernel_rfl) (by kernel_rfl) (by kernel_rfl) (fun _ _ _ h => h) (Or.inl ⟨by rfl, ?_⟩) (by assumption) ?_
                rotate_left
                · (intro w hSw; (try dsimp only at hSw); simp only [List.getElem_toArray, List.getElem_cons_zero, List.getElem_cons_succ]; go_simp <;> with_reducible rfl)
                try simp only [Act.put, List.getElem_toArray, List.getElem_cons_zero, List.getElem_cons_succ, List.setIfInBounds_toArray, List.set_cons_zero, List.set_cons_succ]
                refine wpAnyH_ready (rs := [1]) (by kernel_rfl) (by simp) (AllReadyH.cons rfl (fun K hK => ?_) AllReadyH.nil)
                try simp only [List.getElem_toArray, List.getElem_cons_zero, List.getElem_cons_succ]
                go_simp
                refine (num03_err 13 _ (HE.out.keep (H5.out.1.a.keep.trans' (Keeps.refl _ _).drew))).mono ?_
                rintro e w6 ⟨rfl, hk6⟩
                try go_wp2_with fail
                refine hK.out _ _ ?_ (fun hHeld => ?_)
                · exact trivial
                clear hK K
                try simp only [Act.put, List.getElem_toArray, List.getElem_cons_zero, List.getElem_cons_succ, List.setIfInBounds_toArray, List.set_cons_zero, List.set_cons_succ]
                refine wpAnyH_take (i := 3) (v := ?_) rfl (by kernel_rfl) (by kernel_rfl) (by kernel_rfl) (fun _ _ _ h => h) (Or.inl ⟨by rfl, ?_⟩) (by assumption) ?_
                rotate_left
                · (intro w hSw; (try dsimp only at hSw); simp only [List.getElem_toArray, List.getElem_cons_zero, List.getElem_cons_succ]; go_simp <;> with_reducible rfl)
                try simp only [Act.put, List.getElem_toArray, List.getElem_cons_zero, List.getElem_cons_succ, List.setIfInBounds_toArray, List.set_cons_zero, List.set_cons_succ]
                refine wpAnyH_take (i := 4) (v := ?_) rfl (by kernel_rfl) (by kernel_rfl) (by kernel_rfl) (fun _ _ _ h => h) (Or.inl ⟨by rfl, ?_⟩) (by assumption) ?_
                rotate_left
                · (intro w hSw; (try dsimp only at hSw); simp only [List.getElem_toArray, List.getElem_cons_zero, List.getElem_cons_succ]; go_simp <;> with_reducible rfl)
                try simp only [Act.put, List.getElem_toArray, List.getElem_cons_zero, List.getElem_cons_succ, List.setIfInBounds_toArray, List.set_cons_zero, List.set_cons_succ]
                refine wpAnyH_take (i := 5) (v := ?_) rfl (by kernel_rfl) (by kernel_rfl) (by kernel_rfl) (fun _ _ _ h => h) (Or.inl ⟨by rfl, ?_⟩) (by assumption) ?_
                rotate_left
                · (intro w hSw; (try dsimp only at hSw); simp only [List.getElem_toArray, List.getElem_cons_zero, List.getElem_cons_succ]; go_simp <;> with_reducible rfl)
                try simp only [Act.put, List.getElem_toArray, List.getElem_cons_zero, List.getElem_cons_succ, List.setIfInBounds_toArray, List.set_cons_zero, List.set_cons_succ]
                refine wpAnyH_take (i := 6) (v := ?_) rfl (by kernel_rfl) (by kernel_rfl) (by kernel_rfl) (fun _ _ _ h => h) (Or.inl ⟨by rfl, ?_⟩) (by assumption) ?_
                rotate_left
                · (intro w hSw; (try dsimp only at hSw); simp only [List.getElem_toArray, List.getElem_cons_zero, List.getElem_cons_succ]; go_simp <;> with_reducible rfl)
                try simp only [Act.put, List.getElem_toArray, List.getElem_cons_zero, List.getElem_cons_succ, List.setIfInBounds_toArray, List.set_cons_zero, List.set_cons_succ]
                refine wpAnyH_take (i := 7) (v := ?_) rfl (by kernel_rfl) (by kernel_rfl) (by kernel_rfl) (fun _ _ _ h => h) (Or.inl ⟨by rfl, ?_⟩) (by assumption) ?_
                rotate_left
                · (intro w hSw; (try dsimp only at hSw); simp only [List.getElem_toArray, List.getElem_cons_zero, List.getElem_cons_succ]; go_simp <;> with_reducible rfl)
                try simp only [Act.put, List.getElem_toArray, List.getElem_cons_zero, List.getElem_cons_succ, List.setIfInBounds_toArray, List.set_cons_zero, List.set_cons_succ]
                refine wpAnyH_take (i := 8) (v := undef) rfl (by kernel_rfl) (by kernel_rfl) (by kernel_rfl) (fun _ _ _ h => h) (Or.inr ⟨by rfl, rfl⟩) (by assumption) ?_
                try simp only [Act.put, List.getElem_toArray, List.getElem_cons_zero, List.getElem_cons_succ, List.setIfInBounds_toArray, List.set_cons_zero, List.set_cons_succ]
                refine wpAnyH_take (i := 9) (v := undef) rfl (by kernel_rfl) (by kernel_rfl) (by kernel_rfl) (fun _ _ _ h => h) (Or.inr ⟨by rfl, rfl⟩) (by assumption) ?_
                try simp only [Act.put, List.getElem_toArray, List.getElem_cons_zero, List.getElem_cons_succ, List.setIfInBounds_toArray, List.set_cons_zero, List.set_cons_succ]
                refine wpAnyH_take (i := 10) (v := undef) rfl (by kernel_rfl) (by kernel_rfl) (by kernel_rfl) (fun _ _ _ h => h) (Or.inr ⟨by rfl, rfl⟩) (by assumption) ?_
                try simp only [Act.put, List.getElem_toArray, List.getElem_cons_zero, List.getElem_cons_succ, List.setIfInBounds_toArray, List.set_cons_zero, List.set_cons_succ]
                refine wpAnyH_take (i := 11) (v := undef) rfl (by kernel_rfl) (by kernel_rfl) (by kernel_rfl) (fun _ _ _ h => h) (Or.inr ⟨by rfl, rfl⟩) (by assumption) ?_
                try simp only [Act.put, List.getElem_toArray, List.getElem_cons_zero, List.getElem_cons_succ, List.setIfInBounds_toArray, List.set_cons_zero, List.set_cons_succ]
                refine wpAnyH_take (i := 12) (v := undef) rfl (by kernel_rfl) (by kernel_rfl) (by kernel_rfl) (fun _ _ _ h => h) (Or.inr ⟨by rfl, rfl⟩) (by assumption) ?_
                try simp only [Act.put, List.getElem_toArray, List.getElem_cons_zero, List.getElem_cons_succ, List.setIfInBounds_toArray, List.set_cons_zero, List.set_cons_succ]
                refine wpAnyH_take (i := 13) (v := undef) rfl (by kernel_rfl) (by kernel_rfl) (by kernel_rfl) (fun _ _ _ h => h) (Or.inr ⟨by rfl, rfl⟩) (by assumption) ?_
                try simp only [Act.put, List.getElem_toArray, List.getElem_cons_zero, List.getElem_cons_succ, List.setIfInBounds_toArray, List.set_cons_zero, List.set_cons_succ]
                refine wpAnyH_take (i := 14) (v := undef) rfl (by kernel_rfl) (by kernel_rfl) (by kernel_rfl) (fun _ _ _ h => h) (Or.inr ⟨by rfl, rfl⟩) (by assumption) ?_
                try simp only [Act.put, List.getElem_toArray, List.getElem_cons_zero, List.getElem_cons_succ, List.setIfInBounds_toArray, List.set_cons_zero, List.set_cons_succ]
                refine wpAnyH_take (i := 15) (v := undef) rfl (by kernel_rfl) (by kernel_rfl) (by kernel_rfl) (fun _ _ _ h => h) (Or.inr ⟨by rfl, rfl⟩) (by assumption) ?_
                try simp only [Act.put, List.getElem_toArray, List.getElem_cons_zero, List.getElem_cons_succ, List.setIfInBounds_toArray, List.set_cons_zero, List.set_cons_succ]
                refine wpAnyH_take (i := 16) (v := undef) rfl (by kernel_rfl) (by kernel_rfl) (by kernel_rfl) (fun _ _ _ h => h) (Or.inr ⟨by rfl, rfl⟩) (by assumption) ?_
                try simp only [Act.put, List.getElem_toArray, List.getElem_cons_zero, List.getElem_cons_succ, List.setIfInBounds_toArray, List.set_cons_zero, List.set_cons_succ]
                refine wpAnyH_take (i := 17) (v := undef) rfl (by kernel_rfl) (by kernel_rfl) (by kernel_rfl) (fun _ _ _ h => h) (Or.inr ⟨by rfl, rfl⟩) (by assumption) ?_
                try simp only [Act.put, List.getElem_toArray, List.getElem_cons_zero, List.getElem_cons_succ, List.setIfInBounds_toArray, List.set_cons_zero, List.set_cons_succ]
                refine wpAnyH_take (i := 18) (v := undef) rfl (by kernel_rfl) (by kernel_rfl) (by kernel_rfl) (fun _ _ _ h => h) (Or.inr ⟨by rfl, rfl⟩) (by assumption) ?_
                try simp only [Act.put, List.getElem_toArray, List.getElem_cons_zero, List.getElem_cons_succ, List.setIfInBounds_toArray, List.set_cons_zero, List.set_cons_succ]
                refine wpAnyH_take (i := 19) (v := undef) rfl (by kernel_rfl) (by kernel_rfl) (by kernel_rfl) (fun _ _ _ h => h) (Or.inr ⟨by rfl, rfl⟩) (by assumption) ?_
                try simp only [Act.put, List.getElem_toArray, List.getElem_cons_zero, List.getElem_cons_succ, List.setIfInBounds_toArray, List.set_cons_zero, List.set_cons_succ]
                refine wpAnyH_take (i := 20) (v := undef) rfl (by kernel_rfl) (by kernel_rfl) (by kernel_rfl) (fun _ _ _ h => h) (Or.inr ⟨by rfl, rfl⟩) (by assumption) ?_
                try simp only [Act.put, List.getElem_toArray, List.getElem_cons_zero, List.getElem_cons_succ, List.setIfInBounds_toArray, List.set_cons_zero, List.set_cons_succ]
                refine wpAnyH_take (i := 21) (v := ?_) rfl (by kernel_rfl) (by kernel_rfl) (by kernel_rfl) (fun _ _ _ h => h) (Or.inl ⟨by rfl, ?_⟩) (by assumption) ?_
                rotate_left
                · (intro w hSw; (try dsimp only at hSw); simp only [List.getElem_toArray, List.getElem_cons_zero, List.getElem_cons_succ]; go_simp <;> with_reducible rfl)
                try simp only [Act.put, List.getElem_toArray, List.getElem_cons_zero, List.getElem_cons_succ, List.setIfInBounds_toArray, List.set_cons_zero, List.set_cons_succ]
                refine wpAnyH_take (i := 22) (v := ?_) rfl (by kernel_rfl) (by kernel_rfl) (by kernel_rfl) (fun _ _ _ h => h) (Or.inl ⟨by rfl, ?_⟩) (by assumption) ?_
                rotate_left
                · (intro w hSw; (try dsimp only at hSw); simp only [List.getElem_toArray, List.getElem_cons_zero, List.getElem_cons_succ]; go_simp <;> with_reducible rfl)
                try simp only [Act.put, List.getElem_toArray, List.getElem_cons_zero, List.getElem_cons_succ, List.setIfInBounds_toArray, List.set_cons_zero, List.set_cons_succ]
                refine wpAnyH_done (by kernel_rfl) ?_ _
                have H7 := Lib.hid (H5.out.1.quiet ((Keeps.refl _ _).drew.trans' hk6))
                clear hk6
                go_wp2_with fail
                go_meet
                exact ⟨M, _, _, rc, H7.out⟩
              · have he13 : hanErr k M (x : Int) = 13 := by unfold hanErr; rw [if_neg (by omega), Int.toNat_natCast, List.getElem?_eq_getElem hx]; simp [hx1]
                have hh := Lib.hid (lhandle_bad HM1.out.a (x : Int) 13 he13 (by decide))
                have hlx : decide (M.length ≤ x) = false := by simp; omega
                have hlx2 : ¬ M.length ≤ x := by omega
                have hnb : (M[x].2 == 1) = false := by rw [beq_eq_false_iff_ne]; exact hx1
                have hnn : (M[x].2 != 1) = true := by rw [bne_iff_ne]; exact hx1
                have HNX := Lib.hid (And.intro hnb hnn)
                clear he13 hx1 hnb hnn
                go_wp2_with fail
                refine hh.out.mono ?_
                rintro e w5 ⟨rfl, hk5⟩
                have H5 := Lib.hid (And.intro (HM1.out.quiet (hk5.alloc (.cells #[.int .u32 0, .int .u32 0] 46))) ((HAB.out.quiet hk5).alloc (.cells #[.int .u32 0, .int .u32 0] 46)))
                have x3 := Blk.cell H5.out.2 (i := 3)
                have g0 := H5.out.1.b.1.cell (i := 0)
                have g1 := H5.out.1.b.1.cell (i := 1)
                simp only [List.getElem?_toArray, List.getElem?_cons_zero, List.getElem?_cons_succ] at x3 g0 g1
                obtain ⟨rb, roff, rfl, e1, e2⟩ := plAt H5.out.1.r x hx
                have hnb := HNX.out.1
                have hnn := HNX.out.2
                generalize M[x].2 = ms at *
                clear e1
                clear hk5 hh
                go_wp2_with fail
                refine wp_region_held_drew (S := (fun _ => True)) (by kernel_rfl) (trivial) (fun hHeld => ?_)
                refine wpAnyH_take (i := 0) (v := ?_) rfl (by kernel_rfl) (by kernel_rfl) (by kernel_rfl) (fun _ _ _ h => h) (Or.inl ⟨by rfl, ?_⟩) (by assumption) ?_
                rotate_left
                · (intro w hSw; (try dsimp only at hSw); simp only [List.getElem_toArray, List.getElem_cons_zero, List.getElem_cons_succ]; go_simp <;> with_reducible rfl)
                try simp only [Act.put, List.getElem_toArray, List.getElem_cons_zero, List.getElem_cons_succ, List.setIfInBounds_toArray, List.set_cons_zero, List.set_cons_succ]
                refine wpAnyH_take (i := 2) (v := ?_) rfl (by kernel_rfl) (by kernel_rfl) (by kernel_rfl) (fun _ _ _ h => h) (Or.inl ⟨by rfl, ?_⟩) (by assumption) ?_
                rotate_left
                · (intro w hSw; (try dsimp only at hSw); simp only [List.getElem_toArray, List.getElem_cons_zero, List.getElem_cons_succ]; go_simp <;> with_reducible rfl)
                try simp only [Act.put, List.getElem_toArray, List.getElem_cons_zero, List.getElem_cons_succ, List.setIfInBounds_toArray, List.set_cons_zero, List.set_cons_succ]
                refine wpAnyH_ready (rs := [1]) (by kernel_rfl) (by simp) (AllReadyH.cons rfl (fun K hK => ?_) AllReadyH.nil)
                try simp only [List.getElem_toArray, List.getElem_cons_zero, List.getElem_cons_succ]
                go_simp
                refine (num03_err 13 _ (HE.out.keep (H5.out.1.a.keep.trans' (Keeps.refl _ _).drew))).mono ?_
                rintro e w6 ⟨rfl, hk6⟩
                try go_wp2_with fail
                refine hK.out _ _ ?_ (fun hHeld => ?_)
                · exact trivial
                clear hK K
                try simp only [Act.put, List.getElem_toArray, List.getElem_cons_zero, List.getElem_cons_succ, List.setIfInBounds_toArray, List.set_cons_zero, List.set_cons_succ]
                refine wpAnyH_take (i := 3) (v := ?_) rfl (by kernel_rfl) (by kernel_rfl) (by kernel_rfl) (fun _ _ _ h => h) (Or.inl ⟨by rfl, ?_⟩) (by assumption) ?_
                rotate_left
                · (intro w hSw; (try dsimp only at hSw); simp only [List.getElem_toArray, List.getElem_cons_zero, List.getElem_cons_succ]; go_simp <;> with_reducible rfl)
                try simp only [Act.put, List.getElem_toArray, List.getElem_cons_zero, List.getElem_cons_succ, List.setIfInBounds_toArray, List.set_cons_zero, List.set_cons_succ]
                refine wpAnyH_take (i := 4) (v := ?_) rfl (by kernel_rfl) (by kernel_rfl) (by kernel_rfl) (fun _ _ _ h => h) (Or.inl ⟨by rfl, ?_⟩) (by assumption) ?_
                rotate_left
                · (intro w hSw; (try dsimp only at hSw); simp only [List.getElem_toArray, List.getElem_cons_zero, List.getElem_cons_succ]; go_simp <;> with_reducible rfl)
                try simp only [Act.put, List.getElem_toArray, List.getElem_cons_zero, List.getElem_cons_succ, List.setIfInBounds_toArray, List.set_cons_zero, List.set_cons_succ]
                refine wpAnyH_take (i := 5) (v := ?_) rfl (by kernel_rfl) (by kernel_rfl) (by kernel_rfl) (fun _ _ _ h => h) (Or.inl ⟨by rfl, ?_⟩) (by assumption) ?_
                rotate_left
                · (intro w hSw; (try dsimp only at hSw); simp only [List.getElem_toArray, List.getElem_cons_zero, List.getElem_cons_succ]; go_simp <;> with_reducible rfl)
                try simp only [Act.put, List.getElem_toArray, List.getElem_cons_zero, List.getElem_cons_succ, List.setIfInBounds_toArray, List.set_cons_zero, List.set_cons_succ]
                refine wpAnyH_take (i := 6) (v := ?_) rfl (by kernel_rfl) (by kernel_rfl) (by kernel_rfl) (fun _ _ _ h => h) (Or.inl ⟨by rfl, ?_⟩) (by assumption) ?_
                rotate_left
                · (intro w hSw; (try dsimp only at hSw); simp only [List.getElem_toArray, List.getElem_cons_zero, List.getElem_cons_succ]; go_simp <;> with_reducible rfl)
                try simp only [Act.put, List.getElem_toArray, List.getElem_cons_zero, List.getElem_cons_succ, List.setIfInBounds_toArray, List.set_cons_zero, List.set_cons_succ]
                refine wpAnyH_take (i := 7) (v := ?_) rfl (by kernel_rfl) (by kernel_rfl) (by kernel_rfl) (fun _ _ _ h => h) (Or.inl ⟨by rfl, ?_⟩) (by assumption) ?_
                rotate_left
                · (intro w hSw; (try dsimp only at hSw); simp only [List.getElem_toArray, List.getElem_cons_zero, List.getElem_cons_succ]; go_simp <;> with_reducible rfl)
                try simp only [Act.put, List.getElem_toArray, List.getElem_cons_zero, List.getElem_cons_succ, List.setIfInBounds_toArray, List.set_cons_zero, List.set_cons_succ]
                refine wpAnyH_take (i := 8) (v := undef) rfl (by kernel_rfl) (by kernel_rfl) (by kernel_rfl) (fun _ _ _ h => h) (Or.inr ⟨by rfl, rfl⟩) (by assumption) ?_
                try simp only [Act.put, List.getElem_toArray, List.getElem_cons_zero, List.getElem_cons_succ, List.setIfInBounds_toArray, List.set_cons_zero, List.set_cons_succ]
                refine wpAnyH_take (i := 9) (v := undef) rfl (by kernel_rfl) (by kernel_rfl) (by kernel_rfl) (fun _ _ _ h => h) (Or.inr ⟨by rfl, rfl⟩) (by assumption) ?_
                try simp only [Act.put, List.getElem_toArray, List.getElem_cons_zero, List.getElem_cons_succ, List.setIfInBounds_toArray, List.set_cons_zero, List.set_cons_succ]
                refine wpAnyH_take (i := 10) (v := undef) rfl (by kernel_rfl) (by kernel_rfl) (by kernel_rfl) (fun _ _ _ h => h) (Or.inr ⟨by rfl, rfl⟩) (by assumption) ?_
                try simp only [Act.put, List.getElem_toArray, List.getElem_cons_zero, List.getElem_cons_succ, List.setIfInBounds_toArray, List.set_cons_zero, List.set_cons_succ]
                refine wpAnyH_take (i := 11) (v := undef) rfl (by kernel_rfl) (by kernel_rfl) (by kernel_rfl) (fun _ _ _ h => h) (Or.inr ⟨by rfl, rfl⟩) (by assumption) ?_
                try simp only [Act.put, List.getElem_toArray, List.getElem_cons_zero, List.getElem_cons_succ, List.setIfInBounds_toArray, List.set_cons_zero, List.set_cons_succ]
                refine wpAnyH_take (i := 12) (v := undef) rfl (by kernel_rfl) (by kernel_rfl) (by kernel_rfl) (fun _ _ _ h => h) (Or.inr ⟨by rfl, rfl⟩) (by assumption) ?_
                try simp only [Act.put, List.getElem_toArray, List.getElem_cons_zero, List.getElem_cons_succ, List.setIfInBounds_toArray, List.set_cons_zero, List.set_cons_succ]
                refine wpAnyH_take (i := 13) (v := undef) rfl (by kernel_rfl) (by kernel_rfl) (by kernel_rfl) (fun _ _ _ h => h) (Or.inr ⟨by rfl, rfl⟩) (by assumption) ?_
                try simp only [Act.put, List.getElem_toArray, List.getElem_cons_zero, List.getElem_cons_succ, List.setIfInBounds_toArray, List.set_cons_zero, List.set_cons_succ]
                refine wpAnyH_take (i := 14) (v := undef) rfl (by kernel_rfl) (by kernel_rfl) (by kernel_rfl) (fun _ _ _ h => h) (Or.inr ⟨by rfl, rfl⟩) (by assumption) ?_
                try simp only [Act.put, List.getElem_toArray, List.getElem_cons_zero, List.getElem_cons_succ, List.setIfInBounds_toArray, List.set_cons_zero, List.set_cons_succ]
                refine wpAnyH_take (i := 15) (v := undef) rfl (by kernel_rfl) (by kernel_rfl) (by kernel_rfl) (fun _ _ _ h => h) (Or.inr ⟨by rfl, rfl⟩) (by assumption) ?_
                try simp only [Act.put, List.getElem_toArray, List.getElem_cons_zero, List.getElem_cons_succ, List.setIfInBounds_toArray, List.set_cons_zero, List.set_cons_succ]
                refine wpAnyH_take (i := 16) (v := undef) rfl (by kernel_rfl) (by kernel_rfl) (by kernel_rfl) (fun _ _ _ h => h) (Or.inr ⟨by rfl, rfl⟩) (by assumption) ?_
                try simp only [Act.put, List.getElem_toArray, List.getElem_cons_zero, List.getElem_cons_succ, List.setIfInBounds_toArray, List.set_cons_zero, List.set_cons_succ]
                refine wpAnyH_take (i := 17) (v := undef) rfl (by kernel_rfl) (by kernel_rfl) (by kernel_rfl) (fun _ _ _ h => h) (Or.inr ⟨by rfl, rfl⟩) (by assumption) ?_
                try simp only [Act.put, List.getElem_toArray, List.getElem_cons_zero, List.getElem_cons_succ, List.setIfInBounds_toArray, List.set_cons_zero, List.set_cons_succ]
                refine wpAnyH_take (i := 18) (v := undef) rfl (by kernel_rfl) (by kernel_rfl) (by kernel_rfl) (fun _ _ _ h => h) (Or.inr ⟨by rfl, rfl⟩) (by assumption) ?_
                try simp only [Act.put, List.getElem_toArray, List.getElem_cons_zero, List.getElem_cons_succ, List.setIfInBounds_toArray, List.set_cons_zero, List.set_cons_succ]
                refine wpAnyH_take (i := 19) (v := undef) rfl (by kernel_rfl) (by kernel_rfl) (by kernel_rfl) (fun _ _ _ h => h) (Or.inr ⟨by rfl, rfl⟩) (by assumption) ?_
                try simp only [Act.put, List.getElem_toArray, List.getElem_cons_zero, List.getElem_cons_succ, List.setIfInBounds_toArray, List.set_cons_zero, List.set_cons_succ]
                refine wpAnyH_take (i := 20) (v := undef) rfl (by kernel_rfl) (by kernel_rfl) (by kernel_rfl) (fun _ _ _ h => h) (Or.inr ⟨by rfl, rfl⟩) (by assumption) ?_
                try simp only [Act.put, List.getElem_toArray, List.getElem_cons_zero, List.getElem_cons_succ, List.setIfInBounds_toArray, List.set_cons_zero, List.set_cons_succ]
                refine wpAnyH_take (i := 21) (v := ?_) rfl (by kernel_rfl) (by kernel_rfl) (by kernel_rfl) (fun _ _ _ h => h) (Or.inl ⟨by rfl, ?_⟩) (by assumption) ?_
                rotate_left
                · (intro w hSw; (try dsimp only at hSw); simp only [List.getElem_toArray, List.getElem_cons_zero, List.getElem_cons_succ]; go_simp <;> with_reducible rfl)
                try simp only [Act.put, List.getElem_toArray, List.getElem_cons_zero, List.getElem_cons_succ, List.setIfInBounds_toArray, List.set_cons_zero, List.set_cons_succ]
                refine wpAnyH_take (i := 22) (v := ?_) rfl (by kernel_rfl) (by kernel_rfl) (by kernel_rfl) (fun _ _ _ h => h) (Or.inl ⟨by rfl, ?_⟩) (by assumption) ?_
                rotate_left
                · (intro w hSw; (try dsimp only at hSw); simp only [List.getElem_toArray, List.getElem_cons_zero, List.getElem_cons_succ]; go_simp <;> with_reducible rfl)
                try simp only [Act.put, List.getElem_toArray, List.getElem_cons_zero, List.getElem_cons_succ, List.setIfInBounds_toArray, List.set_cons_zero, List.set_cons_succ]
                refine wpAnyH_done (by kernel_rfl) ?_ _
                have H7 := Lib.hid (H5.out.1.quiet ((Keeps.refl _ _).drew.trans' hk6))
                clear hk6
                go_wp2_with fail
                go_meet
                exact ⟨M, _, _, rc, H7.out⟩
              · have hh := Lib.hid (lhandle HM1.out.a (x : Int) x rfl hx M[x].1 (Prod.ext rfl hx1))
                have hlx : decide (M.length ≤ x) = false := by simp; omega
                have hlx2 : ¬ M.length ≤ x := by omega
                have hxu : IntKind.u32.wrap (x : Int) = x := by rw [IntKind.wrap_u32]; omega
                go_wp2_with fail
                refine hh.out.mono ?_
                rintro e w5 ⟨rfl, hk5⟩
                have hka : Keeps (fun _ => False) w5 (w5.alloc (.cells #[.int .u32 M[x].1, .int .u32 (x : Int)] 46)) := (Keeps.refl _ _).alloc _
                have H5 := Lib.hid (And.intro ((HM1.out.quiet hk5).quiet hka) (And.intro ((HAB.out.quiet hk5).quiet hka) (Blk.new w5 #[.int .u32 M[x].1, .int .u32 (x : Int)] 46)))
                have x3 := Blk.cell H5.out.2.1 (i := 3)
                have h0 := Blk.cell H5.out.2.2 (i := 0)
                have h1 := Blk.cell H5.out.2.2 (i := 1)
                have g0 := H5.out.1.b.1.cell (i := 0)
                have g1 := H5.out.1.b.1.cell (i := 1)
                simp only [List.getElem?_toArray, List.getElem?_cons_zero, List.getElem?_cons_succ] at x3 g0 g1 h0 h1
                obtain ⟨rb, roff, rfl, e1, e2⟩ := plAt H5.out.1.r x hx
                rw [hx1] at e2
                clear hk5 hka hh hx1
                generalize M[x].1 = ag2 at *
                go_wp2_with fail
                have hK : Keeps (fun _ => False) (w5.alloc (.cells #[.int .u32 ag2, .int .u32 (x : Int)] 46)) (w5.alloc (.cells #[.int .u32 ag2, .int .u32 (x : Int)] 46)).drew := (Keeps.refl _ _).drew
                generalize w5.alloc (.cells #[.int .u32 ag2, .int .u32 (x : Int)] 46) = w6 at *
                go_region_held3 (fun w' => w'.cell? ⟨w5.heap.size, 0, none⟩ = some (.int .u32 ag2) ∧ w'.cell? ⟨w5.heap.size, 1, none⟩ = some (.int .u32 (x : Int)) ∧ w'.cell? ⟨B, 1, none⟩ = some (.slice (some ⟨rb, roff, none⟩) M.length rc) ∧ w'.cell? ⟨wr.heap.size, 3, none⟩ = some (.int .i64 (x : Int)) ∧ w'.cell? ⟨rb, roff + x * 2, none⟩ = some (.int .u32 ag2))
                  (first | exact ⟨hK.cellF h0, hK.cellF h1, hK.cellF g1, hK.cellF x3, hK.cellF e1⟩ | assumption)
                  (first | (go_at_call 43; refine (num03_nil _).mono ?_; rintro e w7 ⟨rfl, hk7⟩; have hK := hK.trans' hk7))
                have H7 := Lib.hid (H5.out.1.quiet hK)
                clear hK
                go_wp2_with fail
                go_meet
                exact ⟨M, _, _, rc, H7.out⟩
          · as_aux_lemma =>
            have k3 : ((m : Int) == 3) = false := by rw [beq_eq_false_iff_ne]; omega
            have k4 : ((m : Int) == 4) = false := by rw [beq_eq_false_iff_ne]; omega
            have k5 : ((m : Int) == 5) = false := by rw [beq_eq_false_iff_ne]; omega
            have k6 : ((m : Int) == 6) = false := by rw [beq_eq_false_iff_ne]; omega
            have d3 : decide (m = 3) = false := by simp; omega
            have d4 : decide (m = 4) = false := by simp; omega
            have d5 : decide (m = 5) = false := by simp; omega
            have d6 : decide (m = 6) = false := by simp; omega
            rcases low_of (tak M) k with hfull | ⟨q, hqk, hqS, hqlo⟩
            · have ha := Lib.hid (ladd_full' HM1.out.a hfull)
              have hMk : M.length = k := by
                by_cases h : M.length = k
                · exact h
                · have := hfull M.length (by omega)
                  rw [tak_out M _ (Nat.le_refl _)] at this
                  exact absurd this (by decide)
              have HFU := Lib.hid hfull
              have HMK := Lib.hid hMk
              clear hfull hMk
              go_wp2_with fail
              refine ha.out.mono ?_
              rintro e w5 ⟨rfl, hk5⟩
              have H5 := Lib.hid (HM1.out.quiet (hk5.alloc (.cells #[.int .u32 0, .int .u32 0] 46)))
              have g0 := H5.out.b.1.cell (i := 0)
              have g1 := H5.out.b.1.cell (i := 1)
              simp only [List.getElem?_toArray, List.getElem?_cons_zero, List.getElem?_cons_succ] at g0 g1
              have hra := Lib.hid (refAdd3 (L := M) k ra rc k _ H5.out.r hle (by omega) HOKM.out (Nat.le_refl _) (tak_out M _ (by rw [HMK.out]; exact Nat.le_refl _)) HFU.out)
              unfold RV at hra
              clear hk5 ha
              go_wp2_with fail
              refine hra.out.mono ?_
              rintro e w6 ⟨hres, hk6⟩
              obtain rfl : e = .returned (.tuple #[RV k ra M.length rc, .int .i64 0, .int .u32 0, .int .i64 16]) := by
                rcases hres with ⟨_, h⟩ | ⟨h, _⟩
                · exact h
                · exact absurd rfl h
              have H6 := Lib.hid (And.intro (H5.out.quiet (hk6.alloc (.cells #[.int .i64 k, .slice ra M.length rc] 75))) (Blk.new w6 #[.int .i64 k, .slice ra M.length rc] 75))
              try unfold RV
              clear hres hk6 hra H5
              go_wp2_with fail
              refine (num03_err 16 _ (HE.out.keep H6.out.1.a.keep)).mono ?_
              rintro e w7 ⟨rfl, hk7⟩
              have H7 := Lib.hid (And.intro (H6.out.1.quiet hk7) (Blk.quiet H6.out.2 hk7))
              have g0 := H7.out.1.b.1.cell (i := 0)
              have g1 := H7.out.1.b.1.cell (i := 1)
              have f0 := H7.out.1.b.1.free 0
              have f1 := H7.out.1.b.1.free 1
              have c0 := Blk.cell H7.out.2 (i := 0)
              have c1 := Blk.cell H7.out.2 (i := 1)
              simp only [List.getElem?_toArray, List.getElem?_cons_zero, List.getElem?_cons_succ] at g0 g1 c0 c1
              have H8 := Lib.hid (H7.out.1.ref (rc' := rc) H7.out.1.r H7.out.1.o)
              clear hk7 H6
              go_wp2_with fail
              go_meet
              exact ⟨M, _, ra, rc, H8.out⟩
            · obtain ⟨ag2, hag⟩ : ∃ ag2, nage M q = ag2 := ⟨_, rfl⟩
              obtain ⟨M2, hM2⟩ : ∃ M2, addL M q = M2 := ⟨_, rfl⟩
              have HQ := Lib.hid (And.intro hqS (And.intro hqlo (And.intro hag hM2)))
              have ha := Lib.hid (ladd HM1.out.a HT.out q hqk hqS hqlo ag2 hag M2 hM2)
              have hqu : IntKind.u32.wrap (q : Int) = q := by rw [IntKind.wrap_u32]; omega
              clear hqS hqlo hag hM2
              go_wp2_with fail
              refine ha.out.mono ?_
              rintro e w5 ⟨rfl, o2, hl5, hs5⟩
              have hka : Keeps (fun _ => False) w5 (w5.alloc (.cells #[.int .u32 ag2, .int .u32 (q : Int)] 46)) := (Keeps.refl _ _).alloc _
              have H5 := Lib.hid (And.intro ((HM1.out.arena hl5 hs5).quiet hka) (Blk.new w5 #[.int .u32 ag2, .int .u32 (q : Int)] 46))
              have g0 := H5.out.1.b.1.cell (i := 0)
              have g1 := H5.out.1.b.1.cell (i := 1)
              simp only [List.getElem?_toArray, List.getElem?_cons_zero, List.getElem?_cons_succ] at g0 g1
              have hra := refAdd3 (L := M) k ra rc q _ H5.out.1.r hle (by omega) HOKM.out (by omega) HQ.out.1 HQ.out.2.1
              unfold RAddPost at hra
              rw [HQ.out.2.2.1, HQ.out.2.2.2] at hra
              have hra := Lib.hid hra
              unfold RV at hra
              clear hl5 hs5 hka ha
              go_wp2_with fail
              refine hra.out.mono ?_
              rintro e w6 ⟨hres, hk6⟩
              rcases hres with ⟨h, _⟩ | ⟨_, a2, c2, rfl, hr2, hf2⟩
              · exact absurd h (by omega)
              have hka : Keeps (fun _ => False) w6 (w6.alloc (.cells #[.int .i64 k, .slice a2 M2.length c2] 75)) := (Keeps.refl _ _).alloc _
              have H6 := Lib.hid (And.intro ((H5.out.1.quiet hk6).quiet hka) (And.intro (Blk.new w6 #[.int .i64 k, .slice a2 M2.length c2] 75) (And.intro (Blk.quiet (Blk.quiet H5.out.2 hk6) hka) (And.intro (hr2.keep hka) (H5.out.1.fresh hr2 hf2)))))
              clear hr2 hf2 hk6 hka hra H5
              go_wp2_with fail
              refine (num03_nil _).mono ?_
              rintro e w7 ⟨rfl, hk7⟩
              have H7 := Lib.hid (And.intro (H6.out.1.quiet hk7) (And.intro (Blk.quiet H6.out.2.1 hk7) (And.intro (Blk.quiet H6.out.2.2.1 hk7) (And.intro (H6.out.2.2.2.1.keep hk7) H6.out.2.2.2.2))))
              have g0 := H7.out.1.b.1.cell (i := 0)
              have g1 := H7.out.1.b.1.cell (i := 1)
              have f0 := H7.out.1.b.1.free 0
              have f1 := H7.out.1.b.1.free 1
              have c0 := Blk.cell H7.out.2.1 (i := 0)
              have c1 := Blk.cell H7.out.2.1 (i := 1)
              have h0 := Blk.cell H7.out.2.2.1 (i := 0)
              have h1 := Blk.cell H7.out.2.2.1 (i := 1)
              simp only [List.getElem?_toArray, List.getElem?_cons_zero, List.getElem?_cons_succ] at g0 g1 c0 c1 h0 h1
              have H8 := Lib.hid (H7.out.1.ref (rc' := c2) H7.out.2.2.2.1 H7.out.2.2.2.2)
              clear hk7 H6
              go_wp2_with fail
              go_meet
              exact ⟨M2, _, a2, c2, H8.out⟩
        case rest =>
          as_aux_lemma =>
          clear HM HM1 HAB HA HOKM hle
          obtain ⟨M5, o5, ra5, rc5, hm5⟩ := hcut.out
          have H5 := Lib.hid hm5
          have hle5 := hm5.a.ar.le
          have c0 := hm5.b.1.cell (i := 0)
          have c1 := hm5.b.1.cell (i := 1)
          simp only [List.getElem?_toArray, List.getElem?_cons_zero, List.getElem?_cons_succ] at c0 c1
          clear hcut hm5
          obtain ⟨fb, hfb⟩ : ∃ fb, decide (cnt (tak M5) k = k) = fb := ⟨_, rfl⟩
          have hll := liv_le M5
          have hpl := Lib.hid (fun (W : World) (hk : Keeps (fun _ => False) wc W) => aplaces (H5.out.quiet hk).a.ar)
          have hsm := Lib.hid (fun (W : World) (hk : Keeps (fun _ => False) wc W) (a1 : Option Addr) (c1 : Nat) (h1 : Rd W a1 (plVals M5)) => samePl a1 ra5 c1 rc5 W h1 (H5.out.quiet hk).r (by omega))
          have hra := Lib.hid (fun (W : World) (hk : Keeps (fun _ => False) wc W) => refAll3 k ra5 rc5 W (H5.out.quiet hk).r (by omega))
          have hfu : Hid (∀ (W : World), Keeps (fun _ => False) wc W → Calls Tryd.prog 29 #[.pointer (some ⟨p, 0, none⟩)] W (BoolPost fb W)) := fun W hk => (afull (H5.out.quiet hk).a.ar).mono (fun e w' h => ⟨h.1.trans (by rw [hfb]), by obtain ⟨_, q, rfl⟩ := h; exact (Keeps.refl _ _).drewN q⟩)
          have hrf := Lib.hid (fun (W : World) (hk : Keeps (fun _ => False) wc W) => hfb ▸ refFull3 k ra5 rc5 W (H5.out.quiet hk).r hle5 (by omega))
          have hlen := Lib.hid (fun (W : World) (hk : Keeps (fun _ => False) wc W) => llen (H5.out.quiet hk).a (liv M5) rfl)
          have hK : Keeps (fun _ => False) wc wc.drew := (Keeps.refl _ _).drew
          unfold RV at hra hrf
          clear hfb
          go_wp2_with fail
          go_region_held3 (fun w' => w'.cell? ⟨B, 0, none⟩ = some (.int .i64 (k : Int)) ∧ w'.cell? ⟨B, 1, none⟩ = some (.slice ra5 M5.length rc5))
            (first | exact ⟨hK.cellF c0, hK.cellF c1⟩ | assumption)
            (first
              | (go_at_call 45; refine (hpl.out _ hK).mono ?_; rintro e wP ⟨vP, rfl, hoP, hkP⟩; obtain ⟨aP, cP, rfl, hrP, _⟩ := PlRow.rd hoP; have hK := hK.trans' hkP)
              | (go_at_call 52; refine (hsm.out _ hK _ _ (by assumption)).mono ?_; rintro e wS ⟨rfl, hkS⟩; have hK := hK.trans' hkS)
              | (go_at_call 53; refine (hra.out _ hK).mono ?_; rintro e wB ⟨aB, cB, rfl, hrB, hkB⟩; have hK := hK.trans' hkB)
              | (go_at_call 29; refine (hfu.out _ hK).mono ?_; rintro e wF ⟨rfl, hkF⟩; have hK := hK.trans' hkF)
              | (go_at_call 54; refine (hrf.out _ hK).mono ?_; rintro e wG ⟨rfl, hkG⟩; have hK := hK.trans' hkG)
              | (go_at_call 31; refine (hlen.out _ hK).mono ?_; rintro e w' ⟨rfl, rfl⟩))
          all_goals
            have H9 := Lib.hid (H5.out.quiet hK)
            clear hK
            go_wp2_with fail
            refine ⟨⟨j + 1, hlt, by omega, by go_num, M5, o5, ra5, rc5, H9.out⟩, by simp [intOf]; omega⟩
      · have hend : ls.length ≤ j ∨ (j < ls.length ∧ 200 ≤ j) := by omega
        obtain ⟨M, o, ra, rc, hm⟩ := HS.out
        have hsu := Lib.hid (sure03 wr (HT.out.keep hm.a.keep))
        have HK9 := Lib.hid hm.a.keep
        clear hlt hm
        rcases hend with hend | ⟨hend1, hend⟩
        all_goals
          go_wp2_with fail
          refine hsu.out.mono ?_
          rintro e w7 ⟨rfl, hk⟩
          have H7 := Lib.hid (HK9.out.trans' hk)
          clear hk
          go_wp2_with fail
          go_ret
          exact ⟨rfl, H7.out⟩
  · have hld := Lib.hid (aload_bad (k : Int) va vc w1 hr1 hok)
    have HK1 := Lib.hid hk1
    have HNK := Lib.hid hok
    clear ho hk1 hr1 hva hok
    go_wp2_with fail
    refine hld.out.mono ?_
    rintro e w2 ⟨rfl, hk⟩
    have HK2 := Lib.hid (HK1.out.trans' hk)
    have hrl := Lib.hid (refLoad3 (k : Int) a c w2 (HR.out.keep HK2.out) (by omega))
    clear hk hld
    go_wp2_with fail
    refine hrl.out.mono ?_
    rintro e w3 ⟨v, kk, rfl, hres, hk⟩
    have HK3 := Lib.hid (HK2.out.trans' hk)
    obtain ⟨rfl, rfl⟩ : v = .agg #[.int .i64 0, .slice none 0 0] ∧ kk = 1 := by
      rcases hres with ⟨h, _⟩ | ⟨_, h1, h2⟩
      · exact absurd h HNK.out
      · exact ⟨h1, h2⟩
    have HK4 := Lib.hid (HK3.out.alloc (.cells #[.int .i64 0, .slice none 0 0] 75))
    clear hres hk hrl
    go_wp2_with fail
    refine (num03_err 1 _ (HE.out.keep HK4.out)).mono ?_
    rintro e w5 ⟨rfl, hk⟩
    have HK5 := Lib.hid (HK4.out.trans' hk)
    have hsu := Lib.hid (sure03 w5 (HT.out.keep HK5.out))
    clear hk
    by_cases hl0 : 0 < ls.length
    · go_wp2_with fail
      refine wp_loop_rounds 1 ?_
      rw [rounds_succ]
      go_wp2_with fail
      refine hsu.out.mono ?_
      rintro e w6 ⟨rfl, hk⟩
      have HKE := Lib.hid (HK5.out.trans' hk)
      clear hk
      go_wp2_with fail
      go_ret
      exact ⟨rfl, HKE.out⟩
    · go_wp2_with fail
      refine wp_loop_rounds 1 ?_
      rw [rounds_succ]
      go_wp2_with fail
      refine hsu.out.mono ?_
      rintro e w6 ⟨rfl, hk⟩
      have HKE := Lib.hid (HK5.out.trans' hk)
      clear hk
      go_wp2_with fail
      go_ret
      exact ⟨rfl, HKE.out⟩
theorem arenaRuns_enter (W : World) (hT : Tab W) (hE : ErrT W) (n : Int) (_ : (Lit.int .i64 n).wf = true) (a : Option Addr) (c : Nat) (ls : List (Int × Int)) (hr : Rd W a (ls.flatMap fun p => [Value.int .u32 p.1, .int .i64 p.2])) (_ : ls.length ≤ 9223372036854775807)
    (hw : ∀ p ∈ ls, (Lit.int .u32 p.1).wf = true ∧ (Lit.int .i64 p.2).wf = true) (hs : ls.length * 16 ≤ 140737488351232)
    (da : Option Addr) (dc : Nat) (xs : List (Int × Int × Int × Int)) (hz : Rd W da (xs.flatMap fun p => [Value.int .i64 p.1, .int .u32 p.2.1, .int .u32 p.2.2.1, .int .i64 p.2.2.2])) (hzl : xs.length ≤ 9223372036854775807)
    (haw : ∀ p ∈ xs, (Lit.int .i64 p.1).wf = true ∧ (Lit.int .u32 p.2.1).wf = true ∧ (Lit.int .u32 p.2.2.1).wf = true ∧ (Lit.int .i64 p.2.2.2).wf = true) :
    Calls Tryd.prog 14 #[.int .i64 n, .slice a ls.length c, .slice da xs.length dc] W (TruePost W) :=
  arenaRuns_walk n a c ls da dc xs W hT hE hr hs (wf32 hw) hz hzl fun x hx => by
    have := (haw x hx).2.2.1
    simp only [Lit.wf, Bool.and_eq_true, decide_eq_true_eq] at this
    exact this
end Go.Proofs.YtiphdlhnoceeiaaDoor
