/- The document's turns in memory; New, Find, Check. -/
import Derived.Test.YtjmkejkhpdhhbaaDoorTuH
namespace Go.Proofs.YtjmkejkhpdhhbaaDoor
open Go Go.RowKit
set_option linter.unusedVariables false
set_option linter.unusedSimpArgs false
set_option maxRecDepth 100000

/-- A list of darts. -/
def LRow (w : World) (B : Nat) (u : Value) (l : List Nat) : Prop := w.ownsRow B 3 1 u l.length (nats l) ∧ (l = [] → u = .slice none 0 0)
/-- The lists of all vertices. -/
def LsRow (w : World) (B : Nat) (v : Value) (L : List (List Nat)) : Prop :=
  ∃ cells, w.ownsRow B 47 1 v L.length cells ∧ ∀ (i : Nat) (l : List Nat), L[i]? = some l → ∃ u, cells[i]? = some u ∧ LRow w B u l
/-- The document's turns. -/
def rval (E : Nat) (v : Value) : Value := .agg #[.int .i64 (E : Int), v]
section
variable {w w' : World} {B : Nat} {u v : Value} {l : List Nat} {L : List (List Nat)}
theorem LRow.kept {fp : Nat → Prop} (h : LRow w B u l) (hk : Keeps fp w w') (hn : ∀ k, fp k → k < B) : LRow w' B u l :=
  ⟨ownsRow_kept h.1 hk fun k e q => by have := (h.1.lt k e).1; have := hn k q; omega, h.2⟩
theorem LRow.keep (h : LRow w B u l) (hk : Keeps (fun _ => False) w w') : LRow w' B u l := h.kept hk fun _ q => q.elim
theorem LsRow.kept {fp : Nat → Prop} (h : LsRow w B v L) (hk : Keeps fp w w') (hn : ∀ k, fp k → k < B) : LsRow w' B v L := by
  obtain ⟨cells, h1, h2⟩ := h
  refine ⟨cells, ownsRow_kept h1 hk fun k e q => by have := (h1.lt k e).1; have := hn k q; omega, fun i l hl => ?_⟩
  obtain ⟨u, hu, hr⟩ := h2 i l hl
  exact ⟨u, hu, hr.kept hk hn⟩
theorem LsRow.keep (h : LsRow w B v L) (hk : Keeps (fun _ => False) w w') : LsRow w' B v L := h.kept hk fun _ q => q.elim
theorem LRow.rd (h : LRow w B u l) : ∃ a c, u = .slice a l.length c ∧ Rd w a (nats l) := by
  obtain ⟨a, c, e, hr, _⟩ := Rd.of_own h.1
  exact ⟨a, c, e, hr⟩
theorem Rd.nat {a : Option Addr} (h : Rd w a (nats l)) {i : Nat} (hi : i < l.length) : ∃ b off, a = some ⟨b, off, none⟩ ∧ w.cell? ⟨b, off + i, none⟩ = some (.int .i64 ((l.getD i 0 : Nat) : Int)) := by
  obtain ⟨b, off, e, hc⟩ := h.at_ i (by rw [nats_length]; exact hi)
  exact ⟨b, off, e, by rw [hc i (by rw [nats_length]; exact hi), nats_get hi]⟩
/-- The head, and of each vertex its list. -/
theorem LsRow.at_ (h : LsRow w B v L) (h0 : 0 < L.length) : ∃ g c, v = .slice (some ⟨g, 0, none⟩) L.length c ∧ L.length ≤ c ∧ B ≤ g ∧ ∀ (i : Nat) (l : List Nat), L[i]? = some l → ∃ u, w.cell? ⟨g, i, none⟩ = some u ∧ LRow w B u l := by
  obtain ⟨cells, h1, h2⟩ := h
  rcases h1.2 with ⟨_, e⟩ | ⟨g, c, cur, rfl, hb, hg, hc, _⟩
  · omega
  · refine ⟨g, c, rfl, hc, hb, fun i l hl => ?_⟩
    obtain ⟨u, hu, hr⟩ := h2 i l hl
    have hi := (List.getElem?_eq_some_iff.1 hl).1
    exact ⟨u, by rw [h1.cellAt i (by omega)]; exact hu, hr⟩
end
/-- Where a dart is found: its vertex, its place; or -1. -/
def fndV (L : List (List Nat)) (d : Int) : Int := if 0 ≤ d ∧ Stands L d.toNat then (vtx L d.toNat : Int) else -1
def fndI (L : List (List Nat)) (d : Int) : Int := if 0 ≤ d ∧ Stands L d.toNat then (pos L d.toNat : Int) else -1
theorem fnd_hit {E : Nat} {L : List (List Nat)} (h : WF E L) {v i : Nat} {l : List Nat} (hv : L[v]? = some l) (hi : i < l.length) :
    fndV L ((l.getD i 0 : Nat) : Int) = v ∧ fndI L ((l.getD i 0 : Nat) : Int) = i := by
  have hs := stands_at hv (getD_mem hi)
  obtain ⟨e1, e2, _⟩ := h.at_ hv hi
  unfold fndV fndI
  rw [Int.toNat_natCast, if_pos ⟨by omega, hs⟩, if_pos ⟨by omega, hs⟩, e1, e2]
  exact ⟨rfl, rfl⟩
theorem fnd_no {L : List (List Nat)} {d : Int} (h : ∀ (v : Nat) (l : List Nat), L[v]? = some l → ∀ x ∈ l, (x : Int) ≠ d) : fndV L d = -1 ∧ fndI L d = -1 := by
  have hn : ¬ (0 ≤ d ∧ Stands L d.toNat) := fun ⟨h0, hs⟩ => by
    obtain ⟨v, l, hv, hm⟩ := stands_iff.1 hs
    exact h v l hv _ hm (by omega)
  exact ⟨if_neg hn, if_neg hn⟩
section
variable {w : World} {B E : Nat} {v : Value} {L : List (List Nat)}
set_option maxHeartbeats 1000000 in
theorem rfind (h : LsRow w B v L) (hw : WF E L) (h0 : 0 < L.length) (hV : L.length ≤ 1048576) (hE : E ≤ 1048576) (d : Int) :
    Calls Tryd.prog 34 #[rval E v, .int .i64 d] w (RetPost (.tuple #[.int .i64 (fndV L d), .int .i64 (fndI L d)]) w) := by
  obtain ⟨g, c, rfl, hc, hB, hat⟩ := h.at_ h0
  have hgb : g < w.heap.size := by
    obtain ⟨u, hu, _⟩ := hat 0 _ (List.getElem?_eq_getElem h0)
    exact World.block_lt_of_cell? w _ hu
  have HW := Lib.hid hw
  have HAT : Hid (∀ (i : Nat) (l : List Nat), L[i]? = some l → ∃ u, (w.alloc (.cells #[.int .i64 (E : Int), .slice (some ⟨g, 0, none⟩) L.length c] 32)).cell? ⟨g, i, none⟩ = some u ∧ LRow (w.alloc (.cells #[.int .i64 (E : Int), .slice (some ⟨g, 0, none⟩) L.length c] 32)) B u l) := fun i l hl => by
    obtain ⟨u, hu, hr⟩ := hat i l hl
    exact ⟨u, by rw [World.cell?_alloc_lt _ _ _ hgb]; exact hu, hr.keep ((Keeps.refl _ _).alloc _)⟩
  have HB : Hid (Blk (w.alloc (.cells #[.int .i64 (E : Int), .slice (some ⟨g, 0, none⟩) L.length c] 32)) w.heap.size #[.int .i64 (E : Int), .slice (some ⟨g, 0, none⟩) L.length c] 32) := Blk.new w _ _
  have HK := Lib.hid ((Keeps.refl (fun _ => False) w).alloc (.cells #[.int .i64 (E : Int), .slice (some ⟨g, 0, none⟩) L.length c] 32))
  clear h hw hat
  unfold rval RetPost
  go_enter Tryd.func34, Tryd.ntmps34
  go_upto_region 1 with fail
  generalize w.alloc _ = w0 at *
  have b1 := HB.out.cell (i := 1)
  simp only [List.getElem?_toArray, List.getElem?_cons_zero, List.getElem?_cons_succ] at b1
  go_wp2_with fail
  go_loopw [6] (fun i wr => w0 = wr ∧ ∃ j : Nat, j ≤ L.length ∧ i = .int .i64 (j : Int) ∧ Hid (∀ (u : Nat) (l : List Nat), L[u]? = some l → u < j → ∀ x ∈ l, (x : Int) ≠ d)) (fun i _ => L.length - (intOf i).toNat)
  case atStart => exact ⟨rfl, 0, Nat.zero_le _, rfl, fun u l _ h => absurd h (Nat.not_lt_zero _)⟩
  case round =>
    obtain ⟨rfl, j, hj, rfl, HN⟩ := hrel
    by_cases hlt : j < L.length
    · obtain ⟨l, hl⟩ : ∃ l, L[j]? = some l := ⟨_, List.getElem?_eq_getElem hlt⟩
      obtain ⟨u, hu, hr⟩ := HAT.out j l hl
      obtain ⟨a, c2, rfl, hrd⟩ := hr.rd
      have HRD := Lib.hid hrd
      have HL := Lib.hid hl
      have hll : l.length ≤ 2 * E := by
        have h1 : l.length ≤ (List.range (2 * E)).length := List.Nodup.length_le_of_subset (HW.out.nd hl) (fun x hx => List.mem_range.2 (HW.out.bd hl hx))
        simpa using h1
      have HMEM : Hid (∀ i, i < l.length → l.getD i 0 ∈ l) := fun i hi => getD_mem hi
      have HIDX : Hid (∀ x ∈ l, ∃ i, i < l.length ∧ l.getD i 0 = x) := fun x hx => mem_getD hx
      clear hr hrd hl
      go_wp2_with fail
      go_loopw [7] (fun i wr => w0 = wr ∧ ∃ k : Nat, k ≤ l.length ∧ i = .int .i64 (k : Int) ∧ Hid (∀ i, i < k → ((l.getD i 0 : Nat) : Int) ≠ d)) (fun i _ => l.length - (intOf i).toNat)
      case atStart => exact ⟨rfl, 0, Nat.zero_le _, rfl, fun i h => absurd h (Nat.not_lt_zero _)⟩
      case round =>
        obtain ⟨rfl, k, hk, rfl, HM⟩ := hrel
        by_cases hkl : k < l.length
        · obtain ⟨b, off, rfl, hcell⟩ := HRD.out.nat hkl
          have hfnd := Lib.hid (fnd_hit HW.out HL.out hkl)
          have HLG : Hid (∀ i, i < k + 1 → ((l.getD k 0 : Nat) : Int) ≠ d → ((l.getD i 0 : Nat) : Int) ≠ d) := fun i hi hne => by
            by_cases e : i = k
            · subst e; exact hne
            · exact HM.out i (by omega)
          generalize hx : l.getD k 0 = x at *
          clear hx
          by_cases hxd : (x : Int) = d
          · subst hxd
            have hb : ((x : Int) == (x : Int)) = true := by simp
            go_wp2_with fail
            go_ret2
            exact ⟨by rw [hfnd.out.1, hfnd.out.2]; rfl, HK.out⟩
          · have hb : ((x : Int) == d) = false := by rw [beq_eq_false_iff_ne]; exact hxd
            go_wp2_with fail
            refine ⟨⟨trivial, k + 1, hkl, by go_num, fun i hi => HLG.out i hi hxd⟩, by simp [intOf]; omega⟩
        · obtain rfl : k = l.length := by omega
          go_wp2_with fail
          refine ⟨⟨trivial, j + 1, hlt, by go_num, fun u' l' hl' hu' x hx => ?_⟩, by simp [intOf]; omega⟩
          by_cases e : u' = j
          · subst e
            have hll' := HL.out
            rw [hl'] at hll'
            cases hll'
            obtain ⟨i, hi, rfl⟩ := HIDX.out x hx
            exact HM.out i hi
          · exact HN.out u' l' hl' (by omega) x hx
    · obtain rfl : j = L.length := by omega
      have hfnd := Lib.hid (fnd_no (L := L) (d := d) fun u l hl => HN.out u l hl (List.getElem?_eq_some_iff.1 hl).1)
      go_wp2_with fail
      go_ret2
      exact ⟨by rw [hfnd.out.1, hfnd.out.2]; rfl, HK.out⟩
end
end Go.Proofs.YtjmkejkhpdhhbaaDoor
