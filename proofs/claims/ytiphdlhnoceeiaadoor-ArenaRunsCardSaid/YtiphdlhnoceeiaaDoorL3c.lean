/- Chapter 3's laws: places handed on as the program's. -/
import Derived.Test.YtiphdlhnoceeiaaDoorL3a
import Derived.Test.YtiphdlhnoceeiaaDoorAr7
import Derived.Deep.RegionHeld3
import Derived.Deep.AppendLies
namespace Go.Proofs.YtiphdlhnoceeiaaDoor
open Go Go.RowKit
set_option linter.unusedVariables false
set_option linter.unusedSimpArgs false
set_option maxRecDepth 100000

def GiveRel (w : World) (L : List (Int × Int)) (f : Nat) (v : Value) (wr : World) : Prop := wr.ownsRow w.heap.size 72 2 v f (plVals (L.take f)) ∧ Keeps (fun _ => False) w wr
theorem GiveRel.grow {w wr w5 : World} {L : List (Int × Int)} {f : Nat} {q : Int × Int} {v v' : Value} (h : GiveRel w L f v wr) (ht : L.take (f + 1) = L.take f ++ [q])
    (ho : w5.ownsRow w.heap.size 72 2 v' (f + 1) (plVals (L.take f) ++ [.int .u32 q.1, .int .i64 q.2])) (hk : Keeps (fun k => v.ownBlock = some k) wr w5) : GiveRel w L (f + 1) v' w5 := by
  refine ⟨?_, h.2.trans hk fun i hi e => by have := (h.1.lt i e).1; omega⟩
  rw [ht, plVals_append]
  simpa [plVals] using ho
section
variable {L : List (Int × Int)}
set_option maxHeartbeats 1000000 in
theorem givePl (a : Option Addr) (c : Nat) (w : World) (hr : Rd w a (plVals L)) (hl : L.length * 16 ≤ 140737488351232) :
    Calls Tryd.prog 47 #[.slice a L.length c] w (ClonePost L w) := by
  obtain ⟨i0, hi, hz0, hz1, hz2⟩ := info_parts infoPl
  have HR := Lib.hid hr
  clear hr
  have hst : Hid (GiveRel w L 0 (.slice none 0 0) w) := ⟨World.ownsRow_nil _ _ _ _, Keeps.refl _ _⟩
  go_enter Tryd.func47, Tryd.ntmps47
  go_wp2_with fail
  go_loopw [3, 4] (fun l i wr => ∃ f : Nat, f ≤ L.length ∧ i = .int .i64 (f : Int) ∧ GiveRel w L f l wr) (fun _ i _ => L.length - (intOf i).toNat)
  case atStart => exact ⟨0, Nat.zero_le _, rfl, hst.out⟩
  case round =>
    obtain ⟨f, hf, rfl, hrel⟩ := hrel
    clear hst
    by_cases hlt : f < L.length
    · obtain ⟨b, off, rfl, e1, e2⟩ := plAt (HR.out.keep hrel.2) f hlt
      have hown := hrel.1
      have hws := hrel.2.size
      have HREL := Lib.hid hrel
      have HT := Lib.hid (take_snoc hlt)
      clear hrel
      generalize L[f] = q at *
      obtain ⟨qa, qs⟩ := q
      simp only at e1 e2
      go_wp2_with fail
      have hbw : b < w.heap.size := by
        obtain ⟨b2, off2, h2, e3, _⟩ := plAt HR.out f hlt
        cases h2
        exact World.block_lt_of_cell? w _ e3
      have hown2 : Hid ((wr.drew.alloc (.cells #[.int .u32 qa, .int .i64 qs] 72)).ownsRow w.heap.size 72 2 u3 f (plVals (L.take f))) := hown.alloc _
      have hnb : Hid (∀ w2, (wr.drew.alloc (.cells #[.int .u32 qa, .int .i64 qs] 72)).grownBy w2 u3.ownBlock → Keeps (fun k => u3.ownBlock = some k) wr w2) := fun w2 hg => ((Keeps.refl _ _).drew.alloc _).trans' (keeps_of_grown hg)
      have hob : Hid (∀ w2, Keeps (fun k => u3.ownBlock = some k) wr w2 → w2.cell? ⟨b, off + f * 2, none⟩ = some (.int .u32 qa) ∧ w2.cell? ⟨b, off + f * 2 + 1, none⟩ = some (.int .i64 qs)) := fun w2 hk =>
        have hne : ¬ (u3.ownBlock = some b) := fun e => by have := (hown.lt b e).1; omega
        ⟨(World.cell?_of_block (hk.block b (World.block_lt_of_cell? wr _ e1) hne)).trans e1, (World.cell?_of_block (hk.block b (World.block_lt_of_cell? wr _ e1) hne)).trans e2⟩
      go_region_held3 (fun w' => w'.cell? ⟨b, off + f * 2, none⟩ = some (.int .u32 qa) ∧ w'.cell? ⟨b, off + f * 2 + 1, none⟩ = some (.int .i64 qs))
        ((first | exact ⟨e1, e2⟩ | exact hob.out _ ((Keeps.refl _ _).drew.alloc _) | exact hob.out _ (by assumption)))
        (first | ((refine step_append_lies _ rfl _ _ 63 rfl w.heap.size 72 i0 (.agg #[.int .u32 0, .int .i64 0]) 2 16 Tryd.underlying63 hi hz0 hz1 hz2 rfl (by decide) _ _ _ rfl hown2.out ⟨wr.heap.size, 0, none⟩ 1 1 [.int .u32 qa, .int .i64 qs] rfl rfl (World.news_of_block (Blk.new wr.drew #[.int .u32 qa, .int .i64 qs] 72)) (by simp [Value.oneCell']) (by decide) (by unfold maxLen; omega) (by omega) (by simp; omega) _ rfl ?_; intro g1 cap1 w5 ho5 hg5 hb5 hs5; have hk5 := hnb.out _ hg5)))
      have HG := Lib.hid (HREL.out.grow HT.out ho5 hk5)
      clear hg5 hb5 ho5 hk5
      go_wp2_with fail
      refine ⟨⟨f + 1, hlt, by go_num, HG.out⟩, by simp [intOf]; omega⟩
    · obtain rfl : f = L.length := by omega
      have HREL := Lib.hid hrel
      clear hrel
      go_wp2_with fail
      go_ret
      exact ⟨_, rfl, by have := HREL.out.1; rw [List.take_length] at this; exact this, HREL.out.2⟩
end
end Go.Proofs.YtiphdlhnoceeiaaDoor
