/- slices.Sort at []int: the shelf's contract at this program's numbers. -/
import Derived.Test.YtdplphhlclhmfaaDoorKj
import Derived.Shelf.Sort.Plain
import Derived.Shelf.Slices.In.SortNone
import Derived.Sort.OwnSortedInts
namespace Go.Proofs.YtdplphhlclhmfaaDoor
open Go Go.Shelf Go.RowKit
set_option linter.unusedVariables false
set_option linter.unusedSimpArgs false
set_option maxRecDepth 100000

def sortRen : Ren where
  f := fun x => match x with
    | 189 => 59
    | 125 => 93
    | 257 => 92
    | 128 => 117
    | 129 => 118
    | 294 => 108
    | 295 => 109
    | 296 => 110
    | 297 => 111
    | 298 => 112
    | 299 => 113
    | 216 => 114
    | 300 => 115
    | 301 => 116
    | 328 => 119
    | 329 => 120
    | 330 => 121
    | 331 => 122
    | 332 => 123
    | 215 => 124
    | 343 => 125
    | n => n
  t := fun x => match x with
    | 28 => 23
    | 3 => 3
    | 46 => 75
    | 0 => 0
    | 51 => 194
    | 53 => 196
    | 4 => 4
    | 183 => 186
    | 182 => 185
    | 131 => 191
    | 5 => 5
    | 9 => 9
    | 218 => 197
    | 222 => 201
    | 228 => 203
    | 229 => 63
    | n => n
  g := fun x => x
theorem sortLays : Lays.n189 Tryd.prog sortRen where
  mixed := by kernel_rfl
  f125 := Tryd.func93.trans (congrArg some (show Tryd.f93 = Body.n125 sortRen by kernel_rfl))
  f128 := Tryd.func117.trans (congrArg some (show Tryd.f117 = Body.n128 sortRen by kernel_rfl))
  f129 := Tryd.func118.trans (congrArg some (show Tryd.f118 = Body.n129 sortRen by kernel_rfl))
  f189 := Tryd.func59.trans (congrArg some (show Tryd.f59 = Body.n189 sortRen by kernel_rfl))
  f215 := Tryd.func124.trans (congrArg some (show Tryd.f124 = Body.n215 sortRen by kernel_rfl))
  f216 := Tryd.func114.trans (congrArg some (show Tryd.f114 = Body.n216 sortRen by kernel_rfl))
  f257 := Tryd.func92.trans (congrArg some (show Tryd.f92 = Body.n257 sortRen by kernel_rfl))
  f294 := Tryd.func108.trans (congrArg some (show Tryd.f108 = Body.n294 sortRen by kernel_rfl))
  f295 := Tryd.func109.trans (congrArg some (show Tryd.f109 = Body.n295 sortRen by kernel_rfl))
  f296 := Tryd.func110.trans (congrArg some (show Tryd.f110 = Body.n296 sortRen by kernel_rfl))
  f297 := Tryd.func111.trans (congrArg some (show Tryd.f111 = Body.n297 sortRen by kernel_rfl))
  f298 := Tryd.func112.trans (congrArg some (show Tryd.f112 = Body.n298 sortRen by kernel_rfl))
  f299 := Tryd.func113.trans (congrArg some (show Tryd.f113 = Body.n299 sortRen by kernel_rfl))
  f300 := Tryd.func115.trans (congrArg some (show Tryd.f115 = Body.n300 sortRen by kernel_rfl))
  f301 := Tryd.func116.trans (congrArg some (show Tryd.f116 = Body.n301 sortRen by kernel_rfl))
  f328 := Tryd.func119.trans (congrArg some (show Tryd.f119 = Body.n328 sortRen by kernel_rfl))
  f329 := Tryd.func120.trans (congrArg some (show Tryd.f120 = Body.n329 sortRen by kernel_rfl))
  f330 := Tryd.func121.trans (congrArg some (show Tryd.f121 = Body.n330 sortRen by kernel_rfl))
  f331 := Tryd.func122.trans (congrArg some (show Tryd.f122 = Body.n331 sortRen by kernel_rfl))
  f332 := Tryd.func123.trans (congrArg some (show Tryd.f123 = Body.n332 sortRen by kernel_rfl))
  f343 := Tryd.func125.trans (congrArg some (show Tryd.f125 = Body.n343 sortRen by kernel_rfl))
  t0 := Tryd.underlying0
  a0 := Tryd.isAgg0
  z0 := Tryd.sizeOf0
  v0 := Tryd.zeroValue0
  t3 := Tryd.underlying3
  a3 := Tryd.isAgg3
  z3 := Tryd.sizeOf3
  v3 := Tryd.zeroValue3
  t4 := Tryd.underlying4
  a4 := Tryd.isAgg4
  z4 := Tryd.sizeOf4
  v4 := Tryd.zeroValue4
  t5 := Tryd.underlying5
  a5 := Tryd.isAgg5
  z5 := Tryd.sizeOf5
  v5 := Tryd.zeroValue5
  t9 := Tryd.underlying9
  a9 := Tryd.isAgg9
  z9 := Tryd.sizeOf9
  v9 := Tryd.zeroValue9
  t28 := Tryd.underlying23
  a28 := Tryd.isAgg23
  z28 := Tryd.sizeOf23
  v28 := Tryd.zeroValue23
  t46 := Tryd.underlying75
  a46 := Tryd.isAgg75
  z46 := Tryd.sizeOf75
  v46 := Tryd.zeroValue75
  t51 := Tryd.underlying194
  a51 := Tryd.isAgg194
  z51 := Tryd.sizeOf194
  v51 := Tryd.zeroValue194
  t53 := Tryd.underlying196
  a53 := Tryd.isAgg196
  z53 := Tryd.sizeOf196
  v53 := Tryd.zeroValue196
  t131 := Tryd.underlying191
  a131 := Tryd.isAgg191
  z131 := Tryd.sizeOf191
  v131 := Tryd.zeroValue191
  t182 := Tryd.underlying185
  a182 := Tryd.isAgg185
  z182 := Tryd.sizeOf185
  v182 := Tryd.zeroValue185
  t183 := Tryd.underlying186
  a183 := Tryd.isAgg186
  z183 := Tryd.sizeOf186
  v183 := Tryd.zeroValue186
  t218 := Tryd.underlying197
  a218 := Tryd.isAgg197
  z218 := Tryd.sizeOf197
  v218 := Tryd.zeroValue197
  t222 := Tryd.underlying201
  a222 := Tryd.isAgg201
  z222 := Tryd.sizeOf201
  v222 := Tryd.zeroValue201
  t228 := Tryd.underlying203
  a228 := Tryd.isAgg203
  z228 := Tryd.sizeOf203
  v228 := Tryd.zeroValue203
  t229 := Tryd.underlying63
  a229 := Tryd.isAgg63
  z229 := Tryd.sizeOf63
  v229 := Tryd.zeroValue63
/-- Ascending. -/
def srt (l : List Nat) : List Nat := l.mergeSort fun x y => decide (x ≤ y)
theorem srt_perm (l : List Nat) : (srt l).Perm l := List.mergeSort_perm _ _
theorem srt_length (l : List Nat) : (srt l).length = l.length := (srt_perm l).length_eq
theorem srt_mem {l : List Nat} {x : Nat} : x ∈ srt l ↔ x ∈ l := (srt_perm l).mem_iff
theorem srt_sorted (l : List Nat) : (srt l).Pairwise fun x y => x ≤ y := by
  have := List.pairwise_mergeSort (le := fun x y => decide (x ≤ y)) (fun a b c h1 h2 => by simp at h1 h2 ⊢; omega) (fun a b => by simp; omega) l
  exact this.imp fun h => by simpa using h
theorem srt_ints (l : List Nat) : (intsN l).mergeSort (fun x y => decide (x ≤ y)) = intsN (srt l) := by
  unfold intsN srt
  rw [List.map_mergeSort]
  intro a _ b _
  simp
theorem nats_ints (l : List Nat) : nats l = (intsN l).map (Value.int .i64) := by simp [nats, intsN]
/-- slices.Sort, of a list of the call's own. -/
def SrtPost (B : Nat) (v : Value) (l : List Nat) (w : World) (e : Ending) (w' : World) : Prop := e = .returned (.tuple #[]) ∧ w'.ownsRow B 3 1 v l.length (nats (srt l)) ∧ Keeps (fun q => v.ownBlock = some q) w w'
theorem ssort {w : World} {B : Nat} {v : Value} {l : List Nat} (h : w.ownsRow B 3 1 v l.length (nats l)) (hl : l.length < 4611686018427387904) :
    Calls Tryd.prog 59 #[v] w (SrtPost B v l w) := by
  rcases h.2 with ⟨rfl, h0⟩ | ⟨g, cap, cur, rfl, hb, hg, hn, hcap, hcs, htake⟩
  · have hl0 : l = [] := List.eq_nil_of_length_eq_zero h0
    subst hl0
    have hc := Any.slices_Sort_int_none sortLays none 0 w
    change Calls Tryd.prog 59 _ _ _ at hc
    refine hc.mono ?_
    rintro e w1 ⟨rfl, rfl⟩
    exact ⟨rfl, by rw [show srt [] = [] from by simp [srt]]; exact h, Keeps.refl _ _⟩
  · have hlen : (intsN l).length = l.length := by simp [intsN]
    rw [nats_ints] at htake
    rw [Nat.mul_one, ← hlen] at htake
    have hH := holds_of_blockI hg htake
    have hlt : g < w.heap.size := (Array.getElem?_eq_some_iff.1 hg).1
    have hc := Any.slices_Sort_int sortLays g 0 cap (intsN l) w hH hlt (by rw [hlen]; exact hl)
    rw [hlen] at hc
    change Calls Tryd.prog 59 _ _ _ at hc
    refine hc.mono ?_
    rintro e w1 ⟨rfl, n, os, rfl⟩
    rw [srt_ints]
    have ho := ownsRow_sortedI (w := w) (n := n) (os := os) (ss := intsN l) (ts := intsN (srt l)) (by simp [intsN, srt_length]) hb hg (by rw [hlen]; exact hn) hcap hcs
    rw [hlen, ← nats_ints] at ho
    refine ⟨rfl, ho, ?_⟩
    have hk := grownBy_sortedI (w := w) (g := g) (n := n) (os := os) (intsN (srt l)).toArray
    exact (Keeps.refl _ _).grown hk fun k e _ => by cases e; simp [Value.ownBlock]
end Go.Proofs.YtdplphhlclhmfaaDoor
