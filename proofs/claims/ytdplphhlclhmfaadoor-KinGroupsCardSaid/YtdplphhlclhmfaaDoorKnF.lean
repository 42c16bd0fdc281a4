/- The document's Road. -/
import Derived.Test.YtdplphhlclhmfaaDoorKnC
import Derived.Test.YtdplphhlclhmfaaDoorKnE
namespace Go.Proofs.YtdplphhlclhmfaaDoor
open Go Go.RowKit
set_option linter.unusedVariables false
set_option linter.unusedSimpArgs false
set_option maxRecDepth 100000

/-- The least so far of those that are so. -/
def atS (P : Nat → Bool) (at_ : Int) (d : Nat) : Int := if P d = true ∧ (at_ < 0 ∨ (d : Int) < at_) then (d : Int) else at_
def atL (P : Nat → Bool) (l : List Nat) : Int := l.foldl (atS P) (-1)
theorem atL_snoc (P : Nat → Bool) (l : List Nat) (d : Nat) : atL P (l ++ [d]) = atS P (atL P l) d := by unfold atL; rw [List.foldl_append]; rfl
theorem atL_inv (P : Nat → Bool) : ∀ (n : Nat) (l : List Nat), l.length = n → (atL P l = -1 ∧ ∀ e ∈ l, P e = false) ∨ ∃ d : Nat, atL P l = (d : Int) ∧ d ∈ l ∧ P d = true ∧ ∀ e ∈ l, P e = true → d ≤ e
  | 0, l, h => by
    obtain rfl := List.eq_nil_of_length_eq_zero h
    exact Or.inl ⟨rfl, by simp⟩
  | n + 1, l, h => by
    obtain ⟨l, d, rfl⟩ : ∃ l' d, l = l' ++ [d] := ⟨l.dropLast, l.getLast (by rintro rfl; simp at h), (List.dropLast_concat_getLast _).symm⟩
    have h' : l.length = n := by simpa using h
    rw [atL_snoc]
    unfold atS
    rcases atL_inv P n l h' with ⟨e, hn⟩ | ⟨x, e, hx, hp, hm⟩
    · rw [e]
      by_cases q : P d = true
      · rw [if_pos ⟨q, Or.inl (by decide)⟩]
        refine Or.inr ⟨d, rfl, by simp, q, fun y hy hpy => ?_⟩
        rcases List.mem_append.1 hy with k | k
        · rw [hn y k] at hpy; cases hpy
        · rw [List.mem_singleton.1 k]; exact Nat.le_refl _
      · rw [if_neg fun k => q k.1]
        refine Or.inl ⟨rfl, fun y hy => ?_⟩
        rcases List.mem_append.1 hy with k | k
        · exact hn y k
        · rw [List.mem_singleton.1 k]; simpa using q
    · rw [e]
      by_cases q : P d = true ∧ ((x : Int) < 0 ∨ (d : Int) < (x : Int))
      · rw [if_pos q]
        refine Or.inr ⟨d, rfl, by simp, q.1, fun y hy hpy => ?_⟩
        rcases List.mem_append.1 hy with k | k
        · have := hm y k hpy
          omega
        · rw [List.mem_singleton.1 k]; exact Nat.le_refl _
      · rw [if_neg q]
        refine Or.inr ⟨x, rfl, List.mem_append_left _ hx, hp, fun y hy hpy => ?_⟩
        rcases List.mem_append.1 hy with k | k
        · exact hm y k hpy
        · rw [List.mem_singleton.1 k] at hpy ⊢
          have : ¬ ((d : Int) < (x : Int)) := fun k => q ⟨hpy, Or.inr k⟩
          omega
theorem find_least {P : Nat → Bool} {x : Nat} : ∀ {l : List Nat}, l.Pairwise (fun x y => x ≤ y) → l.find? P = some x → ∀ e ∈ l, P e = true → x ≤ e
  | [], _, h => by simp at h
  | y :: l, hs, h => by
    rw [List.pairwise_cons] at hs
    intro e he hp
    rw [List.find?_cons] at h
    split at h
    · obtain rfl := Option.some.inj h
      rcases List.mem_cons.1 he with k | k
      · rw [k]; exact Nat.le_refl _
      · exact hs.1 e k
    · rename_i hq
      rcases List.mem_cons.1 he with k | k
      · rw [k] at hp; rw [hp] at hq; cases hq
      · exact find_least hs.2 h e k hp
section
variable {L : List (List Nat)} {E b : Nat} {f : List Int}
theorem FarOk.least (h : FarOk L b f) (hg : Good E L) {a n : Nat} (ha : a < L.length) (e : f.getD a 0 = ((n + 1 : Nat) : Int)) :
    atL (fun d => decide (f.getD (De L d) 0 = f.getD a 0 - 1)) (L.getD a []) = (Proofs.YtdplphhlclhmfaaDoor.stepD L f a : Int) := by
  obtain ⟨h1, h2, h3, h4, h5, h6⟩ := h.stepD hg ha e
  have hp : decide (f.getD (De L (Proofs.YtdplphhlclhmfaaDoor.stepD L f a)) 0 = f.getD a 0 - 1) = true := List.find?_some (p := fun d => decide (f.getD (De L d) 0 = f.getD a 0 - 1)) h6
  rcases atL_inv (fun d => decide (f.getD (De L d) 0 = f.getD a 0 - 1)) _ (L.getD a []) rfl with ⟨_, hn⟩ | ⟨x, ex, hx, hpx, hm⟩
  · have := hn _ (arL_mem.1 h1)
    rw [hp] at this
    cases this
  · rw [ex]
    have k1 := hm _ (arL_mem.1 h1) hp
    have k2 := find_least (srt_sorted _) h6 x (arL_mem.2 hx) hpx
    omega
end
section
variable {w : World} {B E : Nat} {v : Value} {L : List (List Nat)}
def RRoadPost (L : List (List Nat)) (b a : Nat) (w : World) (e : Ending) (w' : World) : Prop :=
  ∃ f, FarOk L b f ∧ (f.getD a 0 < 0 ∧ e = .returned (.tuple #[.slice none 0 0, .bool false]) ∧ Keeps (fun _ => False) w w' ∨
    0 ≤ f.getD a 0 ∧ ∃ v, e = .returned (.tuple #[v, .bool true]) ∧ w'.ownsRow w.heap.size 3 1 v (roadL L f (f.getD a 0).toNat a).length (nats (roadL L f (f.getD a 0).toNat a)) ∧ Keeps (fun _ => False) w w')
/-- On the road: what was told. -/
structure RrAt (w3 : World) (L : List (List Nat)) (f : List Int) (R : List Nat) (x m k : Nat) (o : Value) (wr : World) : Prop where
  ex : ∃ l, l ++ roadL L f k x = R ∧ m = l.length ∧ wr.ownsRow w3.heap.size 3 1 o m (nats l)
  fx : f.getD x 0 = (k : Int)
  kp : Keeps (fun _ => False) w3 wr
set_option maxHeartbeats 8000000 in
theorem rroad (h : LsRow w B v L) (hg : Good E L) (h0 : 0 < L.length) (hV : L.length ≤ 1048576) (hE : E ≤ 1048576) {a b : Nat} (ha : a < L.length) (hb : b < L.length) :
    Calls Tryd.prog 37 #[rval E v, .int .i64 (a : Int), .int .i64 (b : Int)] w (RRoadPost L b a w) := by
  obtain ⟨g, vc, rfl, hc, hB, hat⟩ := h.at_ h0
  generalize hW : w.alloc (.cells #[.int .i64 (E : Int), .slice (some ⟨g, 0, none⟩) L.length vc] 27) = w0
  have hK0 : Keeps (fun _ => False) w w0 := by rw [← hW]; exact (Keeps.refl _ _).alloc _
  have HB : Hid (Blk w0 w.heap.size #[.int .i64 (E : Int), .slice (some ⟨g, 0, none⟩) L.length vc] 27) := by rw [← hW]; exact Lib.hid (Blk.new _ _ _)
  have HK0 := Lib.hid hK0
  have HEN : Hid (∀ W, Keeps (fun _ => False) w0 W → ∀ d : Nat, Stands L d → Calls Tryd.prog 68 #[rval E (.slice (some ⟨g, 0, none⟩) L.length vc), .int .i64 (d : Int)] W (RetPost (.int .i64 (De L d : Nat)) W)) := Lib.hid fun W hk d hs => rend ((h.keep hK0).keep hk) hg h0 hV hE hs
  have HFA := Lib.hid (rfar (h.keep hK0) hg h0 hV hE hb)
  have HAT : Hid (∀ i, i < L.length → ∃ a c, ∀ W, Keeps (fun _ => False) w0 W → W.cell? ⟨g, i, none⟩ = some (.slice a (L.getD i []).length c) ∧ Rd W a (nats (L.getD i []))) := Lib.hid fun i hi => by
    obtain ⟨u, hu, hrow⟩ := hat i _ (some_getD (by omega))
    obtain ⟨a, c, rfl, hrd⟩ := hrow.rd
    exact ⟨a, c, fun W hk => ⟨hk.cellF (hK0.cellF hu), (hrd.keep hK0).keep hk⟩⟩
  have HG := Lib.hid hg
  have HLL : Hid (∀ v, v < L.length → (L.getD v []).length ≤ 4194304) := Lib.hid fun v hv => by
    have h1 : (L.getD v []).length ≤ (List.range (2 * E)).length := List.Nodup.length_le_of_subset (hg.toWF.nd (some_getD hv)) (fun x hx => List.mem_range.2 (hg.toWF.bd (some_getD hv) hx))
    rw [List.length_range] at h1
    omega
  obtain ⟨x0, x1, _, _, _⟩ := HB.out.cells
  have haI : (a : Int) < (L.length : Int) := Int.ofNat_lt.2 ha
  clear h hg hat hK0
  unfold RetPost rval at HEN
  unfold FarPost rval at HFA
  unfold RRoadPost rval
  obtain ⟨i0, hi, hz0, hz1, hz2⟩ := info_parts infoI
  go_enter Tryd.func37, Tryd.ntmps37
  go_upto_region 1 with fail
  clear hW
  go_upto_region 2 with (go_at_call 67; with_reducible refine HFA.out.mono ?_; rintro e w3 ⟨fb, f, rfl, hfo, hfb, hge, hk3⟩; have HFO := Lib.hid hfo; have HFB := Lib.hid hfb; have HK3 := Lib.hid hk3; have y0 := hk3.cellF x0; have y1 := hk3.cellF x1; clear hfo hfb hge hk3 HFA x0 x1)
  have za := HFB.out.cell a
  rw [List.getElem?_toArray, i64s_get (by rw [HFO.out.len]; exact ha)] at za
  by_cases hneg : f.getD a 0 < 0
  · have HF : Hid (∃ f, FarOk L b f ∧ f.getD a 0 < 0 ∧ Keeps (fun _ => False) w w3) := Lib.hid ⟨f, HFO.out, hneg, HK0.out.trans' HK3.out⟩
    generalize f.getD a 0 = fa at *
    clear HFB HFO HK3
    go_wp2_with fail
    go_ret2
    obtain ⟨f, q1, q2, q3⟩ := HF.out
    exact ⟨f, q1, Or.inl ⟨q2, rfl, q3⟩⟩
  · obtain ⟨N, hN⟩ := Int.eq_ofNat_of_zero_le (show 0 ≤ f.getD a 0 by omega)
    have hNV : N < L.length := by have := (HFO.out.lt HG.out ha).2; omega
    have HIN : Hid (RrAt w3 L f (roadL L f N a) a 0 N (.slice none 0 0) w3) := Lib.hid ⟨⟨[], rfl, rfl, World.ownsRow_nil _ _ _ _⟩, hN, Keeps.refl _ _⟩
    have HEND : Hid (∀ v W, W.ownsRow w3.heap.size 3 1 v (roadL L f N a).length (nats (roadL L f N a)) → Keeps (fun _ => False) w3 W → ∃ f, FarOk L b f ∧ 0 ≤ f.getD a 0 ∧ W.ownsRow w.heap.size 3 1 v (roadL L f (f.getD a 0).toNat a).length (nats (roadL L f (f.getD a 0).toNat a)) ∧ Keeps (fun _ => False) w W) := Lib.hid fun v W ho hk => by
      refine ⟨f, HFO.out, by omega, ?_, (HK0.out.trans' HK3.out).trans' hk⟩
      rw [hN, Int.toNat_natCast]
      exact owns_low ho (HK0.out.trans' HK3.out).size
    have HCL : Hid (∀ W, Keeps (fun _ => False) w3 W → ∀ y, y < L.length → W.cell? ⟨fb, y, none⟩ = some (.int .i64 (f.getD y 0))) := Lib.hid fun W hk y hy => by
      rw [(HFB.out.kept hk id).cell, List.getElem?_toArray, i64s_get (by rw [HFO.out.len]; exact hy)]
    rw [hN] at za
    have hRl : (roadL L f N a).length = N := roadL_length N a
    generalize roadL L f N a = R at *
    have HBX : Hid (∀ W, Keeps (fun _ => False) w3 W → W.cell? ⟨w.heap.size, 0, none⟩ = some (.int .i64 (E : Int)) ∧ W.cell? ⟨w.heap.size, 1, none⟩ = some (.slice (some ⟨g, 0, none⟩) L.length vc)) := Lib.hid fun W hk => ⟨hk.cellF y0, hk.cellF y1⟩
    clear hneg hN HFB y0 y1
    go_upto_region 5 with fail
    clear za haI
    go_loopg [1, 9] N (fun k xa o wr => ∃ (x m : Nat) (ga : Option Addr) (gc : Nat), xa = .int .i64 (x : Int) ∧ x < L.length ∧ o = .slice ga m gc ∧ Hid (RrAt w3 L f R x m k o wr))
    case atStart => exact ⟨a, 0, none, 0, rfl, ha, rfl, HIN⟩
    case round =>
      obtain ⟨x, m, ga, gc, rfl, hx, rfl, HR⟩ := hrel
      clear HIN
      obtain ⟨⟨l, hlR, hml, hro⟩, hfx, hkp⟩ := HR.out
      clear HR
      have HML := Lib.hid hml
      clear hml
      have hxI : (x : Int) < (L.length : Int) := Int.ofNat_lt.2 hx
      have zx := HCL.out _ hkp x hx
      rw [hfx] at zx
      cases gk with
      | zero =>
        have HF := Lib.hid (HEND.out _ _ (by
          have h1 : l = R := by rw [← hlR]; simp [roadL]
          rw [← h1, ← HML.out]
          exact hro) hkp)
        clear hkp hro hlR HML HEND hfx
        go_wp2_with fail
        go_ret2
        obtain ⟨f, q1, q2, q3, q4⟩ := HF.out
        exact ⟨f, q1, Or.inr ⟨q2, _, rfl, q3, q4⟩⟩
      | succ k =>
        obtain ⟨hsm, hst, hsv, hsf, hsl, hfd⟩ := HFO.out.stepD HG.out hx hfx
        have hle := HFO.out.least HG.out hx hfx
        rw [hfx] at hle
        have hk1 : ((k + 1 : Nat) : Int) - 1 = (k : Int) := by omega
        rw [hk1] at hle
        have hkc : ((k + 1 : Nat) : Int) = (k : Int) + 1 := by omega
        rw [hkc] at zx
        have hkN : m + (k + 1) = N := by
          have := congrArg List.length hlR
          rw [List.length_append, roadL_length, hRl] at this
          have := HML.out
          omega
        have HRO := Lib.hid hro
        have HKP := Lib.hid hkp
        have HLR : Hid (∀ d, stepD L f x = d → (l ++ [d]) ++ roadL L f k (De L d) = R) := Lib.hid fun d e => by
          rw [← hlR, ← e]
          show _ = l ++ (stepD L f x :: roadL L f k (De L (stepD L f x)))
          simp
        have HSD := Lib.hid (And.intro hst (And.intro hsl hsf))
        obtain ⟨ra, rc, hrw⟩ := HAT.out x hx
        have HRW := Lib.hid hrw
        have hll := HLL.out x hx
        have HDS : Hid (∀ d ∈ L.getD x [], Stands L d) := Lib.hid fun d hd => stands_at (some_getD hx) hd
        have HLE := Lib.hid hle
        have hkI : (0 : Int) < (k : Int) + 1 := Int.lt_add_one_of_le (Int.natCast_nonneg _)
        have HK30 : Hid (∀ W, Keeps (fun _ => False) w3 W → Keeps (fun _ => False) w0 W) := Lib.hid fun W hk => HK3.out.trans' hk
        clear hlR hrw hle hsm hst hsv hsf hsl hfd hro hkp
        clear hk1 hkc
        obtain ⟨sd, hsd⟩ : ∃ sd, stepD L f x = sd := ⟨_, rfl⟩
        rw [hsd] at HLE HSD
        have HLR2 := Lib.hid (HLR.out sd hsd)
        clear hsd HLR
        generalize L.getD x [] = row at *
        generalize wr = wo at *
        obtain ⟨P, hP⟩ : ∃ P : Nat → Bool, (fun d => decide (f.getD (De L d) 0 = (k : Int))) = P := ⟨_, rfl⟩
        rw [hP] at HLE
        have HPD : Hid (∀ d, P d = decide (f.getD (De L d) 0 = (k : Int))) := Lib.hid fun d => by rw [← hP]
        clear hP
        go_upto_region 8 with fail
        go_loopw [10, 11] (fun at_ i wi => ∃ (j : Nat), j ≤ row.length ∧ i = .int .i64 (j : Int) ∧ at_ = .int .i64 (atL P (row.take j)) ∧ Hid (Keeps (fun _ => False) wo wi)) (fun _ i _ => row.length - (intOf i).toNat)
        case atStart => exact ⟨0, Nat.zero_le _, rfl, rfl, Lib.hid (Keeps.refl _ _)⟩
        case round =>
          obtain ⟨j, hj, rfl, rfl, HKI⟩ := hrel
          obtain ⟨x0, x1⟩ := HBX.out _ (HKP.out.trans' HKI.out)
          obtain ⟨hrc, hrd⟩ := HRW.out _ (HK30.out _ (HKP.out.trans' HKI.out))
          have zx1 := HKI.out.cellF zx
          by_cases hjl : j < row.length
          · have hds := HDS.out _ (getD_mem hjl)
            obtain ⟨b5, o5, e5, hcd⟩ := hrd.nat hjl
            subst e5
            have hjI : (j : Int) < (row.length : Int) := by omega
            have hst : row.take (j + 1) = row.take j ++ [row.getD j 0] := take_next hjl
            have hat1 := atL_snoc P (row.take j) (row.getD j 0)
            rw [← hst] at hat1
            clear hst hrd
            generalize row.getD j 0 = d at *
            have hyl : De L d < L.length := HG.out.toWF.vtx_lt (HG.out.twin _ hds)
            have hyI : ((De L d : Nat) : Int) < (L.length : Int) := Int.ofNat_lt.2 hyl
            have hbd := HG.out.toWF.bdS hds
            have q1 := HCL.out _ (HKP.out.trans' HKI.out) _ hyl
            have HKE := Lib.hid fun W (hk : Keeps (fun _ => False) wr W) => HEN.out W ((HK30.out _ (HKP.out.trans' HKI.out)).trans' hk) d hds
            unfold atS at hat1
            generalize atL P (row.take j) = q at *
            have hpd := HPD.out d
            have HAT1 := Lib.hid hat1
            clear hat1 hds
            generalize De L d = y at *
            generalize f.getD y 0 = fy at *
            obtain ⟨pd, hpe⟩ : ∃ pd, P d = pd := ⟨_, rfl⟩
            rw [hpe] at hpd HAT1
            clear hpe
            obtain ⟨bb, hbb⟩ : ∃ bb, decide (pd = true ∧ (q < 0 ∨ (d : Int) < q)) = bb := ⟨_, rfl⟩
            have HBB := Lib.hid hbb
            clear hbb
            have hw1 : IntKind.i64.wrap ((k : Int) + 1 - 1) = (k : Int) := by rw [IntKind.wrap_i64]; omega
            have hw2 : IntKind.i64.wrap (k : Int) = (k : Int) := by rw [IntKind.wrap_i64]; omega
            have hQ : Keeps (fun _ => False) wr wr.drew := (Keeps.refl _ _).drew
            have HWO := Lib.hid (HKP.out.trans' HKI.out)
            go_upto_region 11 with fail
            go_cut [64] (fun t wd => t = .bool bb ∧ Hid (Keeps (fun _ => False) wr wd))
            case first =>
              clear HAT1 HRW HDS hcd hrc HKI
              cases pd with
              | false =>
                have hbe : (fy == (k : Int)) = false := by rw [beq_eq_false_iff_ne]; exact of_decide_eq_false hpd.symm
                obtain rfl : bb = false := by rw [← HBB.out]; simp
                clear hpd HBB
                go_wp2_with fail
                refine wp_region_held_drew (S := (fun w' => w'.cell? ⟨w.heap.size, 0, none⟩ = some (.int .i64 (E : Int)) ∧ w'.cell? ⟨w.heap.size, 1, none⟩ = some (.slice (some ⟨g, 0, none⟩) L.length vc) ∧ w'.cell? ⟨fb, y, none⟩ = some (.int .i64 fy) ∧ w'.cell? ⟨fb, x, none⟩ = some (.int .i64 ((k : Int) + 1)))) (by kernel_rfl) (⟨hQ.cellF x0, hQ.cellF x1, hQ.cellF q1, hQ.cellF zx1⟩) (fun hHeld => ?_)
                refine wpAnyH_take (i := 0) (v := ?_) rfl (by kernel_rfl) (by kernel_rfl) (by kernel_rfl) (fun _ _ _ h => h) (Or.inl ⟨by rfl, ?_⟩) (by assumption) ?_
                rotate_left
                · (intro w hSw; (try dsimp only at hSw); simp only [List.getElem_toArray, List.getElem_cons_zero, List.getElem_cons_succ]; go_simp <;> with_reducible rfl)
                try simp only [Act.put, List.getElem_toArray, List.getElem_cons_zero, List.getElem_cons_succ, List.setIfInBounds_toArray, List.set_cons_zero, List.set_cons_succ]
                refine wpAnyH_take (i := 1) (v := ?_) rfl (by kernel_rfl) (by kernel_rfl) (by kernel_rfl) (fun _ _ _ h => h) (Or.inl ⟨by rfl, ?_⟩) (by assumption) ?_
                rotate_left
                · (intro w hSw; (try dsimp only at hSw); simp only [List.getElem_toArray, List.getElem_cons_zero, List.getElem_cons_succ]; go_simp <;> with_reducible rfl)
                try simp only [Act.put, List.getElem_toArray, List.getElem_cons_zero, List.getElem_cons_succ, List.setIfInBounds_toArray, List.set_cons_zero, List.set_cons_succ]
                refine wpAnyH_take (i := 2) (v := ?_) rfl (by kernel_rfl) (by kernel_rfl) (by kernel_rfl) (fun _ _ _ h => h) (Or.inl ⟨by rfl, ?_⟩) (by assumption) ?_
                rotate_left
                · (intro w hSw; (try dsimp only at hSw); simp only [List.getElem_toArray, List.getElem_cons_zero, List.getElem_cons_succ]; go_simp <;> with_reducible rfl)
                try simp only [Act.put, List.getElem_toArray, List.getElem_cons_zero, List.getElem_cons_succ, List.setIfInBounds_toArray, List.set_cons_zero, List.set_cons_succ]
                refine wpAnyH_take (i := 6) (v := ?_) rfl (by kernel_rfl) (by kernel_rfl) (by kernel_rfl) (fun _ _ _ h => h) (Or.inl ⟨by rfl, ?_⟩) (by assumption) ?_
                rotate_left
                · (intro w hSw; (try dsimp only at hSw); simp only [List.getElem_toArray, List.getElem_cons_zero, List.getElem_cons_succ]; go_simp <;> with_reducible rfl)
                try simp only [Act.put, List.getElem_toArray, List.getElem_cons_zero, List.getElem_cons_succ, List.setIfInBounds_toArray, List.set_cons_zero, List.set_cons_succ]
                refine wpAnyH_take (i := 7) (v := ?_) rfl (by kernel_rfl) (by kernel_rfl) (by kernel_rfl) (fun _ _ _ h => h) (Or.inl ⟨by rfl, ?_⟩) (by assumption) ?_
                rotate_left
                · (intro w hSw; (try dsimp only at hSw); simp only [List.getElem_toArray, List.getElem_cons_zero, List.getElem_cons_succ]; go_simp <;> with_reducible rfl)
                try simp only [Act.put, List.getElem_toArray, List.getElem_cons_zero, List.getElem_cons_succ, List.setIfInBounds_toArray, List.set_cons_zero, List.set_cons_succ]
                refine wpAnyH_take (i := 8) (v := ?_) rfl (by kernel_rfl) (by kernel_rfl) (by kernel_rfl) (fun _ _ _ h => h) (Or.inl ⟨by rfl, ?_⟩) (by assumption) ?_
                rotate_left
                · (intro w hSw; (try dsimp only at hSw); simp only [List.getElem_toArray, List.getElem_cons_zero, List.getElem_cons_succ]; go_simp <;> with_reducible rfl)
                try simp only [Act.put, List.getElem_toArray, List.getElem_cons_zero, List.getElem_cons_succ, List.setIfInBounds_toArray, List.set_cons_zero, List.set_cons_succ]
                refine wpAnyH_take (i := 9) (v := ?_) rfl (by kernel_rfl) (by kernel_rfl) (by kernel_rfl) (fun _ _ _ h => h) (Or.inl ⟨by rfl, ?_⟩) (by assumption) ?_
                rotate_left
                · (intro w hSw; (try dsimp only at hSw); simp only [List.getElem_toArray, List.getElem_cons_zero, List.getElem_cons_succ]; go_simp <;> with_reducible rfl)
                try simp only [Act.put, List.getElem_toArray, List.getElem_cons_zero, List.getElem_cons_succ, List.setIfInBounds_toArray, List.set_cons_zero, List.set_cons_succ]
                refine wpAnyH_take (i := 10) (v := .int .i64 (k : Int)) rfl (by kernel_rfl) (by kernel_rfl) (by kernel_rfl) (fun _ _ _ h => h) (Or.inl ⟨by rfl, ?_⟩) (by assumption) ?_
                · (intro w hSw; (try dsimp only at hSw); simp only [List.getElem_toArray, List.getElem_cons_zero, List.getElem_cons_succ]; go_simp; try (first | rw [hw1] | rw [hw2] | simp only [hw1, hw2]))
                try simp only [Act.put, List.getElem_toArray, List.getElem_cons_zero, List.getElem_cons_succ, List.setIfInBounds_toArray, List.set_cons_zero, List.set_cons_succ]
                refine wpAnyH_ready (rs := [3]) (by kernel_rfl) (by simp) (AllReadyH.cons rfl (fun K hK => ?_) AllReadyH.nil)
                try simp only [List.getElem_toArray, List.getElem_cons_zero, List.getElem_cons_succ]
                go_simp
                with_reducible refine (HKE.out _ hQ).mono ?_
                rintro e5 w5 ⟨rfl, hk5⟩
                replace hQ : Keeps (fun _ => False) wr w5 := hQ.trans' hk5
                try go_wp2_with fail
                refine hK.out _ _ ?_ (fun hHeld => ?_)
                · exact ⟨hQ.cellF x0, hQ.cellF x1, hQ.cellF q1, hQ.cellF zx1⟩
                clear hK K
                try simp only [Act.put, List.getElem_toArray, List.getElem_cons_zero, List.getElem_cons_succ, List.setIfInBounds_toArray, List.set_cons_zero, List.set_cons_succ]
                refine wpAnyH_take (i := 4) (v := ?_) rfl (by kernel_rfl) (by kernel_rfl) (by kernel_rfl) (fun _ _ _ h => h) (Or.inl ⟨by rfl, ?_⟩) (by assumption) ?_
                rotate_left
                · (intro w hSw; (try dsimp only at hSw); simp only [List.getElem_toArray, List.getElem_cons_zero, List.getElem_cons_succ]; go_simp <;> with_reducible rfl)
                try simp only [Act.put, List.getElem_toArray, List.getElem_cons_zero, List.getElem_cons_succ, List.setIfInBounds_toArray, List.set_cons_zero, List.set_cons_succ]
                refine wpAnyH_take (i := 5) (v := ?_) rfl (by kernel_rfl) (by kernel_rfl) (by kernel_rfl) (fun _ _ _ h => h) (Or.inl ⟨by rfl, ?_⟩) (by assumption) ?_
                rotate_left
                · (intro w hSw; (try dsimp only at hSw); simp only [List.getElem_toArray, List.getElem_cons_zero, List.getElem_cons_succ]; go_simp <;> with_reducible rfl)
                try simp only [Act.put, List.getElem_toArray, List.getElem_cons_zero, List.getElem_cons_succ, List.setIfInBounds_toArray, List.set_cons_zero, List.set_cons_succ]
                refine wpAnyH_take (i := 11) (v := .bool false) rfl (by kernel_rfl) (by kernel_rfl) (by kernel_rfl) (fun _ _ _ h => h) (Or.inl ⟨by rfl, ?_⟩) (by assumption) ?_
                · (intro w hSw; (try dsimp only at hSw); simp only [List.getElem_toArray, List.getElem_cons_zero, List.getElem_cons_succ]; go_simp; try (rw [hbe]))
                try simp only [Act.put, List.getElem_toArray, List.getElem_cons_zero, List.getElem_cons_succ, List.setIfInBounds_toArray, List.set_cons_zero, List.set_cons_succ]
                refine wpAnyH_take (i := 12) (v := ?_) rfl (by kernel_rfl) (by kernel_rfl) (by kernel_rfl) (fun _ _ _ h => h) (Or.inl ⟨by rfl, ?_⟩) (by assumption) ?_
                rotate_left
                · (intro w hSw; (try dsimp only at hSw); simp only [List.getElem_toArray, List.getElem_cons_zero, List.getElem_cons_succ]; go_simp <;> with_reducible rfl)
                try simp only [Act.put, List.getElem_toArray, List.getElem_cons_zero, List.getElem_cons_succ, List.setIfInBounds_toArray, List.set_cons_zero, List.set_cons_succ]
                refine wpAnyH_take (i := 13) (v := undef) rfl (by kernel_rfl) (by kernel_rfl) (by kernel_rfl) (fun _ _ _ h => h) (Or.inr ⟨by rfl, rfl⟩) (by assumption) ?_
                try simp only [Act.put, List.getElem_toArray, List.getElem_cons_zero, List.getElem_cons_succ, List.setIfInBounds_toArray, List.set_cons_zero, List.set_cons_succ]
                refine wpAnyH_take (i := 14) (v := undef) rfl (by kernel_rfl) (by kernel_rfl) (by kernel_rfl) (fun _ _ _ h => h) (Or.inr ⟨by rfl, rfl⟩) (by assumption) ?_
                try simp only [Act.put, List.getElem_toArray, List.getElem_cons_zero, List.getElem_cons_succ, List.setIfInBounds_toArray, List.set_cons_zero, List.set_cons_succ]
                refine wpAnyH_take (i := 15) (v := undef) rfl (by kernel_rfl) (by kernel_rfl) (by kernel_rfl) (fun _ _ _ h => h) (Or.inr ⟨by rfl, rfl⟩) (by assumption) ?_
                try simp only [Act.put, List.getElem_toArray, List.getElem_cons_zero, List.getElem_cons_succ, List.setIfInBounds_toArray, List.set_cons_zero, List.set_cons_succ]
                refine wpAnyH_take (i := 16) (v := undef) rfl (by kernel_rfl) (by kernel_rfl) (by kernel_rfl) (fun _ _ _ h => h) (Or.inr ⟨by rfl, rfl⟩) (by assumption) ?_
                try simp only [Act.put, List.getElem_toArray, List.getElem_cons_zero, List.getElem_cons_succ, List.setIfInBounds_toArray, List.set_cons_zero, List.set_cons_succ]
                refine wpAnyH_take (i := 17) (v := undef) rfl (by kernel_rfl) (by kernel_rfl) (by kernel_rfl) (fun _ _ _ h => h) (Or.inr ⟨by rfl, rfl⟩) (by assumption) ?_
                try simp only [Act.put, List.getElem_toArray, List.getElem_cons_zero, List.getElem_cons_succ, List.setIfInBounds_toArray, List.set_cons_zero, List.set_cons_succ]
                refine wpAnyH_take (i := 18) (v := undef) rfl (by kernel_rfl) (by kernel_rfl) (by kernel_rfl) (fun _ _ _ h => h) (Or.inr ⟨by rfl, rfl⟩) (by assumption) ?_
                try simp only [Act.put, List.getElem_toArray, List.getElem_cons_zero, List.getElem_cons_succ, List.setIfInBounds_toArray, List.set_cons_zero, List.set_cons_succ]
                refine wpAnyH_take (i := 19) (v := undef) rfl (by kernel_rfl) (by kernel_rfl) (by kernel_rfl) (fun _ _ _ h => h) (Or.inr ⟨by rfl, rfl⟩) (by assumption) ?_
                try simp only [Act.put, List.getElem_toArray, List.getElem_cons_zero, List.getElem_cons_succ, List.setIfInBounds_toArray, List.set_cons_zero, List.set_cons_succ]
                refine wpAnyH_take (i := 20) (v := ?_) rfl (by kernel_rfl) (by kernel_rfl) (by kernel_rfl) (fun _ _ _ h => h) (Or.inl ⟨by rfl, ?_⟩) (by assumption) ?_
                rotate_left
                · (intro w hSw; (try dsimp only at hSw); simp only [List.getElem_toArray, List.getElem_cons_zero, List.getElem_cons_succ]; go_simp <;> with_reducible rfl)
                try simp only [Act.put, List.getElem_toArray, List.getElem_cons_zero, List.getElem_cons_succ, List.setIfInBounds_toArray, List.set_cons_zero, List.set_cons_succ]
                refine wpAnyH_done (by kernel_rfl) ?_ _
                go_wp2_with fail
                go_meet
                exact ⟨rfl, Lib.hid hQ⟩
              | true =>
                obtain rfl : fy = (k : Int) := of_decide_eq_true hpd.symm
                have hbe : ((k : Int) == (k : Int)) = true := beq_self_eq_true _
                by_cases hq : q < 0
                · have hqd : decide (q < 0) = true := decide_eq_true hq
                  obtain rfl : bb = true := by rw [← HBB.out]; simp [hq]
                  clear hpd HBB
                  go_wp2_with fail
                  refine wp_region_held_drew (S := (fun w' => w'.cell? ⟨w.heap.size, 0, none⟩ = some (.int .i64 (E : Int)) ∧ w'.cell? ⟨w.heap.size, 1, none⟩ = some (.slice (some ⟨g, 0, none⟩) L.length vc) ∧ w'.cell? ⟨fb, y, none⟩ = some (.int .i64 (k : Int)) ∧ w'.cell? ⟨fb, x, none⟩ = some (.int .i64 ((k : Int) + 1)))) (by kernel_rfl) (⟨hQ.cellF x0, hQ.cellF x1, hQ.cellF q1, hQ.cellF zx1⟩) (fun hHeld => ?_)
                  refine wpAnyH_take (i := 0) (v := ?_) rfl (by kernel_rfl) (by kernel_rfl) (by kernel_rfl) (fun _ _ _ h => h) (Or.inl ⟨by rfl, ?_⟩) (by assumption) ?_
                  rotate_left
                  · (intro w hSw; (try dsimp only at hSw); simp only [List.getElem_toArray, List.getElem_cons_zero, List.getElem_cons_succ]; go_simp <;> with_reducible rfl)
                  try simp only [Act.put, List.getElem_toArray, List.getElem_cons_zero, List.getElem_cons_succ, List.setIfInBounds_toArray, List.set_cons_zero, List.set_cons_succ]
                  refine wpAnyH_take (i := 1) (v := ?_) rfl (by kernel_rfl) (by kernel_rfl) (by kernel_rfl) (fun _ _ _ h => h) (Or.inl ⟨by rfl, ?_⟩) (by assumption) ?_
                  rotate_left
                  · (intro w hSw; (try dsimp only at hSw); simp only [List.getElem_toArray, List.getElem_cons_zero, List.getElem_cons_succ]; go_simp <;> with_reducible rfl)
                  try simp only [Act.put, List.getElem_toArray, List.getElem_cons_zero, List.getElem_cons_succ, List.setIfInBounds_toArray, List.set_cons_zero, List.set_cons_succ]
                  refine wpAnyH_take (i := 2) (v := ?_) rfl (by kernel_rfl) (by kernel_rfl) (by kernel_rfl) (fun _ _ _ h => h) (Or.inl ⟨by rfl, ?_⟩) (by assumption) ?_
                  rotate_left
                  · (intro w hSw; (try dsimp only at hSw); simp only [List.getElem_toArray, List.getElem_cons_zero, List.getElem_cons_succ]; go_simp <;> with_reducible rfl)
                  try simp only [Act.put, List.getElem_toArray, List.getElem_cons_zero, List.getElem_cons_succ, List.setIfInBounds_toArray, List.set_cons_zero, List.set_cons_succ]
                  refine wpAnyH_take (i := 6) (v := ?_) rfl (by kernel_rfl) (by kernel_rfl) (by kernel_rfl) (fun _ _ _ h => h) (Or.inl ⟨by rfl, ?_⟩) (by assumption) ?_
                  rotate_left
                  · (intro w hSw; (try dsimp only at hSw); simp only [List.getElem_toArray, List.getElem_cons_zero, List.getElem_cons_succ]; go_simp <;> with_reducible rfl)
                  try simp only [Act.put, List.getElem_toArray, List.getElem_cons_zero, List.getElem_cons_succ, List.setIfInBounds_toArray, List.set_cons_zero, List.set_cons_succ]
                  refine wpAnyH_take (i := 7) (v := ?_) rfl (by kernel_rfl) (by kernel_rfl) (by kernel_rfl) (fun _ _ _ h => h) (Or.inl ⟨by rfl, ?_⟩) (by assumption) ?_
                  rotate_left
                  · (intro w hSw; (try dsimp only at hSw); simp only [List.getElem_toArray, List.getElem_cons_zero, List.getElem_cons_succ]; go_simp <;> with_reducible rfl)
                  try simp only [Act.put, List.getElem_toArray, List.getElem_cons_zero, List.getElem_cons_succ, List.setIfInBounds_toArray, List.set_cons_zero, List.set_cons_succ]
                  refine wpAnyH_take (i := 8) (v := ?_) rfl (by kernel_rfl) (by kernel_rfl) (by kernel_rfl) (fun _ _ _ h => h) (Or.inl ⟨by rfl, ?_⟩) (by assumption) ?_
                  rotate_left
                  · (intro w hSw; (try dsimp only at hSw); simp only [List.getElem_toArray, List.getElem_cons_zero, List.getElem_cons_succ]; go_simp <;> with_reducible rfl)
                  try simp only [Act.put, List.getElem_toArray, List.getElem_cons_zero, List.getElem_cons_succ, List.setIfInBounds_toArray, List.set_cons_zero, List.set_cons_succ]
                  refine wpAnyH_take (i := 9) (v := ?_) rfl (by kernel_rfl) (by kernel_rfl) (by kernel_rfl) (fun _ _ _ h => h) (Or.inl ⟨by rfl, ?_⟩) (by assumption) ?_
                  rotate_left
                  · (intro w hSw; (try dsimp only at hSw); simp only [List.getElem_toArray, List.getElem_cons_zero, List.getElem_cons_succ]; go_simp <;> with_reducible rfl)
                  try simp only [Act.put, List.getElem_toArray, List.getElem_cons_zero, List.getElem_cons_succ, List.setIfInBounds_toArray, List.set_cons_zero, List.set_cons_succ]
                  refine wpAnyH_take (i := 10) (v := .int .i64 (k : Int)) rfl (by kernel_rfl) (by kernel_rfl) (by kernel_rfl) (fun _ _ _ h => h) (Or.inl ⟨by rfl, ?_⟩) (by assumption) ?_
                  · (intro w hSw; (try dsimp only at hSw); simp only [List.getElem_toArray, List.getElem_cons_zero, List.getElem_cons_succ]; go_simp; try (first | rw [hw1] | rw [hw2] | simp only [hw1, hw2]))
                  try simp only [Act.put, List.getElem_toArray, List.getElem_cons_zero, List.getElem_cons_succ, List.setIfInBounds_toArray, List.set_cons_zero, List.set_cons_succ]
                  refine wpAnyH_ready (rs := [3]) (by kernel_rfl) (by simp) (AllReadyH.cons rfl (fun K hK => ?_) AllReadyH.nil)
                  try simp only [List.getElem_toArray, List.getElem_cons_zero, List.getElem_cons_succ]
                  go_simp
                  with_reducible refine (HKE.out _ hQ).mono ?_
                  rintro e5 w5 ⟨rfl, hk5⟩
                  replace hQ : Keeps (fun _ => False) wr w5 := hQ.trans' hk5
                  try go_wp2_with fail
                  refine hK.out _ _ ?_ (fun hHeld => ?_)
                  · exact ⟨hQ.cellF x0, hQ.cellF x1, hQ.cellF q1, hQ.cellF zx1⟩
                  clear hK K
                  try simp only [Act.put, List.getElem_toArray, List.getElem_cons_zero, List.getElem_cons_succ, List.setIfInBounds_toArray, List.set_cons_zero, List.set_cons_succ]
                  refine wpAnyH_take (i := 4) (v := ?_) rfl (by kernel_rfl) (by kernel_rfl) (by kernel_rfl) (fun _ _ _ h => h) (Or.inl ⟨by rfl, ?_⟩) (by assumption) ?_
                  rotate_left
                  · (intro w hSw; (try dsimp only at hSw); simp only [List.getElem_toArray, List.getElem_cons_zero, List.getElem_cons_succ]; go_simp <;> with_reducible rfl)
                  try simp only [Act.put, List.getElem_toArray, List.getElem_cons_zero, List.getElem_cons_succ, List.setIfInBounds_toArray, List.set_cons_zero, List.set_cons_succ]
                  refine wpAnyH_take (i := 5) (v := ?_) rfl (by kernel_rfl) (by kernel_rfl) (by kernel_rfl) (fun _ _ _ h => h) (Or.inl ⟨by rfl, ?_⟩) (by assumption) ?_
                  rotate_left
                  · (intro w hSw; (try dsimp only at hSw); simp only [List.getElem_toArray, List.getElem_cons_zero, List.getElem_cons_succ]; go_simp <;> with_reducible rfl)
                  try simp only [Act.put, List.getElem_toArray, List.getElem_cons_zero, List.getElem_cons_succ, List.setIfInBounds_toArray, List.set_cons_zero, List.set_cons_succ]
                  refine wpAnyH_take (i := 11) (v := .bool true) rfl (by kernel_rfl) (by kernel_rfl) (by kernel_rfl) (fun _ _ _ h => h) (Or.inl ⟨by rfl, ?_⟩) (by assumption) ?_
                  · (intro w hSw; (try dsimp only at hSw); simp only [List.getElem_toArray, List.getElem_cons_zero, List.getElem_cons_succ]; go_simp; try (rw [hbe]))
                  try simp only [Act.put, List.getElem_toArray, List.getElem_cons_zero, List.getElem_cons_succ, List.setIfInBounds_toArray, List.set_cons_zero, List.set_cons_succ]
                  refine wpAnyH_take (i := 12) (v := ?_) rfl (by kernel_rfl) (by kernel_rfl) (by kernel_rfl) (fun _ _ _ h => h) (Or.inl ⟨by rfl, ?_⟩) (by assumption) ?_
                  rotate_left
                  · (intro w hSw; (try dsimp only at hSw); simp only [List.getElem_toArray, List.getElem_cons_zero, List.getElem_cons_succ]; go_simp <;> with_reducible rfl)
                  try simp only [Act.put, List.getElem_toArray, List.getElem_cons_zero, List.getElem_cons_succ, List.setIfInBounds_toArray, List.set_cons_zero, List.set_cons_succ]
                  refine wpAnyH_take (i := 13) (v := ?_) rfl (by kernel_rfl) (by kernel_rfl) (by kernel_rfl) (fun _ _ _ h => h) (Or.inl ⟨by rfl, ?_⟩) (by assumption) ?_
                  rotate_left
                  · (intro w hSw; (try dsimp only at hSw); simp only [List.getElem_toArray, List.getElem_cons_zero, List.getElem_cons_succ]; go_simp <;> with_reducible rfl)
                  try simp only [Act.put, List.getElem_toArray, List.getElem_cons_zero, List.getElem_cons_succ, List.setIfInBounds_toArray, List.set_cons_zero, List.set_cons_succ]
                  refine wpAnyH_take (i := 14) (v := .bool true) rfl (by kernel_rfl) (by kernel_rfl) (by kernel_rfl) (fun _ _ _ h => h) (Or.inl ⟨by rfl, ?_⟩) (by assumption) ?_
                  · (intro w hSw; (try dsimp only at hSw); simp only [List.getElem_toArray, List.getElem_cons_zero, List.getElem_cons_succ]; go_simp; try (rw [hqd]))
                  try simp only [Act.put, List.getElem_toArray, List.getElem_cons_zero, List.getElem_cons_succ, List.setIfInBounds_toArray, List.set_cons_zero, List.set_cons_succ]
                  refine wpAnyH_take (i := 15) (v := ?_) rfl (by kernel_rfl) (by kernel_rfl) (by kernel_rfl) (fun _ _ _ h => h) (Or.inl ⟨by rfl, ?_⟩) (by assumption) ?_
                  rotate_left
                  · (intro w hSw; (try dsimp only at hSw); simp only [List.getElem_toArray, List.getElem_cons_zero, List.getElem_cons_succ]; go_simp <;> with_reducible rfl)
                  try simp only [Act.put, List.getElem_toArray, List.getElem_cons_zero, List.getElem_cons_succ, List.setIfInBounds_toArray, List.set_cons_zero, List.set_cons_succ]
                  refine wpAnyH_take (i := 16) (v := undef) rfl (by kernel_rfl) (by kernel_rfl) (by kernel_rfl) (fun _ _ _ h => h) (Or.inr ⟨by rfl, rfl⟩) (by assumption) ?_
                  try simp only [Act.put, List.getElem_toArray, List.getElem_cons_zero, List.getElem_cons_succ, List.setIfInBounds_toArray, List.set_cons_zero, List.set_cons_succ]
                  refine wpAnyH_take (i := 17) (v := undef) rfl (by kernel_rfl) (by kernel_rfl) (by kernel_rfl) (fun _ _ _ h => h) (Or.inr ⟨by rfl, rfl⟩) (by assumption) ?_
                  try simp only [Act.put, List.getElem_toArray, List.getElem_cons_zero, List.getElem_cons_succ, List.setIfInBounds_toArray, List.set_cons_zero, List.set_cons_succ]
                  refine wpAnyH_take (i := 18) (v := undef) rfl (by kernel_rfl) (by kernel_rfl) (by kernel_rfl) (fun _ _ _ h => h) (Or.inr ⟨by rfl, rfl⟩) (by assumption) ?_
                  try simp only [Act.put, List.getElem_toArray, List.getElem_cons_zero, List.getElem_cons_succ, List.setIfInBounds_toArray, List.set_cons_zero, List.set_cons_succ]
                  refine wpAnyH_take (i := 19) (v := ?_) rfl (by kernel_rfl) (by kernel_rfl) (by kernel_rfl) (fun _ _ _ h => h) (Or.inl ⟨by rfl, ?_⟩) (by assumption) ?_
                  rotate_left
                  · (intro w hSw; (try dsimp only at hSw); simp only [List.getElem_toArray, List.getElem_cons_zero, List.getElem_cons_succ]; go_simp <;> with_reducible rfl)
                  try simp only [Act.put, List.getElem_toArray, List.getElem_cons_zero, List.getElem_cons_succ, List.setIfInBounds_toArray, List.set_cons_zero, List.set_cons_succ]
                  refine wpAnyH_take (i := 20) (v := ?_) rfl (by kernel_rfl) (by kernel_rfl) (by kernel_rfl) (fun _ _ _ h => h) (Or.inl ⟨by rfl, ?_⟩) (by assumption) ?_
                  rotate_left
                  · (intro w hSw; (try dsimp only at hSw); simp only [List.getElem_toArray, List.getElem_cons_zero, List.getElem_cons_succ]; go_simp <;> with_reducible rfl)
                  try simp only [Act.put, List.getElem_toArray, List.getElem_cons_zero, List.getElem_cons_succ, List.setIfInBounds_toArray, List.set_cons_zero, List.set_cons_succ]
                  refine wpAnyH_done (by kernel_rfl) ?_ _
                  go_wp2_with fail
                  go_meet
                  exact ⟨rfl, Lib.hid hQ⟩
                · have hqd : decide (q < 0) = false := decide_eq_false hq
                  have hbd2 : decide ((d : Int) < q) = bb := by rw [← HBB.out]; simp [hq]
                  clear hpd HBB
                  go_wp2_with fail
                  refine wp_region_held_drew (S := (fun w' => w'.cell? ⟨w.heap.size, 0, none⟩ = some (.int .i64 (E : Int)) ∧ w'.cell? ⟨w.heap.size, 1, none⟩ = some (.slice (some ⟨g, 0, none⟩) L.length vc) ∧ w'.cell? ⟨fb, y, none⟩ = some (.int .i64 (k : Int)) ∧ w'.cell? ⟨fb, x, none⟩ = some (.int .i64 ((k : Int) + 1)))) (by kernel_rfl) (⟨hQ.cellF x0, hQ.cellF x1, hQ.cellF q1, hQ.cellF zx1⟩) (fun hHeld => ?_)
                  refine wpAnyH_take (i := 0) (v := ?_) rfl (by kernel_rfl) (by kernel_rfl) (by kernel_rfl) (fun _ _ _ h => h) (Or.inl ⟨by rfl, ?_⟩) (by assumption) ?_
                  rotate_left
                  · (intro w hSw; (try dsimp only at hSw); simp only [List.getElem_toArray, List.getElem_cons_zero, List.getElem_cons_succ]; go_simp <;> with_reducible rfl)
                  try simp only [Act.put, List.getElem_toArray, List.getElem_cons_zero, List.getElem_cons_succ, List.setIfInBounds_toArray, List.set_cons_zero, List.set_cons_succ]
                  refine wpAnyH_take (i := 1) (v := ?_) rfl (by kernel_rfl) (by kernel_rfl) (by kernel_rfl) (fun _ _ _ h => h) (Or.inl ⟨by rfl, ?_⟩) (by assumption) ?_
                  rotate_left
                  · (intro w hSw; (try dsimp only at hSw); simp only [List.getElem_toArray, List.getElem_cons_zero, List.getElem_cons_succ]; go_simp <;> with_reducible rfl)
                  try simp only [Act.put, List.getElem_toArray, List.getElem_cons_zero, List.getElem_cons_succ, List.setIfInBounds_toArray, List.set_cons_zero, List.set_cons_succ]
                  refine wpAnyH_take (i := 2) (v := ?_) rfl (by kernel_rfl) (by kernel_rfl) (by kernel_rfl) (fun _ _ _ h => h) (Or.inl ⟨by rfl, ?_⟩) (by assumption) ?_
                  rotate_left
                  · (intro w hSw; (try dsimp only at hSw); simp only [List.getElem_toArray, List.getElem_cons_zero, List.getElem_cons_succ]; go_simp <;> with_reducible rfl)
                  try simp only [Act.put, List.getElem_toArray, List.getElem_cons_zero, List.getElem_cons_succ, List.setIfInBounds_toArray, List.set_cons_zero, List.set_cons_succ]
                  refine wpAnyH_take (i := 6) (v := ?_) rfl (by kernel_rfl) (by kernel_rfl) (by kernel_rfl) (fun _ _ _ h => h) (Or.inl ⟨by rfl, ?_⟩) (by assumption) ?_
                  rotate_left
                  · (intro w hSw; (try dsimp only at hSw); simp only [List.getElem_toArray, List.getElem_cons_zero, List.getElem_cons_succ]; go_simp <;> with_reducible rfl)
                  try simp only [Act.put, List.getElem_toArray, List.getElem_cons_zero, List.getElem_cons_succ, List.setIfInBounds_toArray, List.set_cons_zero, List.set_cons_succ]
                  refine wpAnyH_take (i := 7) (v := ?_) rfl (by kernel_rfl) (by kernel_rfl) (by kernel_rfl) (fun _ _ _ h => h) (Or.inl ⟨by rfl, ?_⟩) (by assumption) ?_
                  rotate_left
                  · (intro w hSw; (try dsimp only at hSw); simp only [List.getElem_toArray, List.getElem_cons_zero, List.getElem_cons_succ]; go_simp <;> with_reducible rfl)
                  try simp only [Act.put, List.getElem_toArray, List.getElem_cons_zero, List.getElem_cons_succ, List.setIfInBounds_toArray, List.set_cons_zero, List.set_cons_succ]
                  refine wpAnyH_take (i := 8) (v := ?_) rfl (by kernel_rfl) (by kernel_rfl) (by kernel_rfl) (fun _ _ _ h => h) (Or.inl ⟨by rfl, ?_⟩) (by assumption) ?_
                  rotate_left
                  · (intro w hSw; (try dsimp only at hSw); simp only [List.getElem_toArray, List.getElem_cons_zero, List.getElem_cons_succ]; go_simp <;> with_reducible rfl)
                  try simp only [Act.put, List.getElem_toArray, List.getElem_cons_zero, List.getElem_cons_succ, List.setIfInBounds_toArray, List.set_cons_zero, List.set_cons_succ]
                  refine wpAnyH_take (i := 9) (v := ?_) rfl (by kernel_rfl) (by kernel_rfl) (by kernel_rfl) (fun _ _ _ h => h) (Or.inl ⟨by rfl, ?_⟩) (by assumption) ?_
                  rotate_left
                  · (intro w hSw; (try dsimp only at hSw); simp only [List.getElem_toArray, List.getElem_cons_zero, List.getElem_cons_succ]; go_simp <;> with_reducible rfl)
                  try simp only [Act.put, List.getElem_toArray, List.getElem_cons_zero, List.getElem_cons_succ, List.setIfInBounds_toArray, List.set_cons_zero, List.set_cons_succ]
                  refine wpAnyH_take (i := 10) (v := .int .i64 (k : Int)) rfl (by kernel_rfl) (by kernel_rfl) (by kernel_rfl) (fun _ _ _ h => h) (Or.inl ⟨by rfl, ?_⟩) (by assumption) ?_
                  · (intro w hSw; (try dsimp only at hSw); simp only [List.getElem_toArray, List.getElem_cons_zero, List.getElem_cons_succ]; go_simp; try (first | rw [hw1] | rw [hw2] | simp only [hw1, hw2]))
                  try simp only [Act.put, List.getElem_toArray, List.getElem_cons_zero, List.getElem_cons_succ, List.setIfInBounds_toArray, List.set_cons_zero, List.set_cons_succ]
                  refine wpAnyH_ready (rs := [3]) (by kernel_rfl) (by simp) (AllReadyH.cons rfl (fun K hK => ?_) AllReadyH.nil)
                  try simp only [List.getElem_toArray, List.getElem_cons_zero, List.getElem_cons_succ]
                  go_simp
                  with_reducible refine (HKE.out _ hQ).mono ?_
                  rintro e5 w5 ⟨rfl, hk5⟩
                  replace hQ : Keeps (fun _ => False) wr w5 := hQ.trans' hk5
                  try go_wp2_with fail
                  refine hK.out _ _ ?_ (fun hHeld => ?_)
                  · exact ⟨hQ.cellF x0, hQ.cellF x1, hQ.cellF q1, hQ.cellF zx1⟩
                  clear hK K
                  try simp only [Act.put, List.getElem_toArray, List.getElem_cons_zero, List.getElem_cons_succ, List.setIfInBounds_toArray, List.set_cons_zero, List.set_cons_succ]
                  refine wpAnyH_take (i := 4) (v := ?_) rfl (by kernel_rfl) (by kernel_rfl) (by kernel_rfl) (fun _ _ _ h => h) (Or.inl ⟨by rfl, ?_⟩) (by assumption) ?_
                  rotate_left
                  · (intro w hSw; (try dsimp only at hSw); simp only [List.getElem_toArray, List.getElem_cons_zero, List.getElem_cons_succ]; go_simp <;> with_reducible rfl)
                  try simp only [Act.put, List.getElem_toArray, List.getElem_cons_zero, List.getElem_cons_succ, List.setIfInBounds_toArray, List.set_cons_zero, List.set_cons_succ]
                  refine wpAnyH_take (i := 5) (v := ?_) rfl (by kernel_rfl) (by kernel_rfl) (by kernel_rfl) (fun _ _ _ h => h) (Or.inl ⟨by rfl, ?_⟩) (by assumption) ?_
                  rotate_left
                  · (intro w hSw; (try dsimp only at hSw); simp only [List.getElem_toArray, List.getElem_cons_zero, List.getElem_cons_succ]; go_simp <;> with_reducible rfl)
                  try simp only [Act.put, List.getElem_toArray, List.getElem_cons_zero, List.getElem_cons_succ, List.setIfInBounds_toArray, List.set_cons_zero, List.set_cons_succ]
                  refine wpAnyH_take (i := 11) (v := .bool true) rfl (by kernel_rfl) (by kernel_rfl) (by kernel_rfl) (fun _ _ _ h => h) (Or.inl ⟨by rfl, ?_⟩) (by assumption) ?_
                  · (intro w hSw; (try dsimp only at hSw); simp only [List.getElem_toArray, List.getElem_cons_zero, List.getElem_cons_succ]; go_simp; try (rw [hbe]))
                  try simp only [Act.put, List.getElem_toArray, List.getElem_cons_zero, List.getElem_cons_succ, List.setIfInBounds_toArray, List.set_cons_zero, List.set_cons_succ]
                  refine wpAnyH_take (i := 12) (v := ?_) rfl (by kernel_rfl) (by kernel_rfl) (by kernel_rfl) (fun _ _ _ h => h) (Or.inl ⟨by rfl, ?_⟩) (by assumption) ?_
                  rotate_left
                  · (intro w hSw; (try dsimp only at hSw); simp only [List.getElem_toArray, List.getElem_cons_zero, List.getElem_cons_succ]; go_simp <;> with_reducible rfl)
                  try simp only [Act.put, List.getElem_toArray, List.getElem_cons_zero, List.getElem_cons_succ, List.setIfInBounds_toArray, List.set_cons_zero, List.set_cons_succ]
                  refine wpAnyH_take (i := 13) (v := ?_) rfl (by kernel_rfl) (by kernel_rfl) (by kernel_rfl) (fun _ _ _ h => h) (Or.inl ⟨by rfl, ?_⟩) (by assumption) ?_
                  rotate_left
                  · (intro w hSw; (try dsimp only at hSw); simp only [List.getElem_toArray, List.getElem_cons_zero, List.getElem_cons_succ]; go_simp <;> with_reducible rfl)
                  try simp only [Act.put, List.getElem_toArray, List.getElem_cons_zero, List.getElem_cons_succ, List.setIfInBounds_toArray, List.set_cons_zero, List.set_cons_succ]
                  refine wpAnyH_take (i := 14) (v := .bool false) rfl (by kernel_rfl) (by kernel_rfl) (by kernel_rfl) (fun _ _ _ h => h) (Or.inl ⟨by rfl, ?_⟩) (by assumption) ?_
                  · (intro w hSw; (try dsimp only at hSw); simp only [List.getElem_toArray, List.getElem_cons_zero, List.getElem_cons_succ]; go_simp; try (rw [hqd]))
                  try simp only [Act.put, List.getElem_toArray, List.getElem_cons_zero, List.getElem_cons_succ, List.setIfInBounds_toArray, List.set_cons_zero, List.set_cons_succ]
                  refine wpAnyH_take (i := 15) (v := ?_) rfl (by kernel_rfl) (by kernel_rfl) (by kernel_rfl) (fun _ _ _ h => h) (Or.inl ⟨by rfl, ?_⟩) (by assumption) ?_
                  rotate_left
                  · (intro w hSw; (try dsimp only at hSw); simp only [List.getElem_toArray, List.getElem_cons_zero, List.getElem_cons_succ]; go_simp <;> with_reducible rfl)
                  try simp only [Act.put, List.getElem_toArray, List.getElem_cons_zero, List.getElem_cons_succ, List.setIfInBounds_toArray, List.set_cons_zero, List.set_cons_succ]
                  refine wpAnyH_take (i := 16) (v := ?_) rfl (by kernel_rfl) (by kernel_rfl) (by kernel_rfl) (fun _ _ _ h => h) (Or.inl ⟨by rfl, ?_⟩) (by assumption) ?_
                  rotate_left
                  · (intro w hSw; (try dsimp only at hSw); simp only [List.getElem_toArray, List.getElem_cons_zero, List.getElem_cons_succ]; go_simp <;> with_reducible rfl)
                  try simp only [Act.put, List.getElem_toArray, List.getElem_cons_zero, List.getElem_cons_succ, List.setIfInBounds_toArray, List.set_cons_zero, List.set_cons_succ]
                  refine wpAnyH_take (i := 17) (v := ?_) rfl (by kernel_rfl) (by kernel_rfl) (by kernel_rfl) (fun _ _ _ h => h) (Or.inl ⟨by rfl, ?_⟩) (by assumption) ?_
                  rotate_left
                  · (intro w hSw; (try dsimp only at hSw); simp only [List.getElem_toArray, List.getElem_cons_zero, List.getElem_cons_succ]; go_simp <;> with_reducible rfl)
                  try simp only [Act.put, List.getElem_toArray, List.getElem_cons_zero, List.getElem_cons_succ, List.setIfInBounds_toArray, List.set_cons_zero, List.set_cons_succ]
                  refine wpAnyH_take (i := 18) (v := .bool bb) rfl (by kernel_rfl) (by kernel_rfl) (by kernel_rfl) (fun _ _ _ h => h) (Or.inl ⟨by rfl, ?_⟩) (by assumption) ?_
                  · (intro w hSw; (try dsimp only at hSw); simp only [List.getElem_toArray, List.getElem_cons_zero, List.getElem_cons_succ]; go_simp; try (rw [hbd2]))
                  try simp only [Act.put, List.getElem_toArray, List.getElem_cons_zero, List.getElem_cons_succ, List.setIfInBounds_toArray, List.set_cons_zero, List.set_cons_succ]
                  refine wpAnyH_take (i := 19) (v := ?_) rfl (by kernel_rfl) (by kernel_rfl) (by kernel_rfl) (fun _ _ _ h => h) (Or.inl ⟨by rfl, ?_⟩) (by assumption) ?_
                  rotate_left
                  · (intro w hSw; (try dsimp only at hSw); simp only [List.getElem_toArray, List.getElem_cons_zero, List.getElem_cons_succ]; go_simp <;> with_reducible rfl)
                  try simp only [Act.put, List.getElem_toArray, List.getElem_cons_zero, List.getElem_cons_succ, List.setIfInBounds_toArray, List.set_cons_zero, List.set_cons_succ]
                  refine wpAnyH_take (i := 20) (v := ?_) rfl (by kernel_rfl) (by kernel_rfl) (by kernel_rfl) (fun _ _ _ h => h) (Or.inl ⟨by rfl, ?_⟩) (by assumption) ?_
                  rotate_left
                  · (intro w hSw; (try dsimp only at hSw); simp only [List.getElem_toArray, List.getElem_cons_zero, List.getElem_cons_succ]; go_simp <;> with_reducible rfl)
                  try simp only [Act.put, List.getElem_toArray, List.getElem_cons_zero, List.getElem_cons_succ, List.setIfInBounds_toArray, List.set_cons_zero, List.set_cons_succ]
                  refine wpAnyH_done (by kernel_rfl) ?_ _
                  go_wp2_with fail
                  go_meet
                  exact ⟨rfl, Lib.hid hQ⟩
            case rest =>
              obtain ⟨rfl, HK5⟩ := hcut
              have HKN := Lib.hid (HKI.out.trans' HK5.out)
              clear HKE HK5 HKI HRW HDS hcd hrc q1 zx1 x0 x1 hpd hQ HWO hbd hyI
              cases bb with
              | true =>
                have hN : atL P (row.take (j + 1)) = (d : Int) := by
                  rw [HAT1.out, if_pos (of_decide_eq_true HBB.out)]
                clear HAT1 HBB
                go_wp2_with fail
                exact ⟨⟨j + 1, by omega, by simp, by rw [hN], HKN⟩, by simp [intOf]; omega⟩
              | false =>
                have hN : atL P (row.take (j + 1)) = q := by
                  rw [HAT1.out, if_neg (of_decide_eq_false HBB.out)]
                clear HAT1 HBB
                go_wp2_with fail
                exact ⟨⟨j + 1, by omega, by simp, by rw [hN], HKN⟩, by simp [intOf]; omega⟩
          · obtain rfl : j = row.length := by omega
            have hjI : ¬ ((row.length : Int) < (row.length : Int)) := Int.lt_irrefl _
            rw [List.take_length, HLE.out]
            have HKW := Lib.hid (HKP.out.trans' HKI.out)
            have HEN2 := Lib.hid fun W (hk : Keeps (fun _ => False) w3 W) => HEN.out W (HK30.out _ hk) sd HSD.out.1
            have hown := ownsRow_kept HRO.out HKI.out fun _ _ q => q
            have HOW := Lib.hid hown
            have hmN : m ≤ 1048576 := by omega
            have HB6 : Hid (w3.heap.size ≤ wr.heap.size) := Lib.hid HKW.out.size
            have HYL : Hid (De L sd < L.length ∧ f.getD (De L sd) 0 = (k : Int)) := Lib.hid HSD.out.2
            have HBXW := Lib.hid fun W (hk : Keeps (fun _ => False) w3 W) => HBX.out W hk
            clear HLE HRW HDS HKI hrd HPD HKP HRO HSD
            generalize De L sd = y at *
            go_upto_region 13 with fail
            clear hrc zx1
            go_wp2_with (first | (at_builtin; refine wpList_app1 rfl _ _ 23 rfl w3.heap.size 3 i0 (.int .i64 0) 1 8 Tryd.underlying23 hi hz0 hz1 hz2 rfl (by decide) _ _ _ rfl hown _ 1 1 [.int .i64 (sd : Int)] 3 rfl rfl rfl ?c1 ?c2 ?c3 ?c4 ?_))
            case c1 => simp [Value.oneCell']
            case c2 => unfold maxLen; omega
            case c3 => omega
            case c4 => exact HB6.out
            intro v7 w7 ho7 hk7 hb7 _ _
            obtain ⟨g7, c7, rfl, _⟩ := ho7.form (Nat.succ_pos _)
            have HKP7 : Hid (Keeps (fun _ => False) w3 w7) := Lib.hid (HKW.out.trans hk7 fun q hq e => absurd (HOW.out.lt q e).1 (Nat.not_le.2 hq))
            have HO7 := Lib.hid ho7
            obtain ⟨v0, v1⟩ := HBX.out _ HKP7.out
            have HE7 := Lib.hid (HEN2.out w7 HKP7.out)
            clear ho7 hk7 hb7 hown HKW HOW HEN2 x0 x1
            go_wp2_with (go_at_call 68; with_reducible refine HE7.out.mono ?_; rintro e5 w8 ⟨rfl, hk8⟩; have HK8 := Lib.hid hk8; clear hk8 HE7 v0 v1)
            have HN : Hid (RrAt w3 L f R y (m + 1) k (.slice (some ⟨g7, 0, none⟩) (m + 1) c7) w8) := Lib.hid ⟨⟨l ++ [sd], HLR2.out, by rw [List.length_append, ← HML.out]; rfl, by rw [nats_append]; exact ownsRow_kept HO7.out HK8.out fun _ _ q => q⟩, HYL.out.2, HKP7.out.trans' HK8.out⟩
            have hyl := HYL.out.1
            clear HO7 HKP7 HK8 HLR2 HML HYL
            go_roundg k
            case measure => omega
            case rel => exact ⟨y, m + 1, _, c7, rfl, hyl, rfl, HN⟩
end
end Go.Proofs.YtdplphhlclhmfaaDoor
