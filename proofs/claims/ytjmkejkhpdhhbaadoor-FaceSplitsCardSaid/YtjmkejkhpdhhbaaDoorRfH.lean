/- The document's Lift. -/
import Derived.Test.YtjmkejkhpdhhbaaDoorRfG
namespace Go.Proofs.YtjmkejkhpdhhbaaDoor
open Go Go.RowKit
set_option linter.unusedVariables false
set_option linter.unusedSimpArgs false
set_option maxRecDepth 100000
theorem delRow {w : World} {B i : Nat} {l : List Nat} {v v1 : Value} (h : w.ownsRow B 3 1 v (0 + i + (l.length - (i + 1))) ([] ++ nats (l.take i) ++ nats (l.drop (i + 1))))
    (hn1 : v1 = .slice none 0 0 ↔ Value.slice none 0 0 = .slice none 0 0 ∧ i = 0) (hn2 : v = .slice none 0 0 ↔ v1 = .slice none 0 0 ∧ l.length - (i + 1) = 0) (hi : i < l.length) : LRow w B v (l.take i ++ l.drop (i + 1)) := by
  have e1 : (l.take i ++ l.drop (i + 1)).length = 0 + i + (l.length - (i + 1)) := by simp; omega
  refine ⟨?_, fun e => ?_⟩
  · rw [e1, nats_append]
    simpa using h
  · rw [e] at e1
    simp only [List.length_nil] at e1
    exact hn2.2 ⟨hn1.2 ⟨rfl, by omega⟩, by omega⟩
section
variable {w : World} {B E : Nat} {v : Value} {L : List (List Nat)}
set_option maxHeartbeats 2000000 in
theorem rlift (h : LsRow w B v L) (hg : Good E L) (h0 : 0 < L.length) (hV : L.length ≤ 1048576) (hE : E ≤ 1048576) (e : Int) :
    Calls Tryd.prog 55 #[rval E v, .int .i64 e] w (RLPost E B (lift E L e) (liftErr E L e : Nat) w) := by
  have hw := hg.toWF
  obtain ⟨i0, hi, hz0, hz1, hz2⟩ := info_parts infoI
  have HI := Lib.hid hi
  clear hi
  obtain ⟨va, vc, hv⟩ := h.form
  subst hv
  generalize hW : (w.alloc (.cells #[.int .i64 (E : Int), .slice va L.length vc] 32)).alloc (.cells #[.int .i64 0, .slice none 0 0] 32) = w0
  have hK0 : Keeps (fun _ => False) w w0 := by rw [← hW]; exact ((Keeps.refl _ _).alloc _).alloc _
  have HS : Hid (LiftAt w B E L va vc w0) := ⟨by rw [← hW]; exact (Blk.new w _ _).alloc _, by rw [← hW]; exact Blk.newAt _ _ _ (by simp), h.keep hK0, hK0⟩
  have hbw : w.heap.size ≤ w.heap.size + 1 := Nat.le_succ _
  clear hK0
  unfold lift
  by_cases hr1 : e < 0 ∨ (E : Int) ≤ e
  · have hle : liftErr E L e = 12 := by unfold liftErr; rw [if_pos hr1]
    rw [hle, if_neg (by decide)]
    clear hle
    unfold rval RLPost at *
    rcases (show e < 0 ∨ 0 ≤ e ∧ (E : Int) ≤ e by omega) with h2 | ⟨h2, h3⟩
    case' inl => have hd0 : decide (e < 0) = true := by simp; exact h2
    case' inr => (have hd0 : decide (e < 0) = false := by simp; exact h2); have hd1 : decide ((E : Int) ≤ e) = true := by simp; exact h3
    all_goals
      go_enter Tryd.func55, Tryd.ntmps55
      go_upto_region 1 with fail
      clear hW
      have t0 := HS.out.t.cell (i := 0)
      have t1 := HS.out.t.cell (i := 1)
      have r0 := HS.out.r.cell (i := 0)
      have r1 := HS.out.r.cell (i := 1)
      have q0 := HS.out.r.free 0
      have q1 := HS.out.r.free 1
      have rl := HS.out.r.lt
      simp only [List.getElem?_toArray, List.getElem?_cons_zero, List.getElem?_cons_succ] at t0 t1 r0 r1
      have HE := rl_end (E := E) HS.out.k HS.out.l HS.out.r hbw rfl
      go_wp2_with fail
      generalize (World.setCell _ _ _).setCell _ (.slice _ _ _) = WW at *
      have k0 := HE.out.1.cell (i := 0)
      have k1 := HE.out.1.cell (i := 1)
      refine bodyPost_ret (v := .tuple #[rval E (.slice va L.length vc), .int .i64 12]) (by simp at k0 k1; simp [results, Tryd.results55, go_sem, k0, k1, rval]) rfl ?_
      exact ⟨_, rfl, HE.out.2⟩
  · obtain ⟨n, rfl⟩ := Int.eq_ofNat_of_zero_le (show 0 ≤ e by omega)
    have hn : n < E := by omega
    have hd0 : decide ((n : Int) < 0) = false := by simp
    have hd1 : decide ((E : Int) ≤ (n : Int)) = false := by simp; omega
    have hd1n : decide (E ≤ n) = false := by simp; omega
    have hle : liftErr E L n = if Stands L (2 * n) then 0 else 13 := by unfold liftErr; rw [if_neg hr1, Int.toNat_natCast]
    by_cases hs : Stands L (2 * n)
    · rw [hle, if_pos hs, if_pos rfl, Int.toNat_natCast]
      clear hle h
      unfold rval RLPost at *
      go_enter Tryd.func55, Tryd.ntmps55
      go_upto_region 1 with fail
      clear hW
      have t0 := HS.out.t.cell (i := 0)
      have t1 := HS.out.t.cell (i := 1)
      simp only [List.getElem?_toArray, List.getElem?_cons_zero, List.getElem?_cons_succ] at t0 t1
      go_wp2_with fail
      go_loopw [6] (fun i wr => ∃ (k : Nat) (a : Option Addr) (c : Nat), k ≤ 2 ∧ i = .int .i64 (k : Int) ∧ Hid (LiftAt w B E (LK L n k) a c wr)) (fun i _ => 2 - (intOf i).toNat)
      case atStart => exact ⟨0, va, vc, by omega, rfl, HS⟩
      case round =>
        clear t0 t1 HS
        obtain ⟨k, a, c, hk, rfl, HS⟩ := hrel
        by_cases hk2 : k < 2
        · have hwk := LK_wf hw n k
          have hlk := LK_length L n k
          obtain ⟨x, l, i, hlx, hil, hdi⟩ := stands_ex (LK_stands hg hs hk2)
          have HF := Lib.hid (rfind HS.out.l hwk (by rw [hlk]; exact h0) (by rw [hlk]; exact hV) hE (2 * (n : Int) + (k : Int)))
          have ed : (2 * (n : Int) + (k : Int)) = ((l.getD i 0 : Nat) : Int) := by rw [hdi]; omega
          have ef := fnd_hit hwk hlx hil
          rw [← ed] at ef
          rw [ef.1, ef.2] at HF
          have hset := remL_set hwk hlx hil
          rw [hdi, LK_step L n k hk2] at hset
          have hxl := (List.getElem?_eq_some_iff.1 hlx).1
          have HWI := Lib.hid (fun W (hk : Keeps (fun _ => False) wr W) (u : Value) (hu : LRow W B u (l.take i ++ l.drop (i + 1))) => rwith (E := E) (HS.out.l.keep hk) (by rw [hlk]; exact h0) (by rw [hlk]; exact hV) hxl hu (x : Int) rfl)
          rw [hset] at HWI
          have hx1 : x ≤ 1048576 := by rw [hlk] at hxl; omega
          have hll : l.length ≤ 2 * E := by
            have h1 : l.length ≤ (List.range (2 * E)).length := List.Nodup.length_le_of_subset (hwk.nd hlx) (fun x hx => List.mem_range.2 (hwk.bd hlx hx))
            simpa using h1
          obtain ⟨g, gc, hsl, hgc, hBg, hat⟩ := HS.out.l.at_ (by rw [hlk]; exact h0)
          simp only [Value.slice.injEq, true_and] at hsl
          obtain ⟨rfl, rfl⟩ := hsl
          obtain ⟨u, hu, hrow⟩ := hat x l hlx
          have HROW := Lib.hid hrow
          rcases hrow.1.2 with ⟨_, hz⟩ | ⟨g2, c2, cur, rfl, hBg2, hgg, hnc, _⟩
          · omega
          have HBS : Hid (B ≤ wr.heap.size) := HS.out.l.size_le (by rw [hlk]; exact h0)
          have HMX := Lib.hid (ar_del hil hll hE)
          have hcc : ((c2 = i + 1) = False ∧ True) ∨ ((c2 = i + 1) = True ∧ l.length ≤ i + 1) := by
            by_cases hcap : c2 = i + 1
            · exact .inr ⟨eq_true hcap, by omega⟩
            · exact .inl ⟨eq_false hcap, trivial⟩
          have HCC := Lib.hid hcc
          have hx0 : decide ((x : Int) < 0) = false := by simp
          have hb1 : (0 : Int) ≤ (i : Int) := by omega
          have hb2 : (i : Int) ≤ (c2 : Int) := by omega
          have hb3 : (i : Int) + 1 ≤ (l.length : Int) := by omega
          have hb4 : (0 : Int) ≤ (i : Int) + 1 := by omega
          have hb5 : (l.length : Int) ≤ (c2 : Int) := by omega
          have hxl2 : (x : Int) < ((LK L n k).length : Int) := by omega
          have hil2 : i + 1 ≤ l.length := hil
          have hil1 : i ≤ l.length := Nat.le_of_lt hil
          have HB6 : Hid (IntKind.i64.wrap ((i : Int) + 1) = (i : Int) + 1 ∧ wrap64 ((i : Int) + 1) = (i : Int) + 1) := ⟨by rw [IntKind.wrap_i64]; omega, by unfold wrap64; omega⟩
          have HU := Lib.hid hu
          have t0 := HS.out.t.cell (i := 0)
          have t1 := HS.out.t.cell (i := 1)
          simp only [List.getElem?_toArray, List.getElem?_cons_zero, List.getElem?_cons_succ] at t0 t1
          clear hcc hat hu hrow hset hwk hlx ed ef hdi hlk hgg hg hw hs hr1
          generalize LK L n k = Lk at *
          generalize hL2 : LK L n (k + 1) = L2 at *
          have HL2 := Lib.hid hL2
          clear hL2
          unfold rval RetPost at HF
          go_wp2_with fail
          refine HF.out.mono ?_
          rintro e w2 ⟨rfl, hk2'⟩
          have HS2 : Hid (LiftAt w B E Lk (some ⟨g, 0, none⟩) c w2) := ⟨HS.out.t.kept hk2' id, HS.out.r.kept hk2' id, HS.out.l.keep hk2', HS.out.k.trans' hk2'⟩
          have hu := hk2'.cellF HU.out
          have HK2 := Lib.hid hk2'
          have t0 := HS2.out.t.cell (i := 0)
          have t1 := HS2.out.t.cell (i := 1)
          simp only [List.getElem?_toArray, List.getElem?_cons_zero, List.getElem?_cons_succ] at t0 t1
          clear hk2'
          go_upto_region 10 with fail
          go_cut [9] (fun t wc => Hid (LRow wc B t (l.take i ++ l.drop (i + 1)) ∧ Keeps (fun _ => False) w2 wc))
          case first =>
            have HKD : Hid (Keeps (fun _ => False) w2 w2.drew) := (Keeps.refl _ _).drew
            have HHD := Lib.hid ((HROW.out.keep HK2.out).head i hil1)
            have HTL := Lib.hid ((HROW.out.keep HK2.out).tail (i + 1) hil2)
            have HBD := Lib.hid (Nat.le_trans HBS.out (HK2.out.trans' HKD.out).size)
            obtain ⟨hb6, hb7⟩ := HB6.out
            rcases HCC.out with ⟨hcap1, HCL⟩ | ⟨hcap1, hcl⟩
            case' inr => have HCL := Lib.hid hcl; clear hcl
            all_goals
              go_region_held3 (fun w' => w'.cell? ⟨w.heap.size, 1, none⟩ = some (.slice (some ⟨g, 0, none⟩) Lk.length c) ∧ w'.cell? ⟨g, x, none⟩ = some (.slice (some ⟨g2, 0, none⟩) l.length c2))
                (first | exact ⟨HKD.out.cellF t1, HKD.out.cellF hu⟩ | exact ⟨hk1'.cellF (HKD.out.cellF t1), hk1'.cellF (HKD.out.cellF hu)⟩ | exact ⟨hkk.cellF t1, hkk.cellF hu⟩ | assumption)
                (first
                  | (refine step_appS rfl _ _ 47 rfl B 3 i0 (.int .i64 0) 1 8 Tryd.underlying47 HI.out hz0 hz1 hz2 rfl (by decide) (.slice none 0 0) 0 [] rfl (World.ownsRow_nil _ _ _ _) _ i (nats (l.take i)) rfl (HHD.out _ HKD.out) HMX.out.1 HMX.out.2.1 HBD.out ?_; intro v1 w1 ho1 hk1 hb1' hn1; have hk1' : Keeps (fun _ => False) _ w1 := hk1.mono fun _ _ e => by simp [Value.ownBlock] at e)
                  | (refine step_appS rfl _ _ 47 rfl B 3 i0 (.int .i64 0) 1 8 Tryd.underlying47 HI.out hz0 hz1 hz2 rfl (by decide) v1 _ _ rfl ho1 _ (l.length - (i + 1)) (nats (l.drop (i + 1))) rfl (HTL.out _ (HKD.out.trans' hk1') _ _ _ rfl (by first | exact .inl rfl | exact .inr HCL.out)) HMX.out.2.2.1 HMX.out.2.2.2 (Nat.le_trans HBD.out hk1'.size) ?_; intro v2 w3 ho2 hk2 hb2' hn2; have hkk := app_chain HKD.out hk1' hb1' (Keeps.refl _ _) hk2 hb2' (Keeps.refl _ _))
                  | fail)
              have HP : Hid (LRow w3 B v2 (l.take i ++ l.drop (i + 1)) ∧ Keeps (fun _ => False) w2 w3) := ⟨delRow ho2 hn1 hn2 hil, hkk⟩
              clear ho1 hk1 hb1' hn1 hk1' ho2 hk2 hb2' hn2 hkk hb6 hb7
              go_wp2_with fail
              go_meet
              exact HP
          case rest =>
            obtain ⟨hrow, hkc⟩ := hcut.out
            have hwi := Lib.hid (HWI.out wc (HK2.out.trans' hkc) _ hrow)
            have HS3 : Hid (LiftAt w B E Lk (some ⟨g, 0, none⟩) c wc) := ⟨HS2.out.t.kept hkc id, HS2.out.r.kept hkc id, HS2.out.l.keep hkc, HS2.out.k.trans' hkc⟩
            have t0 := HS3.out.t.cell (i := 0)
            have t1 := HS3.out.t.cell (i := 1)
            simp only [List.getElem?_toArray, List.getElem?_cons_zero, List.getElem?_cons_succ] at t0 t1
            unfold RPost at hwi
            unfold rval at hwi
            clear hcut hrow hkc hu
            go_wp2_with fail
            refine hwi.out.mono ?_
            rintro e w4 ⟨v4, rfl, hls, hk4⟩
            obtain ⟨v4a, v4c, rfl⟩ := hls.form
            have hT4 := HS3.out.t.kept hk4 id
            have HR4 := Lib.hid (HS3.out.r.kept hk4 id)
            have HEN := rl_end (E := E) (HS3.out.k.trans' hk4) hls hT4 (Nat.le_refl _) rfl
            have t0 := hT4.cell (i := 0)
            have t1 := hT4.cell (i := 1)
            have q0 := hT4.free 0
            have q1 := hT4.free 1
            have rl := hT4.lt
            simp only [List.getElem?_toArray, List.getElem?_cons_zero, List.getElem?_cons_succ] at t0 t1
            have HNX : Hid (LiftAt w B E L2 v4a v4c ((w4.setCell ⟨w.heap.size, 0, none⟩ (.int .i64 (E : Int))).setCell ⟨w.heap.size, 1, none⟩ (.slice v4a L2.length v4c))) :=
              ⟨HEN.out.1, (HR4.out.set_other _ _ (Nat.succ_ne_self _)).set_other _ _ (Nat.succ_ne_self _), HEN.out.2.1, HEN.out.2.2⟩
            clear hls hk4 hT4 HEN hwi HB6
            go_wp2_with fail
            refine ⟨⟨k + 1, v4a, v4c, by omega, by go_num, ?_⟩, by simp [intOf]; omega⟩
            rw [HL2.out]
            exact HNX
        · obtain rfl : k = 2 := by omega
          have hlk : LK L n 2 = liftL L n := rfl
          rw [hlk] at HS
          have t0 := HS.out.t.cell (i := 0)
          have t1 := HS.out.t.cell (i := 1)
          have r0 := HS.out.r.cell (i := 0)
          have r1 := HS.out.r.cell (i := 1)
          have q0 := HS.out.r.free 0
          have q1 := HS.out.r.free 1
          have rl := HS.out.r.lt
          simp only [List.getElem?_toArray, List.getElem?_cons_zero, List.getElem?_cons_succ] at t0 t1 r0 r1
          have HE := rl_end (E := E) HS.out.k HS.out.l HS.out.r hbw rfl
          go_wp2_with fail
          generalize (World.setCell _ _ _).setCell _ (.slice _ _ _) = WW at *
          have k0 := HE.out.1.cell (i := 0)
          have k1 := HE.out.1.cell (i := 1)
          refine bodyPost_ret (v := .tuple #[rval E (.slice a (liftL L n).length c), .int .i64 0]) (by simp at k0 k1; simp [results, Tryd.results55, go_sem, k0, k1, rval]) rfl ?_
          exact ⟨_, rfl, HE.out.2⟩
    · rw [hle, if_neg hs, if_neg (by decide)]
      have hf := fndV_neg hs
      have HF := Lib.hid (rfind HS.out.l hw h0 hV hE (2 * (n : Int)))
      rw [show (2 * (n : Int)) = ((2 * n : Nat) : Int) by omega, hf] at HF
      generalize fndI L _ = fi at *
      clear hle h hs hf
      rw [show ((2 * n : Nat) : Int) = 2 * (n : Int) by omega] at HF
      unfold rval RLPost RetPost at *
      go_enter Tryd.func55, Tryd.ntmps55
      go_upto_region 1 with fail
      clear hW
      have t0 := HS.out.t.cell (i := 0)
      have t1 := HS.out.t.cell (i := 1)
      have r0 := HS.out.r.cell (i := 0)
      have r1 := HS.out.r.cell (i := 1)
      have q0 := HS.out.r.free 0
      have q1 := HS.out.r.free 1
      have rl := HS.out.r.lt
      simp only [List.getElem?_toArray, List.getElem?_cons_zero, List.getElem?_cons_succ] at t0 t1 r0 r1
      go_wp2_with fail
      go_loopw [6] (fun i wr => i = .int .i64 0 ∧ w0 = wr) (fun _ _ => 0)
      case atStart => exact ⟨rfl, rfl⟩
      case round =>
        obtain ⟨rfl, rfl⟩ := hrel
        go_wp2_with fail
        refine HF.out.mono ?_
        rintro e w2 ⟨rfl, hk2⟩
        have HS2 : Hid (LiftAt w B E L va vc w2) := ⟨HS.out.t.kept hk2 id, HS.out.r.kept hk2 id, HS.out.l.keep hk2, HS.out.k.trans' hk2⟩
        clear hk2 t0 t1 r0 r1 q0 q1 rl
        have t0 := HS2.out.t.cell (i := 0)
        have t1 := HS2.out.t.cell (i := 1)
        have r0 := HS2.out.r.cell (i := 0)
        have r1 := HS2.out.r.cell (i := 1)
        have q0 := HS2.out.r.free 0
        have q1 := HS2.out.r.free 1
        have rl := HS2.out.r.lt
        simp only [List.getElem?_toArray, List.getElem?_cons_zero, List.getElem?_cons_succ] at t0 t1 r0 r1
        have HE := rl_end (E := E) HS2.out.k HS2.out.l HS2.out.r hbw rfl
        go_wp2_with fail
        generalize (World.setCell _ _ _).setCell _ (.slice _ _ _) = WW at *
        have k0 := HE.out.1.cell (i := 0)
        have k1 := HE.out.1.cell (i := 1)
        refine bodyPost_ret (v := .tuple #[rval E (.slice va L.length vc), .int .i64 13]) (by simp at k0 k1; simp [results, Tryd.results55, go_sem, k0, k1, rval]) rfl ?_
        exact ⟨_, rfl, HE.out.2⟩
end
end Go.Proofs.YtjmkejkhpdhhbaaDoor
