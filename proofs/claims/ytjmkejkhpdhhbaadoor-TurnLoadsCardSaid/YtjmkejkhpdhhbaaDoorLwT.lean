/- The document's Load: the walk. -/
import Derived.Test.YtjmkejkhpdhhbaaDoorLwU
namespace Go.Proofs.YtjmkejkhpdhhbaaDoor
open Go Go.RowKit
set_option linter.unusedVariables false
set_option linter.unusedSimpArgs false
set_option maxRecDepth 100000

/-- The lists so far. -/
structure DocAt (w : World) (B E V bx r : Nat) (R : List (List Int)) (n k : Nat) (wr : World) : Prop where
  good : GoodP E (pre R n k)
  rows : ∃ va vc, LsRow wr B (.slice va V vc) (rowsAt (natsOf R) V n k) ∧ Blk wr bx #[.int .i64 (E : Int), .slice va V vc] 32
  res : Blk wr r #[.int .i64 0, .slice none 0 0] 32
  kp : Keeps (fun _ => False) w wr
  hb : w.heap.size ≤ r ∧ r < B ∧ B ≤ bx
theorem zero_end {w w4 : World} {b : Nat} {x y : Value} (hk : Keeps (fun _ => False) w w4) (hb : Blk w4 b #[x, y] 32) (hbw : w.heap.size ≤ b) :
    Hid (Blk ((w4.setCell ⟨b, 0, none⟩ (.int .i64 0)).setCell ⟨b, 1, none⟩ (.slice none 0 0)) b #[.int .i64 0, .slice none 0 0] 32 ∧ Keeps (fun _ => False) w ((w4.setCell ⟨b, 0, none⟩ (.int .i64 0)).setCell ⟨b, 1, none⟩ (.slice none 0 0))) :=
  Lib.hid ⟨Blk.set2 hb, set2_keep hk hbw⟩
theorem DocAt.step {w wr w6 : World} {E V bx r n k c : Nat} {R : List (List Int)} {a : Option Addr} (h : DocAt w (r + 1) E V bx r R n k wr) (hk : Keeps (fun _ => False) wr w6) (hp : GoodP E (pre R n (k + 1))) (hls : LsRow w6 (r + 1) (.slice a V c) (rowsAt (natsOf R) V n (k + 1))) :
    DocAt w (r + 1) E V bx r R n (k + 1) ((w6.setCell ⟨bx, 0, none⟩ (.int .i64 (E : Int))).setCell ⟨bx, 1, none⟩ (.slice a V c)) := by
  obtain ⟨va, vc, _, hbx⟩ := h.rows
  have hb6 := hbx.kept hk id
  have hkb : Keeps (fun k => k = bx) w6 ((w6.setCell ⟨bx, 0, none⟩ (.int .i64 (E : Int))).setCell ⟨bx, 1, none⟩ (.slice a V c)) := ((Keeps.refl (fun k => k = bx) w6).setIn bx 0 _ rfl).setIn bx 1 _ rfl
  have hh := h.hb
  exact ⟨hp, ⟨a, c, hls.setOther hb6 (by decide) (by decide) hkb, Blk.set2 hb6⟩, Blk.oth2 (h.res.kept hk id) (by omega), set2_keep (h.kp.trans' hk) (by omega), hh⟩
theorem wrap_one : wrap64 ((1 : Nat) : Int) = 1 := by unfold wrap64; omega
theorem wrap_zero : wrap64 ((0 : Nat) : Int) = 0 := by unfold wrap64; omega
theorem plus_wrap (d : Nat) (h : d < 4194304) : wrap64 ((d : Int) + 1) = (d : Int) + 1 := by unfold wrap64; omega
theorem minus_wrap (d : Nat) (h : d < 4194304) : wrap64 ((d : Int) - 1) = (d : Int) - 1 := by unfold wrap64; omega
theorem DocAt.row {w wr : World} {B E V bx r n : Nat} {R : List (List Int)} {l : List Int} (h : DocAt w B E V bx r R n l.length wr) (hl : R[n]? = some l) : DocAt w B E V bx r R (n + 1) 0 wr := by
  have h1 := rowsAt_row (N := natsOf R) (V := V) (i := n)
  rw [natsOf_getD hl, List.length_map] at h1
  refine ⟨by rw [← pre_row hl]; exact h.good, by rw [← h1]; exact h.rows, h.res, h.kp, h.hb⟩
theorem fin_flat {V : Nat} {R : List (List Int)} (hR : R.length ≤ V) : (rowsAt (natsOf R) V R.length 0).flatten = R.flatten.map Int.toNat := by
  have h := rowsAt_all (N := natsOf R) (V := V) (by rw [natsOf_length]; exact hR)
  rw [natsOf_length] at h
  rw [h, List.flatten_append, natsOf_flat]
  simp
theorem fin_wf {E V : Nat} {R : List (List Int)} (hR : R.length ≤ V) (h : GoodP E R.flatten) : WF E (rowsAt (natsOf R) V R.length 0) := by
  refine ⟨fun l hl d hd => ?_, ?_⟩
  · have hm : d ∈ (rowsAt (natsOf R) V R.length 0).flatten := List.mem_flatten.2 ⟨l, hl, hd⟩
    rw [fin_flat hR] at hm
    obtain ⟨z, hz, rfl⟩ := List.mem_map.1 hm
    have := h.1 z hz
    omega
  · rw [fin_flat hR]
    unfold List.Nodup
    rw [List.pairwise_map]
    refine List.Pairwise.imp_of_mem (fun {a b} ha hb hne e => ?_) h.2
    have h1 := (h.1 a ha).1
    have h2 := (h.1 b hb).1
    exact hne (by omega)
theorem fin_stand {E V : Nat} {R : List (List Int)} (hR : R.length ≤ V) (h : GoodP E R.flatten) (d : Nat) : Stands (rowsAt (natsOf R) V R.length 0) d ↔ (d : Int) ∈ R.flatten := by
  unfold Stands
  rw [fin_flat hR, List.mem_map]
  constructor
  · rintro ⟨z, hz, e⟩
    have := h.1 z hz
    have e2 : z = (d : Int) := by omega
    exact e2 ▸ hz
  · intro q; exact ⟨_, q, by omega⟩
section
variable {P : Program}
/-- An append whose run is known, at a step of a region that draws its order. -/
theorem step_ran {ops : Array Oper} {o : Oper} {a : Act} {K : Act → World → Prop} {Q : Exit → Act → World → Prop} {X : Prop} {w w' : World} {v' : Value} (hgd : o.guard = none) (s x : Operand) (t : TypeId)
    (ho : o.op = .call { callee := .builtin .append, args := #[s, x], argTypes := #[t, t] }) {v y : Value} (hs : a.eval s = v) (hx : a.eval x = y)
    (hr : (Builtin.append_ #[t, t] o.type #[v, y]).run P w = .ok v' w') (h : K (a.put o.dst v') w') : if Region.wanted o (yielded ops a.tmps) = true then Oper.wp P o a w K Q else X := by
  have hw : Region.wanted o (yielded ops a.tmps) = true := by simp [Region.wanted, hgd]
  rw [if_pos hw]
  unfold Oper.wp execOp
  simp only [ho, resolve, invoke, builtin, Sem.run_bind, Sem.run_pure, Result.andThen_ok, List.map_toArray, List.map_cons, List.map_nil, hs, hx, hr]
  exact h
end
def RLdPost (B E V : Nat) (R : List (List Int)) (w : World) (e : Ending) (w' : World) : Prop :=
  Keeps (fun _ => False) w w' ∧ ((OkL E V R ∧ ∃ v, e = .returned (.tuple #[rval E v, .bool true]) ∧ LsRow w' B v (rowsAt (natsOf R) V R.length 0)) ∨ (¬ OkL E V R ∧ e = .returned (.tuple #[.agg #[.int .i64 0, .slice none 0 0], .bool false])))
set_option maxHeartbeats 4000000 in
theorem rload (V E : Nat) (w : World) (hV1 : 1 ≤ V) (hV : V ≤ 1048576) (hE1 : 1 ≤ E) (hE : E ≤ 1048576) {v : Value} {R : List (List Int)} (hv : IRows w v R) (hR : R.length ≤ 1000000) (hr : ∀ l ∈ R, l.length ≤ 1000000) :
    Calls Tryd.prog 37 #[.int .i64 (V : Int), .int .i64 (E : Int), v] w (RLdPost (w.heap.size + 1) E V R w) := by
  have HRN := Lib.hid (fun W => rnew V E W hV1 hV)
  unfold RPost rval at HRN
  unfold RLdPost
  obtain ⟨va, vc, rfl⟩ := hv.form
  have HV := Lib.hid hv
  have HRB := Lib.hid hr
  clear hv hr
  generalize hW : w.alloc (.cells #[.int .i64 0, .slice none 0 0] 32) = w0
  have HK0 : Hid (Keeps (fun _ => False) w w0) := by rw [← hW]; exact Lib.hid ((Keeps.refl _ _).alloc _)
  have HBR : Hid (Blk w0 w.heap.size #[.int .i64 0, .slice none 0 0] 32) := by rw [← hW]; exact Lib.hid (Blk.new _ _ _)
  have hsz : w0.heap.size = w.heap.size + 1 := by rw [← hW]; simp
  by_cases hlen : V < R.length
  · have hgt : decide ((V : Int) < (R.length : Int)) = true := by simp; exact hlen
    have hno : Hid (¬ OkL E V R) := Lib.hid fun ok => by have := ok.2.2.2; omega
    go_enter Tryd.func37, Tryd.ntmps37
    go_upto_region 1 with fail
    clear hW
    obtain ⟨r0, r1, q0, q1, rl⟩ := HBR.out.cells
    have HE := zero_end HK0.out HBR.out (Nat.le_refl _)
    go_wp2_with fail
    generalize (World.setCell _ _ _).setCell _ (.slice none 0 0) = WW at *
    obtain ⟨k0, k1, _, _, _⟩ := HE.out.1.cells
    refine bodyPost_ret (v := .tuple #[.agg #[.int .i64 0, .slice none 0 0], .bool false]) (by simp [results, Tryd.results37, go_sem, k0, k1]) rfl ?_
    exact ⟨HE.out.2, Or.inr ⟨hno.out, rfl⟩⟩
  · have hgt : decide ((V : Int) < (R.length : Int)) = false := by simp; omega
    go_enter Tryd.func37, Tryd.ntmps37
    go_upto_region 1 with fail
    clear hW
    obtain ⟨r0, r1, q0, q1, rl⟩ := HBR.out.cells
    go_wp2_with fail
    refine (HRN.out w0).mono ?_
    rintro e w1 ⟨v1, rfl, hls, hk1⟩
    rw [hsz] at hls
    obtain ⟨va1, vc1, rfl⟩ := hls.form
    rw [List.length_replicate] at hls
    have HD0 : Hid (DocAt w (w.heap.size + 1) E V w1.heap.size w.heap.size R 0 0 (w1.alloc (.cells #[.int .i64 (E : Int), .slice va1 V vc1] 32))) := Lib.hid ⟨by rw [pre_zero]; exact ⟨fun d hd => by simp at hd, List.nodup_nil⟩, ⟨va1, vc1, by rw [rowsAt_zero]; exact hls.keep ((Keeps.refl _ _).alloc _), Blk.new _ _ _⟩, (HBR.out.kept hk1 id).alloc _, (HK0.out.trans' hk1).alloc _, Nat.le_refl _, by omega, by have := hk1.size; omega⟩
    clear hls hk1 r0 r1 q0 q1 rl hsz
    simp only [List.length_replicate]
    go_upto_region 4 with fail
    generalize w1.alloc _ = w2 at *
    generalize w1.heap.size = bx at *
    generalize hrr : w.heap.size = r at *
    clear HBR
    go_upto_region 5 with fail
    go_loopw [9] (fun i wr => ∃ (n : Nat), n ≤ R.length ∧ i = .int .i64 (n : Int) ∧ Hid (DocAt w (r + 1) E V bx r R n 0 wr)) (fun i _ => R.length - (intOf i).toNat)
    case atStart => exact ⟨0, Nat.zero_le _, rfl, HD0⟩
    case round =>
      obtain ⟨n, hn, rfl, HS⟩ := hrel
      clear HD0
      by_cases hnR : n < R.length
      · obtain ⟨l, hl⟩ : ∃ l, R[n]? = some l := ⟨_, List.getElem?_eq_getElem hnR⟩
        have hlb : l.length ≤ 1000000 := HRB.out l (List.mem_iff_getElem?.2 ⟨n, hl⟩)
        have hnV : n < V := by omega
        obtain ⟨b, off, A, C, rfl, hc0, hrd⟩ := HV.out.at_ hl
        have HC0 := Lib.hid hc0
        have HRD := Lib.hid hrd
        have HLM := Lib.hid hl
        clear hc0 hrd hl
        go_upto_region 8 with fail
        go_loopw [10] (fun i wx => ∃ (k : Nat), k ≤ l.length ∧ i = .int .i64 (k : Int) ∧ Hid (DocAt w (r + 1) E V bx r R n k wx)) (fun i _ => l.length - (intOf i).toNat)
        case atStart => exact ⟨0, Nat.zero_le _, rfl, HS⟩
        case round =>
          obtain ⟨k, hk, rfl, HX⟩ := hrel
          have hc := HX.out.kp.cellF HC0.out
          have hnI : (n : Int) < (R.length : Int) := by omega
          by_cases hkl : k < l.length
          · obtain ⟨b2, off2, rfl, hd0⟩ := HRD.out.int hkl
            have hd := HX.out.kp.cellF hd0
            have HDD := Lib.hid hd0
            have hstep := pre_step HLM.out hkl
            have hbad := fun hb => bad_no (E := E) (V := V) HLM.out hkl hb
            obtain ⟨va2, vc2, hls, hbx⟩ := HX.out.rows
            obtain ⟨x0, x1, xf0, xf1, xl⟩ := hbx.cells
            have h0V : 0 < (rowsAt (natsOf R) V n k).length := by rw [rowsAt_length]; omega
            have HFD := Lib.hid (fun W (hk : Keeps (fun _ => False) wr W) => rfind (hls.keep hk) (rowsAt_wf hnV HX.out.good) h0V (by rw [rowsAt_length]; exact hV) hE l[k])
            have hfd := fun (h0 : 0 ≤ l[k]) => rowsAt_fnd hnV HX.out.good (d := l[k]) h0
            generalize hdd : l[k] = d at *
            unfold RetPost rval at HFD
            go_wp2_with fail
            refine (HFD.out _ (Keeps.refl _ _)).mono ?_
            rintro e w5 ⟨rfl, hk5⟩
            have HK5 := Lib.hid (HX.out.kp.trans' hk5)
            have HR5 := Lib.hid (HX.out.res.kept hk5 id)
            obtain ⟨r0, r1, q0, q1, rl⟩ := HR5.out.cells
            have hw2 : IntKind.i64.wrap (2 * (E : Int)) = 2 * (E : Int) := by rw [IntKind.wrap_i64]; omega
            have hw3 : wrap64 (2 * (E : Int)) = 2 * (E : Int) := by unfold wrap64; omega
            rcases (show d < 0 ∨ (0 ≤ d ∧ 2 * (E : Int) ≤ d) ∨ (0 ≤ d ∧ d < 2 * (E : Int)) by omega) with h0 | ⟨h0, h1⟩ | ⟨h0, h1⟩
            · have hd0' : decide (d < 0) = true := by simp; exact h0
              have HB := Lib.hid (hbad (Or.inl h0))
              have HE := zero_end HK5.out HR5.out (by have := HX.out.hb; omega)
              clear hbad hstep hfd hls hbx HFD
              go_wp2_with fail
              generalize (World.setCell _ _ _).setCell _ (.slice none 0 0) = WW at *
              obtain ⟨k0, k1, _, _, _⟩ := HE.out.1.cells
              refine bodyPost_ret (v := .tuple #[.agg #[.int .i64 0, .slice none 0 0], .bool false]) (by simp [results, Tryd.results37, go_sem, k0, k1]) rfl ?_
              exact ⟨HE.out.2, Or.inr ⟨HB.out, rfl⟩⟩
            · have hd0' : decide (d < 0) = false := by simp; exact h0
              have hd1' : decide (2 * (E : Int) ≤ d) = true := by simp; exact h1
              have HB := Lib.hid (hbad (Or.inr (Or.inl h1)))
              have HE := zero_end HK5.out HR5.out (by have := HX.out.hb; omega)
              clear hbad hstep hfd hls hbx HFD
              go_wp2_with fail
              generalize (World.setCell _ _ _).setCell _ (.slice none 0 0) = WW at *
              obtain ⟨k0, k1, _, _, _⟩ := HE.out.1.cells
              refine bodyPost_ret (v := .tuple #[.agg #[.int .i64 0, .slice none 0 0], .bool false]) (by simp [results, Tryd.results37, go_sem, k0, k1]) rfl ?_
              exact ⟨HE.out.2, Or.inr ⟨HB.out, rfl⟩⟩
            · have hd0' : decide (d < 0) = false := by simp; exact h0
              have hd1' : decide (2 * (E : Int) ≤ d) = false := by simp; exact h1
              have hfd2 := hfd h0
              by_cases hin : d ∈ pre R n k
              · have HB := Lib.hid (hbad (Or.inr (Or.inr hin)))
                rw [decide_eq_true hin] at hfd2
                generalize fndV (rowsAt (natsOf R) V n k) d = fv at *
                clear hin
                have HE := zero_end HK5.out HR5.out (by have := HX.out.hb; omega)
                clear hbad hstep hfd hls hbx HFD
                go_wp2_with fail
                generalize (World.setCell _ _ _).setCell _ (.slice none 0 0) = WW at *
                obtain ⟨k0, k1, _, _, _⟩ := HE.out.1.cells
                refine bodyPost_ret (v := .tuple #[.agg #[.int .i64 0, .slice none 0 0], .bool false]) (by simp [results, Tryd.results37, go_sem, k0, k1]) rfl ?_
                exact ⟨HE.out.2, Or.inr ⟨HB.out, rfl⟩⟩
              · rw [decide_eq_false hin] at hfd2
                generalize fndV (rowsAt (natsOf R) V n k) d = fv at *
                have hls5 := hls.keep hk5
                have hbx5 := hbx.kept hk5 id
                have HP := Lib.hid (HX.out.good.push h0 h1 hin)
                rw [← hstep] at HP
                clear hbad hstep hfd HFD x0 x1 xf0 xf1 xl
                obtain ⟨dn, rfl⟩ := Int.eq_ofNat_of_zero_le h0
                have hgd := natsOf_getD HLM.out
                have hMk : k < (l.map Int.toNat).length := by simpa using hkl
                have hMd : (l.map Int.toNat).getD k 0 = dn := by rw [getD_at hMk]; simp [hdd]
                have hset := rowsAt_set hnV hgd hMk
                rw [hMd] at hset
                obtain ⟨g, c, hvg, hcg, hBg, hat⟩ := hls5.at_ h0V
                rw [rowsAt_length] at hvg hcg
                simp only [Value.slice.injEq, true_and] at hvg
                obtain ⟨rfl, rfl⟩ := hvg
                obtain ⟨u, hu, hrow⟩ := hat n _ (by rw [rowsAt_get hnV, if_neg (Nat.lt_irrefl _), if_pos rfl, hgd])
                have hrl : ((l.map Int.toNat).take k).length = k := by rw [List.length_take]; omega
                obtain ⟨ua, uc, hue, _⟩ := hrow.rd
                rw [hrl] at hue
                obtain ⟨i0, hi, hz0, hz1, hz2⟩ := info_parts infoI
                have hszB : r + 1 ≤ w5.heap.size := by have := HX.out.hb; have := hbx5.lt; omega
                have hWD : Keeps (fun _ => False) w5 w5.drew := (Keeps.refl _ _).drew
                have hWA : Keeps (fun _ => False) w5 (w5.alloc (.cells #[.int .i64 (dn : Int)] 3)).drew := ((Keeps.refl _ _).alloc _).drew
                have hsrc := hrow.src
                rw [hrl] at hsrc
                have hm1 : 0 + k ≤ maxLen ∧ (0 + k) * 8 ≤ 140737488355328 ∧ 0 + k + 1 ≤ maxLen ∧ (0 + k + 1) * 8 ≤ 140737488355328 := by unfold maxLen; omega
                obtain ⟨v1, w1, hr1, ho1, hk1, hb1, _⟩ := run_appS (P := Tryd.prog) w5.drew (r + 1) 47 47 3 i0 (.int .i64 0) 1 8 Tryd.underlying47 hi hz0 hz1 hz2 rfl (by decide) (.slice none 0 0) 0 [] (World.ownsRow_nil _ _ _ _) u k _ (hsrc.keep hWD) hm1.1 hm1.2.1 hszB
                have hk1' : Keeps (fun _ => False) w5.drew w1 := hk1.mono fun _ _ e => by simp [Value.ownBlock] at e
                obtain ⟨v2, w2', hr2, ho2, hk2, hb2, _⟩ := run_appS (P := Tryd.prog) (w1.alloc (.cells #[.int .i64 (dn : Int)] 3)) (r + 1) 47 47 3 i0 (.int .i64 0) 1 8 Tryd.underlying47 hi hz0 hz1 hz2 rfl (by decide) v1 (0 + k) _ (ho1.alloc _) (.slice (some ⟨w1.heap.size, 0, none⟩) 1 1) 1 (nats [dn]) (src_new (Blk.new w1 _ _) (Keeps.refl _ _)) hm1.2.2.1 hm1.2.2.2 (Nat.le_trans hszB (Nat.le_trans hk1'.size ((Keeps.refl (fun _ => False) _).alloc _).size))
                obtain ⟨v3, w3, hr3, ho3, hk3, hb3, _⟩ := run_appS (P := Tryd.prog) (w5.alloc (.cells #[.int .i64 (dn : Int)] 3)).drew (r + 1) 47 47 3 i0 (.int .i64 0) 1 8 Tryd.underlying47 hi hz0 hz1 hz2 rfl (by decide) (.slice none 0 0) 0 [] (World.ownsRow_nil _ _ _ _) u k _ (hsrc.keep hWA) hm1.1 hm1.2.1 (Nat.le_trans hszB hWA.size)
                have hk3' : Keeps (fun _ => False) (w5.alloc (.cells #[.int .i64 (dn : Int)] 3)).drew w3 := hk3.mono fun _ _ e => by simp [Value.ownBlock] at e
                obtain ⟨v4, w4, hr4, ho4, hk4, hb4, _⟩ := run_appS (P := Tryd.prog) w3 (r + 1) 47 47 3 i0 (.int .i64 0) 1 8 Tryd.underlying47 hi hz0 hz1 hz2 rfl (by decide) v3 (0 + k) _ ho3 (.slice (some ⟨w5.heap.size, 0, none⟩) 1 1) 1 (nats [dn]) (src_new ((Blk.new w5 #[.int .i64 (dn : Int)] 3).kept (Keeps.refl (fun _ => False) _).drew id) hk3') hm1.2.2.1 hm1.2.2.2 (Nat.le_trans hszB (Nat.le_trans hWA.size hk3'.size))
                have KA := app_chain hWD hk1' hb1 ((Keeps.refl _ _).alloc _) hk2 hb2 (Keeps.refl _ _)
                have KB := app_chain hWA hk3' hb3 (Keeps.refl _ _) hk4 hb4 (Keeps.refl _ _)
                have hlen1 : ((l.map Int.toNat).take k ++ [dn]).length = 0 + k + 1 := by rw [List.length_append, hrl]; simp
                have hcat : [] ++ nats ((l.map Int.toNat).take k) ++ nats [dn] = nats ((l.map Int.toNat).take k ++ [dn]) := by rw [nats_append]; rfl
                have hRA : LRow w2' (r + 1) v2 ((l.map Int.toNat).take k ++ [dn]) := ⟨by rw [hlen1, ← hcat]; exact ho2, fun e => by simp at e⟩
                have hRB : LRow w4 (r + 1) v4 ((l.map Int.toNat).take k ++ [dn]) := ⟨by rw [hlen1, ← hcat]; exact ho4, fun e => by simp at e⟩
                have hvl : (rowsAt (natsOf R) V n k).length ≤ 1048576 := by rw [rowsAt_length]; exact hV
                have hnl : n < (rowsAt (natsOf R) V n k).length := by rw [rowsAt_length]; exact hnV
                have hwA := rwith (E := E) (hls5.keep KA) h0V hvl hnl hRA (n : Int) rfl
                have hwB := rwith (E := E) (hls5.keep KB) h0V hvl hnl hRB (n : Int) rfl
                rw [hset] at hwA hwB
                have HWA := Lib.hid hwA
                have HWB := Lib.hid hwB
                unfold RPost rval at HWA HWB
                have HKA := Lib.hid KA
                have HKB := Lib.hid KB
                obtain ⟨y0, y1, _, _, _⟩ := hbx5.cells
                have y0a := hWD.cellF y0
                have y1a := hWD.cellF y1
                have hua := hWD.cellF hu
                have y0b := hWA.cellF y0
                have y1b := hWA.cellF y1
                have hub := hWA.cellF hu
                have s1 := hWD.trans' hk1'
                have s1a := s1.alloc (.cells #[.int .i64 (dn : Int)] 3)
                have s3 := hWA.trans' hk3'
                have y0c := s1.cellF y0
                have y1c := s1.cellF y1
                have y0d := s1a.cellF y0
                have y1d := s1a.cellF y1
                have y0e := KA.cellF y0
                have y1e := KA.cellF y1
                have y0f := s3.cellF y0
                have y1f := s3.cellF y1
                have y0g := KB.cellF y0
                have y1g := KB.cellF y1
                have HBX := Lib.hid hbx5
                have hnV2 : (n : Int) < (V : Int) := by omega
                subst hue
                clear hk1 hb1 ho1 hk2 hb2 ho2 hk3 hb3 ho3 hk4 hb4 ho4 hk1' hk3' hRA hRB hwA hwB KA KB s1 s1a s3 hsrc hrow hat hls5 hls hbx hbx5 hcat hlen1 hset hMd hgd hWD hWA hi hz0 hz1 hz2 hm1 h0V hvl hnl
                have HXX := Lib.hid HX.out
                have HK5R := Lib.hid hk5
                go_upto_region 15 with fail
                refine wp_region_any (by kernel_rfl) ?_
                try (change wpAny _ _ _ _ _ _ _ (World.drew _))
                refine wpAny_take (i := 1) (v := ?_) rfl (by kernel_rfl) (by kernel_rfl) (by kernel_rfl) (fun _ _ _ h => h) (Or.inl ⟨by rfl, ?_⟩) ?_
                rotate_left
                · (intro w; simp only [List.getElem_toArray, List.getElem_cons_zero, List.getElem_cons_succ]; go_simp <;> with_reducible rfl)
                try simp only [Act.put, List.getElem_toArray, List.getElem_cons_zero, List.getElem_cons_succ, List.setIfInBounds_toArray, List.set_cons_zero, List.set_cons_succ]
                refine wpAny_take (i := 2) (v := ?_) rfl (by kernel_rfl) (by kernel_rfl) (by kernel_rfl) (fun _ _ _ h => h) (Or.inl ⟨by rfl, ?_⟩) ?_
                rotate_left
                · (intro w; simp only [List.getElem_toArray, List.getElem_cons_zero, List.getElem_cons_succ]; go_simp <;> with_reducible rfl)
                try simp only [Act.put, List.getElem_toArray, List.getElem_cons_zero, List.getElem_cons_succ, List.setIfInBounds_toArray, List.set_cons_zero, List.set_cons_succ]
                refine wpAny_take (i := 3) (v := ?_) rfl (by kernel_rfl) (by kernel_rfl) (by kernel_rfl) (fun _ _ _ h => h) (Or.inl ⟨by rfl, ?_⟩) ?_
                rotate_left
                · (intro w; simp only [List.getElem_toArray, List.getElem_cons_zero, List.getElem_cons_succ]; go_simp <;> with_reducible rfl)
                try simp only [Act.put, List.getElem_toArray, List.getElem_cons_zero, List.getElem_cons_succ, List.setIfInBounds_toArray, List.set_cons_zero, List.set_cons_succ]
                refine wpAny_take (i := 5) (v := ?_) rfl (by kernel_rfl) (by kernel_rfl) (by kernel_rfl) (fun _ _ _ h => h) (Or.inl ⟨by rfl, ?_⟩) ?_
                rotate_left
                · (intro w; simp only [List.getElem_toArray, List.getElem_cons_zero, List.getElem_cons_succ]; go_simp <;> with_reducible rfl)
                try simp only [Act.put, List.getElem_toArray, List.getElem_cons_zero, List.getElem_cons_succ, List.setIfInBounds_toArray, List.set_cons_zero, List.set_cons_succ]
                refine wpAny_take (i := 9) (v := ?_) rfl (by kernel_rfl) (by kernel_rfl) (by kernel_rfl) (fun _ _ _ h => h) (Or.inl ⟨by rfl, ?_⟩) ?_
                rotate_left
                · (intro w; simp only [List.getElem_toArray, List.getElem_cons_zero, List.getElem_cons_succ]; go_simp <;> with_reducible rfl)
                try simp only [Act.put, List.getElem_toArray, List.getElem_cons_zero, List.getElem_cons_succ, List.setIfInBounds_toArray, List.set_cons_zero, List.set_cons_succ]
                refine wpAny_ready (rs := [0, 4, 10]) (by kernel_rfl) (by simp) ?_
                refine AllReady.cons rfl (fun K hK => ?_) ?_
                · try simp only [List.getElem_toArray, List.getElem_cons_zero, List.getElem_cons_succ]
                  go_simp
                  refine hK _ _ ?_
                  clear hK K
                  try simp only [Act.put, List.getElem_toArray, List.getElem_cons_zero, List.getElem_cons_succ, List.setIfInBounds_toArray, List.set_cons_zero, List.set_cons_succ]
                  refine wpAny_ready (rs := [4, 10]) (by kernel_rfl) (by simp) ?_
                  refine AllReady.cons rfl (fun K hK => ?_) ?_
                  · try simp only [List.getElem_toArray, List.getElem_cons_zero, List.getElem_cons_succ]
                    go_simp
                    refine hK _ _ ?_
                    clear hK K
                    try simp only [Act.put, List.getElem_toArray, List.getElem_cons_zero, List.getElem_cons_succ, List.setIfInBounds_toArray, List.set_cons_zero, List.set_cons_succ]
                    refine wpAny_take (i := 6) (v := ?_) rfl (by kernel_rfl) (by kernel_rfl) (by kernel_rfl) (fun _ _ _ h => h) (Or.inl ⟨by rfl, ?_⟩) ?_
                    rotate_left
                    · (intro w; simp only [List.getElem_toArray, List.getElem_cons_zero, List.getElem_cons_succ]; go_simp <;> with_reducible rfl)
                    try simp only [Act.put, List.getElem_toArray, List.getElem_cons_zero, List.getElem_cons_succ, List.setIfInBounds_toArray, List.set_cons_zero, List.set_cons_succ]
                    refine wpAny_ready (rs := [7, 10]) (by kernel_rfl) (by simp) ?_
                    refine AllReady.cons rfl (fun K hK => ?_) ?_
                    · try simp only [List.getElem_toArray, List.getElem_cons_zero, List.getElem_cons_succ]
                      go_simp
                      refine hK _ _ ?_
                      clear hK K
                      try simp only [Act.put, List.getElem_toArray, List.getElem_cons_zero, List.getElem_cons_succ, List.setIfInBounds_toArray, List.set_cons_zero, List.set_cons_succ]
                      refine wpAny_ready (rs := [8, 10]) (by kernel_rfl) (by simp) ?_
                      refine AllReady.cons rfl (fun K hK => ?_) ?_
                      · refine step_ran rfl _ _ 47 rfl rfl rfl hr1 ?_
                        refine hK _ _ ?_
                        clear hK K
                        try simp only [Act.put, List.getElem_toArray, List.getElem_cons_zero, List.getElem_cons_succ, List.setIfInBounds_toArray, List.set_cons_zero, List.set_cons_succ]
                        refine wpAny_ready (rs := [10]) (by kernel_rfl) (by simp) ?_
                        refine AllReady.cons rfl (fun K hK => ?_) ?_
                        · try simp only [List.getElem_toArray, List.getElem_cons_zero, List.getElem_cons_succ]
                          go_simp
                          refine hK _ _ ?_
                          clear hK K
                          try simp only [Act.put, List.getElem_toArray, List.getElem_cons_zero, List.getElem_cons_succ, List.setIfInBounds_toArray, List.set_cons_zero, List.set_cons_succ]
                          refine wpAny_ready (rs := [11]) (by kernel_rfl) (by simp) ?_
                          refine AllReady.cons rfl (fun K hK => ?_) ?_
                          · refine step_ran rfl _ _ 47 rfl rfl rfl hr2 ?_
                            refine hK _ _ ?_
                            clear hK K
                            try simp only [Act.put, List.getElem_toArray, List.getElem_cons_zero, List.getElem_cons_succ, List.setIfInBounds_toArray, List.set_cons_zero, List.set_cons_succ]
                            refine wpAny_ready (rs := [12]) (by kernel_rfl) (by simp) ?_
                            refine AllReady.cons rfl (fun K hK => ?_) ?_
                            · try simp only [List.getElem_toArray, List.getElem_cons_zero, List.getElem_cons_succ]
                              go_simp
                              with_reducible refine HWA.out.mono ?_
                              rintro e w6 ⟨v6, rfl, hls6, hk6⟩
                              have hK6 := HKA.out.trans' hk6
                              obtain ⟨va6, vc6, hv6⟩ := hls6.form
                              rw [rowsAt_length] at hv6
                              subst hv6
                              obtain ⟨z0, z1, zf0, zf1, zl⟩ := (HBX.out.kept hK6 id).cells
                              try go_wp2_with fail
                              first | (refine hK _ _ ?_; clear hK K) | skip
                              try simp only [Act.put, List.getElem_toArray, List.getElem_cons_zero, List.getElem_cons_succ, List.setIfInBounds_toArray, List.set_cons_zero, List.set_cons_succ]
                              refine wpAny_ready (rs := [13]) (by kernel_rfl) (by simp) ?_
                              refine AllReady.cons rfl (fun K hK => ?_) ?_
                              · try simp only [List.getElem_toArray, List.getElem_cons_zero, List.getElem_cons_succ]
                                go_simp
                                refine hK _ _ ?_
                                clear hK K
                                try simp only [Act.put, List.getElem_toArray, List.getElem_cons_zero, List.getElem_cons_succ, List.setIfInBounds_toArray, List.set_cons_zero, List.set_cons_succ]
                                refine wpAny_done (by kernel_rfl) ?_ _
                                have HN := Lib.hid (HXX.out.step (HK5R.out.trans' hK6) HP.out hls6)
                                clear hK6 hls6 hk6 z0 z1 zf0 zf1 zl
                                generalize (World.setCell _ _ _).setCell _ (.slice va6 _ _) = we at *
                                go_wp2_with fail
                                exact ⟨⟨k + 1, by omega, by simp, HN⟩, by simp [intOf]; omega⟩
                              exact AllReady.nil
                            exact AllReady.nil
                          exact AllReady.nil
                        exact AllReady.nil
                      refine AllReady.cons rfl (fun K hK => ?_) ?_
                      · try simp only [List.getElem_toArray, List.getElem_cons_zero, List.getElem_cons_succ]
                        go_simp
                        refine hK _ _ ?_
                        clear hK K
                        try simp only [Act.put, List.getElem_toArray, List.getElem_cons_zero, List.getElem_cons_succ, List.setIfInBounds_toArray, List.set_cons_zero, List.set_cons_succ]
                        refine wpAny_ready (rs := [8]) (by kernel_rfl) (by simp) ?_
                        refine AllReady.cons rfl (fun K hK => ?_) ?_
                        · refine step_ran rfl _ _ 47 rfl rfl rfl hr3 ?_
                          refine hK _ _ ?_
                          clear hK K
                          try simp only [Act.put, List.getElem_toArray, List.getElem_cons_zero, List.getElem_cons_succ, List.setIfInBounds_toArray, List.set_cons_zero, List.set_cons_succ]
                          refine wpAny_ready (rs := [11]) (by kernel_rfl) (by simp) ?_
                          refine AllReady.cons rfl (fun K hK => ?_) ?_
                          · refine step_ran rfl _ _ 47 rfl rfl rfl hr4 ?_
                            refine hK _ _ ?_
                            clear hK K
                            try simp only [Act.put, List.getElem_toArray, List.getElem_cons_zero, List.getElem_cons_succ, List.setIfInBounds_toArray, List.set_cons_zero, List.set_cons_succ]
                            refine wpAny_ready (rs := [12]) (by kernel_rfl) (by simp) ?_
                            refine AllReady.cons rfl (fun K hK => ?_) ?_
                            · try simp only [List.getElem_toArray, List.getElem_cons_zero, List.getElem_cons_succ]
                              go_simp
                              with_reducible refine HWB.out.mono ?_
                              rintro e w6 ⟨v6, rfl, hls6, hk6⟩
                              have hK6 := HKB.out.trans' hk6
                              obtain ⟨va6, vc6, hv6⟩ := hls6.form
                              rw [rowsAt_length] at hv6
                              subst hv6
                              obtain ⟨z0, z1, zf0, zf1, zl⟩ := (HBX.out.kept hK6 id).cells
                              try go_wp2_with fail
                              first | (refine hK _ _ ?_; clear hK K) | skip
                              try simp only [Act.put, List.getElem_toArray, List.getElem_cons_zero, List.getElem_cons_succ, List.setIfInBounds_toArray, List.set_cons_zero, List.set_cons_succ]
                              refine wpAny_ready (rs := [13]) (by kernel_rfl) (by simp) ?_
                              refine AllReady.cons rfl (fun K hK => ?_) ?_
                              · try simp only [List.getElem_toArray, List.getElem_cons_zero, List.getElem_cons_succ]
                                go_simp
                                refine hK _ _ ?_
                                clear hK K
                                try simp only [Act.put, List.getElem_toArray, List.getElem_cons_zero, List.getElem_cons_succ, List.setIfInBounds_toArray, List.set_cons_zero, List.set_cons_succ]
                                refine wpAny_done (by kernel_rfl) ?_ _
                                have HN := Lib.hid (HXX.out.step (HK5R.out.trans' hK6) HP.out hls6)
                                clear hK6 hls6 hk6 z0 z1 zf0 zf1 zl
                                generalize (World.setCell _ _ _).setCell _ (.slice va6 _ _) = we at *
                                go_wp2_with fail
                                exact ⟨⟨k + 1, by omega, by simp, HN⟩, by simp [intOf]; omega⟩
                              exact AllReady.nil
                            exact AllReady.nil
                          exact AllReady.nil
                        exact AllReady.nil
                      exact AllReady.nil
                    refine AllReady.cons rfl (fun K hK => ?_) ?_
                    · try simp only [List.getElem_toArray, List.getElem_cons_zero, List.getElem_cons_succ]
                      go_simp
                      refine hK _ _ ?_
                      clear hK K
                      try simp only [Act.put, List.getElem_toArray, List.getElem_cons_zero, List.getElem_cons_succ, List.setIfInBounds_toArray, List.set_cons_zero, List.set_cons_succ]
                      refine wpAny_ready (rs := [7]) (by kernel_rfl) (by simp) ?_
                      refine AllReady.cons rfl (fun K hK => ?_) ?_
                      · try simp only [List.getElem_toArray, List.getElem_cons_zero, List.getElem_cons_succ]
                        go_simp
                        refine hK _ _ ?_
                        clear hK K
                        try simp only [Act.put, List.getElem_toArray, List.getElem_cons_zero, List.getElem_cons_succ, List.setIfInBounds_toArray, List.set_cons_zero, List.set_cons_succ]
                        refine wpAny_ready (rs := [8]) (by kernel_rfl) (by simp) ?_
                        refine AllReady.cons rfl (fun K hK => ?_) ?_
                        · refine step_ran rfl _ _ 47 rfl rfl rfl hr3 ?_
                          refine hK _ _ ?_
                          clear hK K
                          try simp only [Act.put, List.getElem_toArray, List.getElem_cons_zero, List.getElem_cons_succ, List.setIfInBounds_toArray, List.set_cons_zero, List.set_cons_succ]
                          refine wpAny_ready (rs := [11]) (by kernel_rfl) (by simp) ?_
                          refine AllReady.cons rfl (fun K hK => ?_) ?_
                          · refine step_ran rfl _ _ 47 rfl rfl rfl hr4 ?_
                            refine hK _ _ ?_
                            clear hK K
                            try simp only [Act.put, List.getElem_toArray, List.getElem_cons_zero, List.getElem_cons_succ, List.setIfInBounds_toArray, List.set_cons_zero, List.set_cons_succ]
                            refine wpAny_ready (rs := [12]) (by kernel_rfl) (by simp) ?_
                            refine AllReady.cons rfl (fun K hK => ?_) ?_
                            · try simp only [List.getElem_toArray, List.getElem_cons_zero, List.getElem_cons_succ]
                              go_simp
                              with_reducible refine HWB.out.mono ?_
                              rintro e w6 ⟨v6, rfl, hls6, hk6⟩
                              have hK6 := HKB.out.trans' hk6
                              obtain ⟨va6, vc6, hv6⟩ := hls6.form
                              rw [rowsAt_length] at hv6
                              subst hv6
                              obtain ⟨z0, z1, zf0, zf1, zl⟩ := (HBX.out.kept hK6 id).cells
                              try go_wp2_with fail
                              first | (refine hK _ _ ?_; clear hK K) | skip
                              try simp only [Act.put, List.getElem_toArray, List.getElem_cons_zero, List.getElem_cons_succ, List.setIfInBounds_toArray, List.set_cons_zero, List.set_cons_succ]
                              refine wpAny_ready (rs := [13]) (by kernel_rfl) (by simp) ?_
                              refine AllReady.cons rfl (fun K hK => ?_) ?_
                              · try simp only [List.getElem_toArray, List.getElem_cons_zero, List.getElem_cons_succ]
                                go_simp
                                refine hK _ _ ?_
                                clear hK K
                                try simp only [Act.put, List.getElem_toArray, List.getElem_cons_zero, List.getElem_cons_succ, List.setIfInBounds_toArray, List.set_cons_zero, List.set_cons_succ]
                                refine wpAny_done (by kernel_rfl) ?_ _
                                have HN := Lib.hid (HXX.out.step (HK5R.out.trans' hK6) HP.out hls6)
                                clear hK6 hls6 hk6 z0 z1 zf0 zf1 zl
                                generalize (World.setCell _ _ _).setCell _ (.slice va6 _ _) = we at *
                                go_wp2_with fail
                                exact ⟨⟨k + 1, by omega, by simp, HN⟩, by simp [intOf]; omega⟩
                              exact AllReady.nil
                            exact AllReady.nil
                          exact AllReady.nil
                        exact AllReady.nil
                      exact AllReady.nil
                    exact AllReady.nil
                  refine AllReady.cons rfl (fun K hK => ?_) ?_
                  · try simp only [List.getElem_toArray, List.getElem_cons_zero, List.getElem_cons_succ]
                    go_simp
                    refine hK _ _ ?_
                    clear hK K
                    try simp only [Act.put, List.getElem_toArray, List.getElem_cons_zero, List.getElem_cons_succ, List.setIfInBounds_toArray, List.set_cons_zero, List.set_cons_succ]
                    refine wpAny_ready (rs := [4]) (by kernel_rfl) (by simp) ?_
                    refine AllReady.cons rfl (fun K hK => ?_) ?_
                    · try simp only [List.getElem_toArray, List.getElem_cons_zero, List.getElem_cons_succ]
                      go_simp
                      refine hK _ _ ?_
                      clear hK K
                      try simp only [Act.put, List.getElem_toArray, List.getElem_cons_zero, List.getElem_cons_succ, List.setIfInBounds_toArray, List.set_cons_zero, List.set_cons_succ]
                      refine wpAny_take (i := 6) (v := ?_) rfl (by kernel_rfl) (by kernel_rfl) (by kernel_rfl) (fun _ _ _ h => h) (Or.inl ⟨by rfl, ?_⟩) ?_
                      rotate_left
                      · (intro w; simp only [List.getElem_toArray, List.getElem_cons_zero, List.getElem_cons_succ]; go_simp <;> with_reducible rfl)
                      try simp only [Act.put, List.getElem_toArray, List.getElem_cons_zero, List.getElem_cons_succ, List.setIfInBounds_toArray, List.set_cons_zero, List.set_cons_succ]
                      refine wpAny_ready (rs := [7]) (by kernel_rfl) (by simp) ?_
                      refine AllReady.cons rfl (fun K hK => ?_) ?_
                      · try simp only [List.getElem_toArray, List.getElem_cons_zero, List.getElem_cons_succ]
                        go_simp
                        refine hK _ _ ?_
                        clear hK K
                        try simp only [Act.put, List.getElem_toArray, List.getElem_cons_zero, List.getElem_cons_succ, List.setIfInBounds_toArray, List.set_cons_zero, List.set_cons_succ]
                        refine wpAny_ready (rs := [8]) (by kernel_rfl) (by simp) ?_
                        refine AllReady.cons rfl (fun K hK => ?_) ?_
                        · refine step_ran rfl _ _ 47 rfl rfl rfl hr3 ?_
                          refine hK _ _ ?_
                          clear hK K
                          try simp only [Act.put, List.getElem_toArray, List.getElem_cons_zero, List.getElem_cons_succ, List.setIfInBounds_toArray, List.set_cons_zero, List.set_cons_succ]
                          refine wpAny_ready (rs := [11]) (by kernel_rfl) (by simp) ?_
                          refine AllReady.cons rfl (fun K hK => ?_) ?_
                          · refine step_ran rfl _ _ 47 rfl rfl rfl hr4 ?_
                            refine hK _ _ ?_
                            clear hK K
                            try simp only [Act.put, List.getElem_toArray, List.getElem_cons_zero, List.getElem_cons_succ, List.setIfInBounds_toArray, List.set_cons_zero, List.set_cons_succ]
                            refine wpAny_ready (rs := [12]) (by kernel_rfl) (by simp) ?_
                            refine AllReady.cons rfl (fun K hK => ?_) ?_
                            · try simp only [List.getElem_toArray, List.getElem_cons_zero, List.getElem_cons_succ]
                              go_simp
                              with_reducible refine HWB.out.mono ?_
                              rintro e w6 ⟨v6, rfl, hls6, hk6⟩
                              have hK6 := HKB.out.trans' hk6
                              obtain ⟨va6, vc6, hv6⟩ := hls6.form
                              rw [rowsAt_length] at hv6
                              subst hv6
                              obtain ⟨z0, z1, zf0, zf1, zl⟩ := (HBX.out.kept hK6 id).cells
                              try go_wp2_with fail
                              first | (refine hK _ _ ?_; clear hK K) | skip
                              try simp only [Act.put, List.getElem_toArray, List.getElem_cons_zero, List.getElem_cons_succ, List.setIfInBounds_toArray, List.set_cons_zero, List.set_cons_succ]
                              refine wpAny_ready (rs := [13]) (by kernel_rfl) (by simp) ?_
                              refine AllReady.cons rfl (fun K hK => ?_) ?_
                              · try simp only [List.getElem_toArray, List.getElem_cons_zero, List.getElem_cons_succ]
                                go_simp
                                refine hK _ _ ?_
                                clear hK K
                                try simp only [Act.put, List.getElem_toArray, List.getElem_cons_zero, List.getElem_cons_succ, List.setIfInBounds_toArray, List.set_cons_zero, List.set_cons_succ]
                                refine wpAny_done (by kernel_rfl) ?_ _
                                have HN := Lib.hid (HXX.out.step (HK5R.out.trans' hK6) HP.out hls6)
                                clear hK6 hls6 hk6 z0 z1 zf0 zf1 zl
                                generalize (World.setCell _ _ _).setCell _ (.slice va6 _ _) = we at *
                                go_wp2_with fail
                                exact ⟨⟨k + 1, by omega, by simp, HN⟩, by simp [intOf]; omega⟩
                              exact AllReady.nil
                            exact AllReady.nil
                          exact AllReady.nil
                        exact AllReady.nil
                      exact AllReady.nil
                    exact AllReady.nil
                  exact AllReady.nil
                refine AllReady.cons rfl (fun K hK => ?_) ?_
                · try simp only [List.getElem_toArray, List.getElem_cons_zero, List.getElem_cons_succ]
                  go_simp
                  refine hK _ _ ?_
                  clear hK K
                  try simp only [Act.put, List.getElem_toArray, List.getElem_cons_zero, List.getElem_cons_succ, List.setIfInBounds_toArray, List.set_cons_zero, List.set_cons_succ]
                  refine wpAny_take (i := 6) (v := ?_) rfl (by kernel_rfl) (by kernel_rfl) (by kernel_rfl) (fun _ _ _ h => h) (Or.inl ⟨by rfl, ?_⟩) ?_
                  rotate_left
                  · (intro w; simp only [List.getElem_toArray, List.getElem_cons_zero, List.getElem_cons_succ]; go_simp <;> with_reducible rfl)
                  try simp only [Act.put, List.getElem_toArray, List.getElem_cons_zero, List.getElem_cons_succ, List.setIfInBounds_toArray, List.set_cons_zero, List.set_cons_succ]
                  refine wpAny_ready (rs := [0, 7, 10]) (by kernel_rfl) (by simp) ?_
                  refine AllReady.cons rfl (fun K hK => ?_) ?_
                  · try simp only [List.getElem_toArray, List.getElem_cons_zero, List.getElem_cons_succ]
                    go_simp
                    refine hK _ _ ?_
                    clear hK K
                    try simp only [Act.put, List.getElem_toArray, List.getElem_cons_zero, List.getElem_cons_succ, List.setIfInBounds_toArray, List.set_cons_zero, List.set_cons_succ]
                    refine wpAny_ready (rs := [7, 10]) (by kernel_rfl) (by simp) ?_
                    refine AllReady.cons rfl (fun K hK => ?_) ?_
                    · try simp only [List.getElem_toArray, List.getElem_cons_zero, List.getElem_cons_succ]
                      go_simp
                      refine hK _ _ ?_
                      clear hK K
                      try simp only [Act.put, List.getElem_toArray, List.getElem_cons_zero, List.getElem_cons_succ, List.setIfInBounds_toArray, List.set_cons_zero, List.set_cons_succ]
                      refine wpAny_ready (rs := [8, 10]) (by kernel_rfl) (by simp) ?_
                      refine AllReady.cons rfl (fun K hK => ?_) ?_
                      · refine step_ran rfl _ _ 47 rfl rfl rfl hr1 ?_
                        refine hK _ _ ?_
                        clear hK K
                        try simp only [Act.put, List.getElem_toArray, List.getElem_cons_zero, List.getElem_cons_succ, List.setIfInBounds_toArray, List.set_cons_zero, List.set_cons_succ]
                        refine wpAny_ready (rs := [10]) (by kernel_rfl) (by simp) ?_
                        refine AllReady.cons rfl (fun K hK => ?_) ?_
                        · try simp only [List.getElem_toArray, List.getElem_cons_zero, List.getElem_cons_succ]
                          go_simp
                          refine hK _ _ ?_
                          clear hK K
                          try simp only [Act.put, List.getElem_toArray, List.getElem_cons_zero, List.getElem_cons_succ, List.setIfInBounds_toArray, List.set_cons_zero, List.set_cons_succ]
                          refine wpAny_ready (rs := [11]) (by kernel_rfl) (by simp) ?_
                          refine AllReady.cons rfl (fun K hK => ?_) ?_
                          · refine step_ran rfl _ _ 47 rfl rfl rfl hr2 ?_
                            refine hK _ _ ?_
                            clear hK K
                            try simp only [Act.put, List.getElem_toArray, List.getElem_cons_zero, List.getElem_cons_succ, List.setIfInBounds_toArray, List.set_cons_zero, List.set_cons_succ]
                            refine wpAny_ready (rs := [12]) (by kernel_rfl) (by simp) ?_
                            refine AllReady.cons rfl (fun K hK => ?_) ?_
                            · try simp only [List.getElem_toArray, List.getElem_cons_zero, List.getElem_cons_succ]
                              go_simp
                              with_reducible refine HWA.out.mono ?_
                              rintro e w6 ⟨v6, rfl, hls6, hk6⟩
                              have hK6 := HKA.out.trans' hk6
                              obtain ⟨va6, vc6, hv6⟩ := hls6.form
                              rw [rowsAt_length] at hv6
                              subst hv6
                              obtain ⟨z0, z1, zf0, zf1, zl⟩ := (HBX.out.kept hK6 id).cells
                              try go_wp2_with fail
                              first | (refine hK _ _ ?_; clear hK K) | skip
                              try simp only [Act.put, List.getElem_toArray, List.getElem_cons_zero, List.getElem_cons_succ, List.setIfInBounds_toArray, List.set_cons_zero, List.set_cons_succ]
                              refine wpAny_ready (rs := [13]) (by kernel_rfl) (by simp) ?_
                              refine AllReady.cons rfl (fun K hK => ?_) ?_
                              · try simp only [List.getElem_toArray, List.getElem_cons_zero, List.getElem_cons_succ]
                                go_simp
                                refine hK _ _ ?_
                                clear hK K
                                try simp only [Act.put, List.getElem_toArray, List.getElem_cons_zero, List.getElem_cons_succ, List.setIfInBounds_toArray, List.set_cons_zero, List.set_cons_succ]
                                refine wpAny_done (by kernel_rfl) ?_ _
                                have HN := Lib.hid (HXX.out.step (HK5R.out.trans' hK6) HP.out hls6)
                                clear hK6 hls6 hk6 z0 z1 zf0 zf1 zl
                                generalize (World.setCell _ _ _).setCell _ (.slice va6 _ _) = we at *
                                go_wp2_with fail
                                exact ⟨⟨k + 1, by omega, by simp, HN⟩, by simp [intOf]; omega⟩
                              exact AllReady.nil
                            exact AllReady.nil
                          exact AllReady.nil
                        exact AllReady.nil
                      refine AllReady.cons rfl (fun K hK => ?_) ?_
                      · try simp only [List.getElem_toArray, List.getElem_cons_zero, List.getElem_cons_succ]
                        go_simp
                        refine hK _ _ ?_
                        clear hK K
                        try simp only [Act.put, List.getElem_toArray, List.getElem_cons_zero, List.getElem_cons_succ, List.setIfInBounds_toArray, List.set_cons_zero, List.set_cons_succ]
                        refine wpAny_ready (rs := [8]) (by kernel_rfl) (by simp) ?_
                        refine AllReady.cons rfl (fun K hK => ?_) ?_
                        · refine step_ran rfl _ _ 47 rfl rfl rfl hr3 ?_
                          refine hK _ _ ?_
                          clear hK K
                          try simp only [Act.put, List.getElem_toArray, List.getElem_cons_zero, List.getElem_cons_succ, List.setIfInBounds_toArray, List.set_cons_zero, List.set_cons_succ]
                          refine wpAny_ready (rs := [11]) (by kernel_rfl) (by simp) ?_
                          refine AllReady.cons rfl (fun K hK => ?_) ?_
                          · refine step_ran rfl _ _ 47 rfl rfl rfl hr4 ?_
                            refine hK _ _ ?_
                            clear hK K
                            try simp only [Act.put, List.getElem_toArray, List.getElem_cons_zero, List.getElem_cons_succ, List.setIfInBounds_toArray, List.set_cons_zero, List.set_cons_succ]
                            refine wpAny_ready (rs := [12]) (by kernel_rfl) (by simp) ?_
                            refine AllReady.cons rfl (fun K hK => ?_) ?_
                            · try simp only [List.getElem_toArray, List.getElem_cons_zero, List.getElem_cons_succ]
                              go_simp
                              with_reducible refine HWB.out.mono ?_
                              rintro e w6 ⟨v6, rfl, hls6, hk6⟩
                              have hK6 := HKB.out.trans' hk6
                              obtain ⟨va6, vc6, hv6⟩ := hls6.form
                              rw [rowsAt_length] at hv6
                              subst hv6
                              obtain ⟨z0, z1, zf0, zf1, zl⟩ := (HBX.out.kept hK6 id).cells
                              try go_wp2_with fail
                              first | (refine hK _ _ ?_; clear hK K) | skip
                              try simp only [Act.put, List.getElem_toArray, List.getElem_cons_zero, List.getElem_cons_succ, List.setIfInBounds_toArray, List.set_cons_zero, List.set_cons_succ]
                              refine wpAny_ready (rs := [13]) (by kernel_rfl) (by simp) ?_
                              refine AllReady.cons rfl (fun K hK => ?_) ?_
                              · try simp only [List.getElem_toArray, List.getElem_cons_zero, List.getElem_cons_succ]
                                go_simp
                                refine hK _ _ ?_
                                clear hK K
                                try simp only [Act.put, List.getElem_toArray, List.getElem_cons_zero, List.getElem_cons_succ, List.setIfInBounds_toArray, List.set_cons_zero, List.set_cons_succ]
                                refine wpAny_done (by kernel_rfl) ?_ _
                                have HN := Lib.hid (HXX.out.step (HK5R.out.trans' hK6) HP.out hls6)
                                clear hK6 hls6 hk6 z0 z1 zf0 zf1 zl
                                generalize (World.setCell _ _ _).setCell _ (.slice va6 _ _) = we at *
                                go_wp2_with fail
                                exact ⟨⟨k + 1, by omega, by simp, HN⟩, by simp [intOf]; omega⟩
                              exact AllReady.nil
                            exact AllReady.nil
                          exact AllReady.nil
                        exact AllReady.nil
                      exact AllReady.nil
                    refine AllReady.cons rfl (fun K hK => ?_) ?_
                    · try simp only [List.getElem_toArray, List.getElem_cons_zero, List.getElem_cons_succ]
                      go_simp
                      refine hK _ _ ?_
                      clear hK K
                      try simp only [Act.put, List.getElem_toArray, List.getElem_cons_zero, List.getElem_cons_succ, List.setIfInBounds_toArray, List.set_cons_zero, List.set_cons_succ]
                      refine wpAny_ready (rs := [7]) (by kernel_rfl) (by simp) ?_
                      refine AllReady.cons rfl (fun K hK => ?_) ?_
                      · try simp only [List.getElem_toArray, List.getElem_cons_zero, List.getElem_cons_succ]
                        go_simp
                        refine hK _ _ ?_
                        clear hK K
                        try simp only [Act.put, List.getElem_toArray, List.getElem_cons_zero, List.getElem_cons_succ, List.setIfInBounds_toArray, List.set_cons_zero, List.set_cons_succ]
                        refine wpAny_ready (rs := [8]) (by kernel_rfl) (by simp) ?_
                        refine AllReady.cons rfl (fun K hK => ?_) ?_
                        · refine step_ran rfl _ _ 47 rfl rfl rfl hr3 ?_
                          refine hK _ _ ?_
                          clear hK K
                          try simp only [Act.put, List.getElem_toArray, List.getElem_cons_zero, List.getElem_cons_succ, List.setIfInBounds_toArray, List.set_cons_zero, List.set_cons_succ]
                          refine wpAny_ready (rs := [11]) (by kernel_rfl) (by simp) ?_
                          refine AllReady.cons rfl (fun K hK => ?_) ?_
                          · refine step_ran rfl _ _ 47 rfl rfl rfl hr4 ?_
                            refine hK _ _ ?_
                            clear hK K
                            try simp only [Act.put, List.getElem_toArray, List.getElem_cons_zero, List.getElem_cons_succ, List.setIfInBounds_toArray, List.set_cons_zero, List.set_cons_succ]
                            refine wpAny_ready (rs := [12]) (by kernel_rfl) (by simp) ?_
                            refine AllReady.cons rfl (fun K hK => ?_) ?_
                            · try simp only [List.getElem_toArray, List.getElem_cons_zero, List.getElem_cons_succ]
                              go_simp
                              with_reducible refine HWB.out.mono ?_
                              rintro e w6 ⟨v6, rfl, hls6, hk6⟩
                              have hK6 := HKB.out.trans' hk6
                              obtain ⟨va6, vc6, hv6⟩ := hls6.form
                              rw [rowsAt_length] at hv6
                              subst hv6
                              obtain ⟨z0, z1, zf0, zf1, zl⟩ := (HBX.out.kept hK6 id).cells
                              try go_wp2_with fail
                              first | (refine hK _ _ ?_; clear hK K) | skip
                              try simp only [Act.put, List.getElem_toArray, List.getElem_cons_zero, List.getElem_cons_succ, List.setIfInBounds_toArray, List.set_cons_zero, List.set_cons_succ]
                              refine wpAny_ready (rs := [13]) (by kernel_rfl) (by simp) ?_
                              refine AllReady.cons rfl (fun K hK => ?_) ?_
                              · try simp only [List.getElem_toArray, List.getElem_cons_zero, List.getElem_cons_succ]
                                go_simp
                                refine hK _ _ ?_
                                clear hK K
                                try simp only [Act.put, List.getElem_toArray, List.getElem_cons_zero, List.getElem_cons_succ, List.setIfInBounds_toArray, List.set_cons_zero, List.set_cons_succ]
                                refine wpAny_done (by kernel_rfl) ?_ _
                                have HN := Lib.hid (HXX.out.step (HK5R.out.trans' hK6) HP.out hls6)
                                clear hK6 hls6 hk6 z0 z1 zf0 zf1 zl
                                generalize (World.setCell _ _ _).setCell _ (.slice va6 _ _) = we at *
                                go_wp2_with fail
                                exact ⟨⟨k + 1, by omega, by simp, HN⟩, by simp [intOf]; omega⟩
                              exact AllReady.nil
                            exact AllReady.nil
                          exact AllReady.nil
                        exact AllReady.nil
                      exact AllReady.nil
                    exact AllReady.nil
                  refine AllReady.cons rfl (fun K hK => ?_) ?_
                  · try simp only [List.getElem_toArray, List.getElem_cons_zero, List.getElem_cons_succ]
                    go_simp
                    refine hK _ _ ?_
                    clear hK K
                    try simp only [Act.put, List.getElem_toArray, List.getElem_cons_zero, List.getElem_cons_succ, List.setIfInBounds_toArray, List.set_cons_zero, List.set_cons_succ]
                    refine wpAny_ready (rs := [0, 8, 10]) (by kernel_rfl) (by simp) ?_
                    refine AllReady.cons rfl (fun K hK => ?_) ?_
                    · try simp only [List.getElem_toArray, List.getElem_cons_zero, List.getElem_cons_succ]
                      go_simp
                      refine hK _ _ ?_
                      clear hK K
                      try simp only [Act.put, List.getElem_toArray, List.getElem_cons_zero, List.getElem_cons_succ, List.setIfInBounds_toArray, List.set_cons_zero, List.set_cons_succ]
                      refine wpAny_ready (rs := [8, 10]) (by kernel_rfl) (by simp) ?_
                      refine AllReady.cons rfl (fun K hK => ?_) ?_
                      · refine step_ran rfl _ _ 47 rfl rfl rfl hr1 ?_
                        refine hK _ _ ?_
                        clear hK K
                        try simp only [Act.put, List.getElem_toArray, List.getElem_cons_zero, List.getElem_cons_succ, List.setIfInBounds_toArray, List.set_cons_zero, List.set_cons_succ]
                        refine wpAny_ready (rs := [10]) (by kernel_rfl) (by simp) ?_
                        refine AllReady.cons rfl (fun K hK => ?_) ?_
                        · try simp only [List.getElem_toArray, List.getElem_cons_zero, List.getElem_cons_succ]
                          go_simp
                          refine hK _ _ ?_
                          clear hK K
                          try simp only [Act.put, List.getElem_toArray, List.getElem_cons_zero, List.getElem_cons_succ, List.setIfInBounds_toArray, List.set_cons_zero, List.set_cons_succ]
                          refine wpAny_ready (rs := [11]) (by kernel_rfl) (by simp) ?_
                          refine AllReady.cons rfl (fun K hK => ?_) ?_
                          · refine step_ran rfl _ _ 47 rfl rfl rfl hr2 ?_
                            refine hK _ _ ?_
                            clear hK K
                            try simp only [Act.put, List.getElem_toArray, List.getElem_cons_zero, List.getElem_cons_succ, List.setIfInBounds_toArray, List.set_cons_zero, List.set_cons_succ]
                            refine wpAny_ready (rs := [12]) (by kernel_rfl) (by simp) ?_
                            refine AllReady.cons rfl (fun K hK => ?_) ?_
                            · try simp only [List.getElem_toArray, List.getElem_cons_zero, List.getElem_cons_succ]
                              go_simp
                              with_reducible refine HWA.out.mono ?_
                              rintro e w6 ⟨v6, rfl, hls6, hk6⟩
                              have hK6 := HKA.out.trans' hk6
                              obtain ⟨va6, vc6, hv6⟩ := hls6.form
                              rw [rowsAt_length] at hv6
                              subst hv6
                              obtain ⟨z0, z1, zf0, zf1, zl⟩ := (HBX.out.kept hK6 id).cells
                              try go_wp2_with fail
                              first | (refine hK _ _ ?_; clear hK K) | skip
                              try simp only [Act.put, List.getElem_toArray, List.getElem_cons_zero, List.getElem_cons_succ, List.setIfInBounds_toArray, List.set_cons_zero, List.set_cons_succ]
                              refine wpAny_ready (rs := [13]) (by kernel_rfl) (by simp) ?_
                              refine AllReady.cons rfl (fun K hK => ?_) ?_
                              · try simp only [List.getElem_toArray, List.getElem_cons_zero, List.getElem_cons_succ]
                                go_simp
                                refine hK _ _ ?_
                                clear hK K
                                try simp only [Act.put, List.getElem_toArray, List.getElem_cons_zero, List.getElem_cons_succ, List.setIfInBounds_toArray, List.set_cons_zero, List.set_cons_succ]
                                refine wpAny_done (by kernel_rfl) ?_ _
                                have HN := Lib.hid (HXX.out.step (HK5R.out.trans' hK6) HP.out hls6)
                                clear hK6 hls6 hk6 z0 z1 zf0 zf1 zl
                                generalize (World.setCell _ _ _).setCell _ (.slice va6 _ _) = we at *
                                go_wp2_with fail
                                exact ⟨⟨k + 1, by omega, by simp, HN⟩, by simp [intOf]; omega⟩
                              exact AllReady.nil
                            exact AllReady.nil
                          exact AllReady.nil
                        exact AllReady.nil
                      refine AllReady.cons rfl (fun K hK => ?_) ?_
                      · try simp only [List.getElem_toArray, List.getElem_cons_zero, List.getElem_cons_succ]
                        go_simp
                        refine hK _ _ ?_
                        clear hK K
                        try simp only [Act.put, List.getElem_toArray, List.getElem_cons_zero, List.getElem_cons_succ, List.setIfInBounds_toArray, List.set_cons_zero, List.set_cons_succ]
                        refine wpAny_ready (rs := [8]) (by kernel_rfl) (by simp) ?_
                        refine AllReady.cons rfl (fun K hK => ?_) ?_
                        · refine step_ran rfl _ _ 47 rfl rfl rfl hr3 ?_
                          refine hK _ _ ?_
                          clear hK K
                          try simp only [Act.put, List.getElem_toArray, List.getElem_cons_zero, List.getElem_cons_succ, List.setIfInBounds_toArray, List.set_cons_zero, List.set_cons_succ]
                          refine wpAny_ready (rs := [11]) (by kernel_rfl) (by simp) ?_
                          refine AllReady.cons rfl (fun K hK => ?_) ?_
                          · refine step_ran rfl _ _ 47 rfl rfl rfl hr4 ?_
                            refine hK _ _ ?_
                            clear hK K
                            try simp only [Act.put, List.getElem_toArray, List.getElem_cons_zero, List.getElem_cons_succ, List.setIfInBounds_toArray, List.set_cons_zero, List.set_cons_succ]
                            refine wpAny_ready (rs := [12]) (by kernel_rfl) (by simp) ?_
                            refine AllReady.cons rfl (fun K hK => ?_) ?_
                            · try simp only [List.getElem_toArray, List.getElem_cons_zero, List.getElem_cons_succ]
                              go_simp
                              with_reducible refine HWB.out.mono ?_
                              rintro e w6 ⟨v6, rfl, hls6, hk6⟩
                              have hK6 := HKB.out.trans' hk6
                              obtain ⟨va6, vc6, hv6⟩ := hls6.form
                              rw [rowsAt_length] at hv6
                              subst hv6
                              obtain ⟨z0, z1, zf0, zf1, zl⟩ := (HBX.out.kept hK6 id).cells
                              try go_wp2_with fail
                              first | (refine hK _ _ ?_; clear hK K) | skip
                              try simp only [Act.put, List.getElem_toArray, List.getElem_cons_zero, List.getElem_cons_succ, List.setIfInBounds_toArray, List.set_cons_zero, List.set_cons_succ]
                              refine wpAny_ready (rs := [13]) (by kernel_rfl) (by simp) ?_
                              refine AllReady.cons rfl (fun K hK => ?_) ?_
                              · try simp only [List.getElem_toArray, List.getElem_cons_zero, List.getElem_cons_succ]
                                go_simp
                                refine hK _ _ ?_
                                clear hK K
                                try simp only [Act.put, List.getElem_toArray, List.getElem_cons_zero, List.getElem_cons_succ, List.setIfInBounds_toArray, List.set_cons_zero, List.set_cons_succ]
                                refine wpAny_done (by kernel_rfl) ?_ _
                                have HN := Lib.hid (HXX.out.step (HK5R.out.trans' hK6) HP.out hls6)
                                clear hK6 hls6 hk6 z0 z1 zf0 zf1 zl
                                generalize (World.setCell _ _ _).setCell _ (.slice va6 _ _) = we at *
                                go_wp2_with fail
                                exact ⟨⟨k + 1, by omega, by simp, HN⟩, by simp [intOf]; omega⟩
                              exact AllReady.nil
                            exact AllReady.nil
                          exact AllReady.nil
                        exact AllReady.nil
                      exact AllReady.nil
                    refine AllReady.cons rfl (fun K hK => ?_) ?_
                    · refine step_ran rfl _ _ 47 rfl rfl rfl hr1 ?_
                      refine hK _ _ ?_
                      clear hK K
                      try simp only [Act.put, List.getElem_toArray, List.getElem_cons_zero, List.getElem_cons_succ, List.setIfInBounds_toArray, List.set_cons_zero, List.set_cons_succ]
                      refine wpAny_ready (rs := [0, 10]) (by kernel_rfl) (by simp) ?_
                      refine AllReady.cons rfl (fun K hK => ?_) ?_
                      · try simp only [List.getElem_toArray, List.getElem_cons_zero, List.getElem_cons_succ]
                        go_simp
                        refine hK _ _ ?_
                        clear hK K
                        try simp only [Act.put, List.getElem_toArray, List.getElem_cons_zero, List.getElem_cons_succ, List.setIfInBounds_toArray, List.set_cons_zero, List.set_cons_succ]
                        refine wpAny_ready (rs := [10]) (by kernel_rfl) (by simp) ?_
                        refine AllReady.cons rfl (fun K hK => ?_) ?_
                        · try simp only [List.getElem_toArray, List.getElem_cons_zero, List.getElem_cons_succ]
                          go_simp
                          refine hK _ _ ?_
                          clear hK K
                          try simp only [Act.put, List.getElem_toArray, List.getElem_cons_zero, List.getElem_cons_succ, List.setIfInBounds_toArray, List.set_cons_zero, List.set_cons_succ]
                          refine wpAny_ready (rs := [11]) (by kernel_rfl) (by simp) ?_
                          refine AllReady.cons rfl (fun K hK => ?_) ?_
                          · refine step_ran rfl _ _ 47 rfl rfl rfl hr2 ?_
                            refine hK _ _ ?_
                            clear hK K
                            try simp only [Act.put, List.getElem_toArray, List.getElem_cons_zero, List.getElem_cons_succ, List.setIfInBounds_toArray, List.set_cons_zero, List.set_cons_succ]
                            refine wpAny_ready (rs := [12]) (by kernel_rfl) (by simp) ?_
                            refine AllReady.cons rfl (fun K hK => ?_) ?_
                            · try simp only [List.getElem_toArray, List.getElem_cons_zero, List.getElem_cons_succ]
                              go_simp
                              with_reducible refine HWA.out.mono ?_
                              rintro e w6 ⟨v6, rfl, hls6, hk6⟩
                              have hK6 := HKA.out.trans' hk6
                              obtain ⟨va6, vc6, hv6⟩ := hls6.form
                              rw [rowsAt_length] at hv6
                              subst hv6
                              obtain ⟨z0, z1, zf0, zf1, zl⟩ := (HBX.out.kept hK6 id).cells
                              try go_wp2_with fail
                              first | (refine hK _ _ ?_; clear hK K) | skip
                              try simp only [Act.put, List.getElem_toArray, List.getElem_cons_zero, List.getElem_cons_succ, List.setIfInBounds_toArray, List.set_cons_zero, List.set_cons_succ]
                              refine wpAny_ready (rs := [13]) (by kernel_rfl) (by simp) ?_
                              refine AllReady.cons rfl (fun K hK => ?_) ?_
                              · try simp only [List.getElem_toArray, List.getElem_cons_zero, List.getElem_cons_succ]
                                go_simp
                                refine hK _ _ ?_
                                clear hK K
                                try simp only [Act.put, List.getElem_toArray, List.getElem_cons_zero, List.getElem_cons_succ, List.setIfInBounds_toArray, List.set_cons_zero, List.set_cons_succ]
                                refine wpAny_done (by kernel_rfl) ?_ _
                                have HN := Lib.hid (HXX.out.step (HK5R.out.trans' hK6) HP.out hls6)
                                clear hK6 hls6 hk6 z0 z1 zf0 zf1 zl
                                generalize (World.setCell _ _ _).setCell _ (.slice va6 _ _) = we at *
                                go_wp2_with fail
                                exact ⟨⟨k + 1, by omega, by simp, HN⟩, by simp [intOf]; omega⟩
                              exact AllReady.nil
                            exact AllReady.nil
                          exact AllReady.nil
                        exact AllReady.nil
                      refine AllReady.cons rfl (fun K hK => ?_) ?_
                      · try simp only [List.getElem_toArray, List.getElem_cons_zero, List.getElem_cons_succ]
                        go_simp
                        refine hK _ _ ?_
                        clear hK K
                        try simp only [Act.put, List.getElem_toArray, List.getElem_cons_zero, List.getElem_cons_succ, List.setIfInBounds_toArray, List.set_cons_zero, List.set_cons_succ]
                        refine wpAny_ready (rs := [0, 11]) (by kernel_rfl) (by simp) ?_
                        refine AllReady.cons rfl (fun K hK => ?_) ?_
                        · try simp only [List.getElem_toArray, List.getElem_cons_zero, List.getElem_cons_succ]
                          go_simp
                          refine hK _ _ ?_
                          clear hK K
                          try simp only [Act.put, List.getElem_toArray, List.getElem_cons_zero, List.getElem_cons_succ, List.setIfInBounds_toArray, List.set_cons_zero, List.set_cons_succ]
                          refine wpAny_ready (rs := [11]) (by kernel_rfl) (by simp) ?_
                          refine AllReady.cons rfl (fun K hK => ?_) ?_
                          · refine step_ran rfl _ _ 47 rfl rfl rfl hr2 ?_
                            refine hK _ _ ?_
                            clear hK K
                            try simp only [Act.put, List.getElem_toArray, List.getElem_cons_zero, List.getElem_cons_succ, List.setIfInBounds_toArray, List.set_cons_zero, List.set_cons_succ]
                            refine wpAny_ready (rs := [12]) (by kernel_rfl) (by simp) ?_
                            refine AllReady.cons rfl (fun K hK => ?_) ?_
                            · try simp only [List.getElem_toArray, List.getElem_cons_zero, List.getElem_cons_succ]
                              go_simp
                              with_reducible refine HWA.out.mono ?_
                              rintro e w6 ⟨v6, rfl, hls6, hk6⟩
                              have hK6 := HKA.out.trans' hk6
                              obtain ⟨va6, vc6, hv6⟩ := hls6.form
                              rw [rowsAt_length] at hv6
                              subst hv6
                              obtain ⟨z0, z1, zf0, zf1, zl⟩ := (HBX.out.kept hK6 id).cells
                              try go_wp2_with fail
                              first | (refine hK _ _ ?_; clear hK K) | skip
                              try simp only [Act.put, List.getElem_toArray, List.getElem_cons_zero, List.getElem_cons_succ, List.setIfInBounds_toArray, List.set_cons_zero, List.set_cons_succ]
                              refine wpAny_ready (rs := [13]) (by kernel_rfl) (by simp) ?_
                              refine AllReady.cons rfl (fun K hK => ?_) ?_
                              · try simp only [List.getElem_toArray, List.getElem_cons_zero, List.getElem_cons_succ]
                                go_simp
                                refine hK _ _ ?_
                                clear hK K
                                try simp only [Act.put, List.getElem_toArray, List.getElem_cons_zero, List.getElem_cons_succ, List.setIfInBounds_toArray, List.set_cons_zero, List.set_cons_succ]
                                refine wpAny_done (by kernel_rfl) ?_ _
                                have HN := Lib.hid (HXX.out.step (HK5R.out.trans' hK6) HP.out hls6)
                                clear hK6 hls6 hk6 z0 z1 zf0 zf1 zl
                                generalize (World.setCell _ _ _).setCell _ (.slice va6 _ _) = we at *
                                go_wp2_with fail
                                exact ⟨⟨k + 1, by omega, by simp, HN⟩, by simp [intOf]; omega⟩
                              exact AllReady.nil
                            exact AllReady.nil
                          exact AllReady.nil
                        refine AllReady.cons rfl (fun K hK => ?_) ?_
                        · refine step_ran rfl _ _ 47 rfl rfl rfl hr2 ?_
                          refine hK _ _ ?_
                          clear hK K
                          try simp only [Act.put, List.getElem_toArray, List.getElem_cons_zero, List.getElem_cons_succ, List.setIfInBounds_toArray, List.set_cons_zero, List.set_cons_succ]
                          refine wpAny_ready (rs := [0]) (by kernel_rfl) (by simp) ?_
                          refine AllReady.cons rfl (fun K hK => ?_) ?_
                          · try simp only [List.getElem_toArray, List.getElem_cons_zero, List.getElem_cons_succ]
                            go_simp
                            refine hK _ _ ?_
                            clear hK K
                            try simp only [Act.put, List.getElem_toArray, List.getElem_cons_zero, List.getElem_cons_succ, List.setIfInBounds_toArray, List.set_cons_zero, List.set_cons_succ]
                            refine wpAny_ready (rs := [12]) (by kernel_rfl) (by simp) ?_
                            refine AllReady.cons rfl (fun K hK => ?_) ?_
                            · try simp only [List.getElem_toArray, List.getElem_cons_zero, List.getElem_cons_succ]
                              go_simp
                              with_reducible refine HWA.out.mono ?_
                              rintro e w6 ⟨v6, rfl, hls6, hk6⟩
                              have hK6 := HKA.out.trans' hk6
                              obtain ⟨va6, vc6, hv6⟩ := hls6.form
                              rw [rowsAt_length] at hv6
                              subst hv6
                              obtain ⟨z0, z1, zf0, zf1, zl⟩ := (HBX.out.kept hK6 id).cells
                              try go_wp2_with fail
                              first | (refine hK _ _ ?_; clear hK K) | skip
                              try simp only [Act.put, List.getElem_toArray, List.getElem_cons_zero, List.getElem_cons_succ, List.setIfInBounds_toArray, List.set_cons_zero, List.set_cons_succ]
                              refine wpAny_ready (rs := [13]) (by kernel_rfl) (by simp) ?_
                              refine AllReady.cons rfl (fun K hK => ?_) ?_
                              · try simp only [List.getElem_toArray, List.getElem_cons_zero, List.getElem_cons_succ]
                                go_simp
                                refine hK _ _ ?_
                                clear hK K
                                try simp only [Act.put, List.getElem_toArray, List.getElem_cons_zero, List.getElem_cons_succ, List.setIfInBounds_toArray, List.set_cons_zero, List.set_cons_succ]
                                refine wpAny_done (by kernel_rfl) ?_ _
                                have HN := Lib.hid (HXX.out.step (HK5R.out.trans' hK6) HP.out hls6)
                                clear hK6 hls6 hk6 z0 z1 zf0 zf1 zl
                                generalize (World.setCell _ _ _).setCell _ (.slice va6 _ _) = we at *
                                go_wp2_with fail
                                exact ⟨⟨k + 1, by omega, by simp, HN⟩, by simp [intOf]; omega⟩
                              exact AllReady.nil
                            exact AllReady.nil
                          exact AllReady.nil
                        exact AllReady.nil
                      exact AllReady.nil
                    refine AllReady.cons rfl (fun K hK => ?_) ?_
                    · try simp only [List.getElem_toArray, List.getElem_cons_zero, List.getElem_cons_succ]
                      go_simp
                      refine hK _ _ ?_
                      clear hK K
                      try simp only [Act.put, List.getElem_toArray, List.getElem_cons_zero, List.getElem_cons_succ, List.setIfInBounds_toArray, List.set_cons_zero, List.set_cons_succ]
                      refine wpAny_ready (rs := [0, 8]) (by kernel_rfl) (by simp) ?_
                      refine AllReady.cons rfl (fun K hK => ?_) ?_
                      · try simp only [List.getElem_toArray, List.getElem_cons_zero, List.getElem_cons_succ]
                        go_simp
                        refine hK _ _ ?_
                        clear hK K
                        try simp only [Act.put, List.getElem_toArray, List.getElem_cons_zero, List.getElem_cons_succ, List.setIfInBounds_toArray, List.set_cons_zero, List.set_cons_succ]
                        refine wpAny_ready (rs := [8]) (by kernel_rfl) (by simp) ?_
                        refine AllReady.cons rfl (fun K hK => ?_) ?_
                        · refine step_ran rfl _ _ 47 rfl rfl rfl hr3 ?_
                          refine hK _ _ ?_
                          clear hK K
                          try simp only [Act.put, List.getElem_toArray, List.getElem_cons_zero, List.getElem_cons_succ, List.setIfInBounds_toArray, List.set_cons_zero, List.set_cons_succ]
                          refine wpAny_ready (rs := [11]) (by kernel_rfl) (by simp) ?_
                          refine AllReady.cons rfl (fun K hK => ?_) ?_
                          · refine step_ran rfl _ _ 47 rfl rfl rfl hr4 ?_
                            refine hK _ _ ?_
                            clear hK K
                            try simp only [Act.put, List.getElem_toArray, List.getElem_cons_zero, List.getElem_cons_succ, List.setIfInBounds_toArray, List.set_cons_zero, List.set_cons_succ]
                            refine wpAny_ready (rs := [12]) (by kernel_rfl) (by simp) ?_
                            refine AllReady.cons rfl (fun K hK => ?_) ?_
                            · try simp only [List.getElem_toArray, List.getElem_cons_zero, List.getElem_cons_succ]
                              go_simp
                              with_reducible refine HWB.out.mono ?_
                              rintro e w6 ⟨v6, rfl, hls6, hk6⟩
                              have hK6 := HKB.out.trans' hk6
                              obtain ⟨va6, vc6, hv6⟩ := hls6.form
                              rw [rowsAt_length] at hv6
                              subst hv6
                              obtain ⟨z0, z1, zf0, zf1, zl⟩ := (HBX.out.kept hK6 id).cells
                              try go_wp2_with fail
                              first | (refine hK _ _ ?_; clear hK K) | skip
                              try simp only [Act.put, List.getElem_toArray, List.getElem_cons_zero, List.getElem_cons_succ, List.setIfInBounds_toArray, List.set_cons_zero, List.set_cons_succ]
                              refine wpAny_ready (rs := [13]) (by kernel_rfl) (by simp) ?_
                              refine AllReady.cons rfl (fun K hK => ?_) ?_
                              · try simp only [List.getElem_toArray, List.getElem_cons_zero, List.getElem_cons_succ]
                                go_simp
                                refine hK _ _ ?_
                                clear hK K
                                try simp only [Act.put, List.getElem_toArray, List.getElem_cons_zero, List.getElem_cons_succ, List.setIfInBounds_toArray, List.set_cons_zero, List.set_cons_succ]
                                refine wpAny_done (by kernel_rfl) ?_ _
                                have HN := Lib.hid (HXX.out.step (HK5R.out.trans' hK6) HP.out hls6)
                                clear hK6 hls6 hk6 z0 z1 zf0 zf1 zl
                                generalize (World.setCell _ _ _).setCell _ (.slice va6 _ _) = we at *
                                go_wp2_with fail
                                exact ⟨⟨k + 1, by omega, by simp, HN⟩, by simp [intOf]; omega⟩
                              exact AllReady.nil
                            exact AllReady.nil
                          exact AllReady.nil
                        exact AllReady.nil
                      refine AllReady.cons rfl (fun K hK => ?_) ?_
                      · refine step_ran rfl _ _ 47 rfl rfl rfl hr3 ?_
                        refine hK _ _ ?_
                        clear hK K
                        try simp only [Act.put, List.getElem_toArray, List.getElem_cons_zero, List.getElem_cons_succ, List.setIfInBounds_toArray, List.set_cons_zero, List.set_cons_succ]
                        refine wpAny_ready (rs := [0, 11]) (by kernel_rfl) (by simp) ?_
                        refine AllReady.cons rfl (fun K hK => ?_) ?_
                        · try simp only [List.getElem_toArray, List.getElem_cons_zero, List.getElem_cons_succ]
                          go_simp
                          refine hK _ _ ?_
                          clear hK K
                          try simp only [Act.put, List.getElem_toArray, List.getElem_cons_zero, List.getElem_cons_succ, List.setIfInBounds_toArray, List.set_cons_zero, List.set_cons_succ]
                          refine wpAny_ready (rs := [11]) (by kernel_rfl) (by simp) ?_
                          refine AllReady.cons rfl (fun K hK => ?_) ?_
                          · refine step_ran rfl _ _ 47 rfl rfl rfl hr4 ?_
                            refine hK _ _ ?_
                            clear hK K
                            try simp only [Act.put, List.getElem_toArray, List.getElem_cons_zero, List.getElem_cons_succ, List.setIfInBounds_toArray, List.set_cons_zero, List.set_cons_succ]
                            refine wpAny_ready (rs := [12]) (by kernel_rfl) (by simp) ?_
                            refine AllReady.cons rfl (fun K hK => ?_) ?_
                            · try simp only [List.getElem_toArray, List.getElem_cons_zero, List.getElem_cons_succ]
                              go_simp
                              with_reducible refine HWB.out.mono ?_
                              rintro e w6 ⟨v6, rfl, hls6, hk6⟩
                              have hK6 := HKB.out.trans' hk6
                              obtain ⟨va6, vc6, hv6⟩ := hls6.form
                              rw [rowsAt_length] at hv6
                              subst hv6
                              obtain ⟨z0, z1, zf0, zf1, zl⟩ := (HBX.out.kept hK6 id).cells
                              try go_wp2_with fail
                              first | (refine hK _ _ ?_; clear hK K) | skip
                              try simp only [Act.put, List.getElem_toArray, List.getElem_cons_zero, List.getElem_cons_succ, List.setIfInBounds_toArray, List.set_cons_zero, List.set_cons_succ]
                              refine wpAny_ready (rs := [13]) (by kernel_rfl) (by simp) ?_
                              refine AllReady.cons rfl (fun K hK => ?_) ?_
                              · try simp only [List.getElem_toArray, List.getElem_cons_zero, List.getElem_cons_succ]
                                go_simp
                                refine hK _ _ ?_
                                clear hK K
                                try simp only [Act.put, List.getElem_toArray, List.getElem_cons_zero, List.getElem_cons_succ, List.setIfInBounds_toArray, List.set_cons_zero, List.set_cons_succ]
                                refine wpAny_done (by kernel_rfl) ?_ _
                                have HN := Lib.hid (HXX.out.step (HK5R.out.trans' hK6) HP.out hls6)
                                clear hK6 hls6 hk6 z0 z1 zf0 zf1 zl
                                generalize (World.setCell _ _ _).setCell _ (.slice va6 _ _) = we at *
                                go_wp2_with fail
                                exact ⟨⟨k + 1, by omega, by simp, HN⟩, by simp [intOf]; omega⟩
                              exact AllReady.nil
                            exact AllReady.nil
                          exact AllReady.nil
                        refine AllReady.cons rfl (fun K hK => ?_) ?_
                        · refine step_ran rfl _ _ 47 rfl rfl rfl hr4 ?_
                          refine hK _ _ ?_
                          clear hK K
                          try simp only [Act.put, List.getElem_toArray, List.getElem_cons_zero, List.getElem_cons_succ, List.setIfInBounds_toArray, List.set_cons_zero, List.set_cons_succ]
                          refine wpAny_ready (rs := [0]) (by kernel_rfl) (by simp) ?_
                          refine AllReady.cons rfl (fun K hK => ?_) ?_
                          · try simp only [List.getElem_toArray, List.getElem_cons_zero, List.getElem_cons_succ]
                            go_simp
                            refine hK _ _ ?_
                            clear hK K
                            try simp only [Act.put, List.getElem_toArray, List.getElem_cons_zero, List.getElem_cons_succ, List.setIfInBounds_toArray, List.set_cons_zero, List.set_cons_succ]
                            refine wpAny_ready (rs := [12]) (by kernel_rfl) (by simp) ?_
                            refine AllReady.cons rfl (fun K hK => ?_) ?_
                            · try simp only [List.getElem_toArray, List.getElem_cons_zero, List.getElem_cons_succ]
                              go_simp
                              with_reducible refine HWB.out.mono ?_
                              rintro e w6 ⟨v6, rfl, hls6, hk6⟩
                              have hK6 := HKB.out.trans' hk6
                              obtain ⟨va6, vc6, hv6⟩ := hls6.form
                              rw [rowsAt_length] at hv6
                              subst hv6
                              obtain ⟨z0, z1, zf0, zf1, zl⟩ := (HBX.out.kept hK6 id).cells
                              try go_wp2_with fail
                              first | (refine hK _ _ ?_; clear hK K) | skip
                              try simp only [Act.put, List.getElem_toArray, List.getElem_cons_zero, List.getElem_cons_succ, List.setIfInBounds_toArray, List.set_cons_zero, List.set_cons_succ]
                              refine wpAny_ready (rs := [13]) (by kernel_rfl) (by simp) ?_
                              refine AllReady.cons rfl (fun K hK => ?_) ?_
                              · try simp only [List.getElem_toArray, List.getElem_cons_zero, List.getElem_cons_succ]
                                go_simp
                                refine hK _ _ ?_
                                clear hK K
                                try simp only [Act.put, List.getElem_toArray, List.getElem_cons_zero, List.getElem_cons_succ, List.setIfInBounds_toArray, List.set_cons_zero, List.set_cons_succ]
                                refine wpAny_done (by kernel_rfl) ?_ _
                                have HN := Lib.hid (HXX.out.step (HK5R.out.trans' hK6) HP.out hls6)
                                clear hK6 hls6 hk6 z0 z1 zf0 zf1 zl
                                generalize (World.setCell _ _ _).setCell _ (.slice va6 _ _) = we at *
                                go_wp2_with fail
                                exact ⟨⟨k + 1, by omega, by simp, HN⟩, by simp [intOf]; omega⟩
                              exact AllReady.nil
                            exact AllReady.nil
                          exact AllReady.nil
                        exact AllReady.nil
                      exact AllReady.nil
                    exact AllReady.nil
                  refine AllReady.cons rfl (fun K hK => ?_) ?_
                  · try simp only [List.getElem_toArray, List.getElem_cons_zero, List.getElem_cons_succ]
                    go_simp
                    refine hK _ _ ?_
                    clear hK K
                    try simp only [Act.put, List.getElem_toArray, List.getElem_cons_zero, List.getElem_cons_succ, List.setIfInBounds_toArray, List.set_cons_zero, List.set_cons_succ]
                    refine wpAny_ready (rs := [0, 7]) (by kernel_rfl) (by simp) ?_
                    refine AllReady.cons rfl (fun K hK => ?_) ?_
                    · try simp only [List.getElem_toArray, List.getElem_cons_zero, List.getElem_cons_succ]
                      go_simp
                      refine hK _ _ ?_
                      clear hK K
                      try simp only [Act.put, List.getElem_toArray, List.getElem_cons_zero, List.getElem_cons_succ, List.setIfInBounds_toArray, List.set_cons_zero, List.set_cons_succ]
                      refine wpAny_ready (rs := [7]) (by kernel_rfl) (by simp) ?_
                      refine AllReady.cons rfl (fun K hK => ?_) ?_
                      · try simp only [List.getElem_toArray, List.getElem_cons_zero, List.getElem_cons_succ]
                        go_simp
                        refine hK _ _ ?_
                        clear hK K
                        try simp only [Act.put, List.getElem_toArray, List.getElem_cons_zero, List.getElem_cons_succ, List.setIfInBounds_toArray, List.set_cons_zero, List.set_cons_succ]
                        refine wpAny_ready (rs := [8]) (by kernel_rfl) (by simp) ?_
                        refine AllReady.cons rfl (fun K hK => ?_) ?_
                        · refine step_ran rfl _ _ 47 rfl rfl rfl hr3 ?_
                          refine hK _ _ ?_
                          clear hK K
                          try simp only [Act.put, List.getElem_toArray, List.getElem_cons_zero, List.getElem_cons_succ, List.setIfInBounds_toArray, List.set_cons_zero, List.set_cons_succ]
                          refine wpAny_ready (rs := [11]) (by kernel_rfl) (by simp) ?_
                          refine AllReady.cons rfl (fun K hK => ?_) ?_
                          · refine step_ran rfl _ _ 47 rfl rfl rfl hr4 ?_
                            refine hK _ _ ?_
                            clear hK K
                            try simp only [Act.put, List.getElem_toArray, List.getElem_cons_zero, List.getElem_cons_succ, List.setIfInBounds_toArray, List.set_cons_zero, List.set_cons_succ]
                            refine wpAny_ready (rs := [12]) (by kernel_rfl) (by simp) ?_
                            refine AllReady.cons rfl (fun K hK => ?_) ?_
                            · try simp only [List.getElem_toArray, List.getElem_cons_zero, List.getElem_cons_succ]
                              go_simp
                              with_reducible refine HWB.out.mono ?_
                              rintro e w6 ⟨v6, rfl, hls6, hk6⟩
                              have hK6 := HKB.out.trans' hk6
                              obtain ⟨va6, vc6, hv6⟩ := hls6.form
                              rw [rowsAt_length] at hv6
                              subst hv6
                              obtain ⟨z0, z1, zf0, zf1, zl⟩ := (HBX.out.kept hK6 id).cells
                              try go_wp2_with fail
                              first | (refine hK _ _ ?_; clear hK K) | skip
                              try simp only [Act.put, List.getElem_toArray, List.getElem_cons_zero, List.getElem_cons_succ, List.setIfInBounds_toArray, List.set_cons_zero, List.set_cons_succ]
                              refine wpAny_ready (rs := [13]) (by kernel_rfl) (by simp) ?_
                              refine AllReady.cons rfl (fun K hK => ?_) ?_
                              · try simp only [List.getElem_toArray, List.getElem_cons_zero, List.getElem_cons_succ]
                                go_simp
                                refine hK _ _ ?_
                                clear hK K
                                try simp only [Act.put, List.getElem_toArray, List.getElem_cons_zero, List.getElem_cons_succ, List.setIfInBounds_toArray, List.set_cons_zero, List.set_cons_succ]
                                refine wpAny_done (by kernel_rfl) ?_ _
                                have HN := Lib.hid (HXX.out.step (HK5R.out.trans' hK6) HP.out hls6)
                                clear hK6 hls6 hk6 z0 z1 zf0 zf1 zl
                                generalize (World.setCell _ _ _).setCell _ (.slice va6 _ _) = we at *
                                go_wp2_with fail
                                exact ⟨⟨k + 1, by omega, by simp, HN⟩, by simp [intOf]; omega⟩
                              exact AllReady.nil
                            exact AllReady.nil
                          exact AllReady.nil
                        exact AllReady.nil
                      exact AllReady.nil
                    refine AllReady.cons rfl (fun K hK => ?_) ?_
                    · try simp only [List.getElem_toArray, List.getElem_cons_zero, List.getElem_cons_succ]
                      go_simp
                      refine hK _ _ ?_
                      clear hK K
                      try simp only [Act.put, List.getElem_toArray, List.getElem_cons_zero, List.getElem_cons_succ, List.setIfInBounds_toArray, List.set_cons_zero, List.set_cons_succ]
                      refine wpAny_ready (rs := [0, 8]) (by kernel_rfl) (by simp) ?_
                      refine AllReady.cons rfl (fun K hK => ?_) ?_
                      · try simp only [List.getElem_toArray, List.getElem_cons_zero, List.getElem_cons_succ]
                        go_simp
                        refine hK _ _ ?_
                        clear hK K
                        try simp only [Act.put, List.getElem_toArray, List.getElem_cons_zero, List.getElem_cons_succ, List.setIfInBounds_toArray, List.set_cons_zero, List.set_cons_succ]
                        refine wpAny_ready (rs := [8]) (by kernel_rfl) (by simp) ?_
                        refine AllReady.cons rfl (fun K hK => ?_) ?_
                        · refine step_ran rfl _ _ 47 rfl rfl rfl hr3 ?_
                          refine hK _ _ ?_
                          clear hK K
                          try simp only [Act.put, List.getElem_toArray, List.getElem_cons_zero, List.getElem_cons_succ, List.setIfInBounds_toArray, List.set_cons_zero, List.set_cons_succ]
                          refine wpAny_ready (rs := [11]) (by kernel_rfl) (by simp) ?_
                          refine AllReady.cons rfl (fun K hK => ?_) ?_
                          · refine step_ran rfl _ _ 47 rfl rfl rfl hr4 ?_
                            refine hK _ _ ?_
                            clear hK K
                            try simp only [Act.put, List.getElem_toArray, List.getElem_cons_zero, List.getElem_cons_succ, List.setIfInBounds_toArray, List.set_cons_zero, List.set_cons_succ]
                            refine wpAny_ready (rs := [12]) (by kernel_rfl) (by simp) ?_
                            refine AllReady.cons rfl (fun K hK => ?_) ?_
                            · try simp only [List.getElem_toArray, List.getElem_cons_zero, List.getElem_cons_succ]
                              go_simp
                              with_reducible refine HWB.out.mono ?_
                              rintro e w6 ⟨v6, rfl, hls6, hk6⟩
                              have hK6 := HKB.out.trans' hk6
                              obtain ⟨va6, vc6, hv6⟩ := hls6.form
                              rw [rowsAt_length] at hv6
                              subst hv6
                              obtain ⟨z0, z1, zf0, zf1, zl⟩ := (HBX.out.kept hK6 id).cells
                              try go_wp2_with fail
                              first | (refine hK _ _ ?_; clear hK K) | skip
                              try simp only [Act.put, List.getElem_toArray, List.getElem_cons_zero, List.getElem_cons_succ, List.setIfInBounds_toArray, List.set_cons_zero, List.set_cons_succ]
                              refine wpAny_ready (rs := [13]) (by kernel_rfl) (by simp) ?_
                              refine AllReady.cons rfl (fun K hK => ?_) ?_
                              · try simp only [List.getElem_toArray, List.getElem_cons_zero, List.getElem_cons_succ]
                                go_simp
                                refine hK _ _ ?_
                                clear hK K
                                try simp only [Act.put, List.getElem_toArray, List.getElem_cons_zero, List.getElem_cons_succ, List.setIfInBounds_toArray, List.set_cons_zero, List.set_cons_succ]
                                refine wpAny_done (by kernel_rfl) ?_ _
                                have HN := Lib.hid (HXX.out.step (HK5R.out.trans' hK6) HP.out hls6)
                                clear hK6 hls6 hk6 z0 z1 zf0 zf1 zl
                                generalize (World.setCell _ _ _).setCell _ (.slice va6 _ _) = we at *
                                go_wp2_with fail
                                exact ⟨⟨k + 1, by omega, by simp, HN⟩, by simp [intOf]; omega⟩
                              exact AllReady.nil
                            exact AllReady.nil
                          exact AllReady.nil
                        exact AllReady.nil
                      refine AllReady.cons rfl (fun K hK => ?_) ?_
                      · refine step_ran rfl _ _ 47 rfl rfl rfl hr3 ?_
                        refine hK _ _ ?_
                        clear hK K
                        try simp only [Act.put, List.getElem_toArray, List.getElem_cons_zero, List.getElem_cons_succ, List.setIfInBounds_toArray, List.set_cons_zero, List.set_cons_succ]
                        refine wpAny_ready (rs := [0, 11]) (by kernel_rfl) (by simp) ?_
                        refine AllReady.cons rfl (fun K hK => ?_) ?_
                        · try simp only [List.getElem_toArray, List.getElem_cons_zero, List.getElem_cons_succ]
                          go_simp
                          refine hK _ _ ?_
                          clear hK K
                          try simp only [Act.put, List.getElem_toArray, List.getElem_cons_zero, List.getElem_cons_succ, List.setIfInBounds_toArray, List.set_cons_zero, List.set_cons_succ]
                          refine wpAny_ready (rs := [11]) (by kernel_rfl) (by simp) ?_
                          refine AllReady.cons rfl (fun K hK => ?_) ?_
                          · refine step_ran rfl _ _ 47 rfl rfl rfl hr4 ?_
                            refine hK _ _ ?_
                            clear hK K
                            try simp only [Act.put, List.getElem_toArray, List.getElem_cons_zero, List.getElem_cons_succ, List.setIfInBounds_toArray, List.set_cons_zero, List.set_cons_succ]
                            refine wpAny_ready (rs := [12]) (by kernel_rfl) (by simp) ?_
                            refine AllReady.cons rfl (fun K hK => ?_) ?_
                            · try simp only [List.getElem_toArray, List.getElem_cons_zero, List.getElem_cons_succ]
                              go_simp
                              with_reducible refine HWB.out.mono ?_
                              rintro e w6 ⟨v6, rfl, hls6, hk6⟩
                              have hK6 := HKB.out.trans' hk6
                              obtain ⟨va6, vc6, hv6⟩ := hls6.form
                              rw [rowsAt_length] at hv6
                              subst hv6
                              obtain ⟨z0, z1, zf0, zf1, zl⟩ := (HBX.out.kept hK6 id).cells
                              try go_wp2_with fail
                              first | (refine hK _ _ ?_; clear hK K) | skip
                              try simp only [Act.put, List.getElem_toArray, List.getElem_cons_zero, List.getElem_cons_succ, List.setIfInBounds_toArray, List.set_cons_zero, List.set_cons_succ]
                              refine wpAny_ready (rs := [13]) (by kernel_rfl) (by simp) ?_
                              refine AllReady.cons rfl (fun K hK => ?_) ?_
                              · try simp only [List.getElem_toArray, List.getElem_cons_zero, List.getElem_cons_succ]
                                go_simp
                                refine hK _ _ ?_
                                clear hK K
                                try simp only [Act.put, List.getElem_toArray, List.getElem_cons_zero, List.getElem_cons_succ, List.setIfInBounds_toArray, List.set_cons_zero, List.set_cons_succ]
                                refine wpAny_done (by kernel_rfl) ?_ _
                                have HN := Lib.hid (HXX.out.step (HK5R.out.trans' hK6) HP.out hls6)
                                clear hK6 hls6 hk6 z0 z1 zf0 zf1 zl
                                generalize (World.setCell _ _ _).setCell _ (.slice va6 _ _) = we at *
                                go_wp2_with fail
                                exact ⟨⟨k + 1, by omega, by simp, HN⟩, by simp [intOf]; omega⟩
                              exact AllReady.nil
                            exact AllReady.nil
                          exact AllReady.nil
                        refine AllReady.cons rfl (fun K hK => ?_) ?_
                        · refine step_ran rfl _ _ 47 rfl rfl rfl hr4 ?_
                          refine hK _ _ ?_
                          clear hK K
                          try simp only [Act.put, List.getElem_toArray, List.getElem_cons_zero, List.getElem_cons_succ, List.setIfInBounds_toArray, List.set_cons_zero, List.set_cons_succ]
                          refine wpAny_ready (rs := [0]) (by kernel_rfl) (by simp) ?_
                          refine AllReady.cons rfl (fun K hK => ?_) ?_
                          · try simp only [List.getElem_toArray, List.getElem_cons_zero, List.getElem_cons_succ]
                            go_simp
                            refine hK _ _ ?_
                            clear hK K
                            try simp only [Act.put, List.getElem_toArray, List.getElem_cons_zero, List.getElem_cons_succ, List.setIfInBounds_toArray, List.set_cons_zero, List.set_cons_succ]
                            refine wpAny_ready (rs := [12]) (by kernel_rfl) (by simp) ?_
                            refine AllReady.cons rfl (fun K hK => ?_) ?_
                            · try simp only [List.getElem_toArray, List.getElem_cons_zero, List.getElem_cons_succ]
                              go_simp
                              with_reducible refine HWB.out.mono ?_
                              rintro e w6 ⟨v6, rfl, hls6, hk6⟩
                              have hK6 := HKB.out.trans' hk6
                              obtain ⟨va6, vc6, hv6⟩ := hls6.form
                              rw [rowsAt_length] at hv6
                              subst hv6
                              obtain ⟨z0, z1, zf0, zf1, zl⟩ := (HBX.out.kept hK6 id).cells
                              try go_wp2_with fail
                              first | (refine hK _ _ ?_; clear hK K) | skip
                              try simp only [Act.put, List.getElem_toArray, List.getElem_cons_zero, List.getElem_cons_succ, List.setIfInBounds_toArray, List.set_cons_zero, List.set_cons_succ]
                              refine wpAny_ready (rs := [13]) (by kernel_rfl) (by simp) ?_
                              refine AllReady.cons rfl (fun K hK => ?_) ?_
                              · try simp only [List.getElem_toArray, List.getElem_cons_zero, List.getElem_cons_succ]
                                go_simp
                                refine hK _ _ ?_
                                clear hK K
                                try simp only [Act.put, List.getElem_toArray, List.getElem_cons_zero, List.getElem_cons_succ, List.setIfInBounds_toArray, List.set_cons_zero, List.set_cons_succ]
                                refine wpAny_done (by kernel_rfl) ?_ _
                                have HN := Lib.hid (HXX.out.step (HK5R.out.trans' hK6) HP.out hls6)
                                clear hK6 hls6 hk6 z0 z1 zf0 zf1 zl
                                generalize (World.setCell _ _ _).setCell _ (.slice va6 _ _) = we at *
                                go_wp2_with fail
                                exact ⟨⟨k + 1, by omega, by simp, HN⟩, by simp [intOf]; omega⟩
                              exact AllReady.nil
                            exact AllReady.nil
                          exact AllReady.nil
                        exact AllReady.nil
                      exact AllReady.nil
                    exact AllReady.nil
                  exact AllReady.nil
                refine AllReady.cons rfl (fun K hK => ?_) ?_
                · try simp only [List.getElem_toArray, List.getElem_cons_zero, List.getElem_cons_succ]
                  go_simp
                  refine hK _ _ ?_
                  clear hK K
                  try simp only [Act.put, List.getElem_toArray, List.getElem_cons_zero, List.getElem_cons_succ, List.setIfInBounds_toArray, List.set_cons_zero, List.set_cons_succ]
                  refine wpAny_ready (rs := [0, 4]) (by kernel_rfl) (by simp) ?_
                  refine AllReady.cons rfl (fun K hK => ?_) ?_
                  · try simp only [List.getElem_toArray, List.getElem_cons_zero, List.getElem_cons_succ]
                    go_simp
                    refine hK _ _ ?_
                    clear hK K
                    try simp only [Act.put, List.getElem_toArray, List.getElem_cons_zero, List.getElem_cons_succ, List.setIfInBounds_toArray, List.set_cons_zero, List.set_cons_succ]
                    refine wpAny_ready (rs := [4]) (by kernel_rfl) (by simp) ?_
                    refine AllReady.cons rfl (fun K hK => ?_) ?_
                    · try simp only [List.getElem_toArray, List.getElem_cons_zero, List.getElem_cons_succ]
                      go_simp
                      refine hK _ _ ?_
                      clear hK K
                      try simp only [Act.put, List.getElem_toArray, List.getElem_cons_zero, List.getElem_cons_succ, List.setIfInBounds_toArray, List.set_cons_zero, List.set_cons_succ]
                      refine wpAny_take (i := 6) (v := ?_) rfl (by kernel_rfl) (by kernel_rfl) (by kernel_rfl) (fun _ _ _ h => h) (Or.inl ⟨by rfl, ?_⟩) ?_
                      rotate_left
                      · (intro w; simp only [List.getElem_toArray, List.getElem_cons_zero, List.getElem_cons_succ]; go_simp <;> with_reducible rfl)
                      try simp only [Act.put, List.getElem_toArray, List.getElem_cons_zero, List.getElem_cons_succ, List.setIfInBounds_toArray, List.set_cons_zero, List.set_cons_succ]
                      refine wpAny_ready (rs := [7]) (by kernel_rfl) (by simp) ?_
                      refine AllReady.cons rfl (fun K hK => ?_) ?_
                      · try simp only [List.getElem_toArray, List.getElem_cons_zero, List.getElem_cons_succ]
                        go_simp
                        refine hK _ _ ?_
                        clear hK K
                        try simp only [Act.put, List.getElem_toArray, List.getElem_cons_zero, List.getElem_cons_succ, List.setIfInBounds_toArray, List.set_cons_zero, List.set_cons_succ]
                        refine wpAny_ready (rs := [8]) (by kernel_rfl) (by simp) ?_
                        refine AllReady.cons rfl (fun K hK => ?_) ?_
                        · refine step_ran rfl _ _ 47 rfl rfl rfl hr3 ?_
                          refine hK _ _ ?_
                          clear hK K
                          try simp only [Act.put, List.getElem_toArray, List.getElem_cons_zero, List.getElem_cons_succ, List.setIfInBounds_toArray, List.set_cons_zero, List.set_cons_succ]
                          refine wpAny_ready (rs := [11]) (by kernel_rfl) (by simp) ?_
                          refine AllReady.cons rfl (fun K hK => ?_) ?_
                          · refine step_ran rfl _ _ 47 rfl rfl rfl hr4 ?_
                            refine hK _ _ ?_
                            clear hK K
                            try simp only [Act.put, List.getElem_toArray, List.getElem_cons_zero, List.getElem_cons_succ, List.setIfInBounds_toArray, List.set_cons_zero, List.set_cons_succ]
                            refine wpAny_ready (rs := [12]) (by kernel_rfl) (by simp) ?_
                            refine AllReady.cons rfl (fun K hK => ?_) ?_
                            · try simp only [List.getElem_toArray, List.getElem_cons_zero, List.getElem_cons_succ]
                              go_simp
                              with_reducible refine HWB.out.mono ?_
                              rintro e w6 ⟨v6, rfl, hls6, hk6⟩
                              have hK6 := HKB.out.trans' hk6
                              obtain ⟨va6, vc6, hv6⟩ := hls6.form
                              rw [rowsAt_length] at hv6
                              subst hv6
                              obtain ⟨z0, z1, zf0, zf1, zl⟩ := (HBX.out.kept hK6 id).cells
                              try go_wp2_with fail
                              first | (refine hK _ _ ?_; clear hK K) | skip
                              try simp only [Act.put, List.getElem_toArray, List.getElem_cons_zero, List.getElem_cons_succ, List.setIfInBounds_toArray, List.set_cons_zero, List.set_cons_succ]
                              refine wpAny_ready (rs := [13]) (by kernel_rfl) (by simp) ?_
                              refine AllReady.cons rfl (fun K hK => ?_) ?_
                              · try simp only [List.getElem_toArray, List.getElem_cons_zero, List.getElem_cons_succ]
                                go_simp
                                refine hK _ _ ?_
                                clear hK K
                                try simp only [Act.put, List.getElem_toArray, List.getElem_cons_zero, List.getElem_cons_succ, List.setIfInBounds_toArray, List.set_cons_zero, List.set_cons_succ]
                                refine wpAny_done (by kernel_rfl) ?_ _
                                have HN := Lib.hid (HXX.out.step (HK5R.out.trans' hK6) HP.out hls6)
                                clear hK6 hls6 hk6 z0 z1 zf0 zf1 zl
                                generalize (World.setCell _ _ _).setCell _ (.slice va6 _ _) = we at *
                                go_wp2_with fail
                                exact ⟨⟨k + 1, by omega, by simp, HN⟩, by simp [intOf]; omega⟩
                              exact AllReady.nil
                            exact AllReady.nil
                          exact AllReady.nil
                        exact AllReady.nil
                      exact AllReady.nil
                    exact AllReady.nil
                  refine AllReady.cons rfl (fun K hK => ?_) ?_
                  · try simp only [List.getElem_toArray, List.getElem_cons_zero, List.getElem_cons_succ]
                    go_simp
                    refine hK _ _ ?_
                    clear hK K
                    try simp only [Act.put, List.getElem_toArray, List.getElem_cons_zero, List.getElem_cons_succ, List.setIfInBounds_toArray, List.set_cons_zero, List.set_cons_succ]
                    refine wpAny_take (i := 6) (v := ?_) rfl (by kernel_rfl) (by kernel_rfl) (by kernel_rfl) (fun _ _ _ h => h) (Or.inl ⟨by rfl, ?_⟩) ?_
                    rotate_left
                    · (intro w; simp only [List.getElem_toArray, List.getElem_cons_zero, List.getElem_cons_succ]; go_simp <;> with_reducible rfl)
                    try simp only [Act.put, List.getElem_toArray, List.getElem_cons_zero, List.getElem_cons_succ, List.setIfInBounds_toArray, List.set_cons_zero, List.set_cons_succ]
                    refine wpAny_ready (rs := [0, 7]) (by kernel_rfl) (by simp) ?_
                    refine AllReady.cons rfl (fun K hK => ?_) ?_
                    · try simp only [List.getElem_toArray, List.getElem_cons_zero, List.getElem_cons_succ]
                      go_simp
                      refine hK _ _ ?_
                      clear hK K
                      try simp only [Act.put, List.getElem_toArray, List.getElem_cons_zero, List.getElem_cons_succ, List.setIfInBounds_toArray, List.set_cons_zero, List.set_cons_succ]
                      refine wpAny_ready (rs := [7]) (by kernel_rfl) (by simp) ?_
                      refine AllReady.cons rfl (fun K hK => ?_) ?_
                      · try simp only [List.getElem_toArray, List.getElem_cons_zero, List.getElem_cons_succ]
                        go_simp
                        refine hK _ _ ?_
                        clear hK K
                        try simp only [Act.put, List.getElem_toArray, List.getElem_cons_zero, List.getElem_cons_succ, List.setIfInBounds_toArray, List.set_cons_zero, List.set_cons_succ]
                        refine wpAny_ready (rs := [8]) (by kernel_rfl) (by simp) ?_
                        refine AllReady.cons rfl (fun K hK => ?_) ?_
                        · refine step_ran rfl _ _ 47 rfl rfl rfl hr3 ?_
                          refine hK _ _ ?_
                          clear hK K
                          try simp only [Act.put, List.getElem_toArray, List.getElem_cons_zero, List.getElem_cons_succ, List.setIfInBounds_toArray, List.set_cons_zero, List.set_cons_succ]
                          refine wpAny_ready (rs := [11]) (by kernel_rfl) (by simp) ?_
                          refine AllReady.cons rfl (fun K hK => ?_) ?_
                          · refine step_ran rfl _ _ 47 rfl rfl rfl hr4 ?_
                            refine hK _ _ ?_
                            clear hK K
                            try simp only [Act.put, List.getElem_toArray, List.getElem_cons_zero, List.getElem_cons_succ, List.setIfInBounds_toArray, List.set_cons_zero, List.set_cons_succ]
                            refine wpAny_ready (rs := [12]) (by kernel_rfl) (by simp) ?_
                            refine AllReady.cons rfl (fun K hK => ?_) ?_
                            · try simp only [List.getElem_toArray, List.getElem_cons_zero, List.getElem_cons_succ]
                              go_simp
                              with_reducible refine HWB.out.mono ?_
                              rintro e w6 ⟨v6, rfl, hls6, hk6⟩
                              have hK6 := HKB.out.trans' hk6
                              obtain ⟨va6, vc6, hv6⟩ := hls6.form
                              rw [rowsAt_length] at hv6
                              subst hv6
                              obtain ⟨z0, z1, zf0, zf1, zl⟩ := (HBX.out.kept hK6 id).cells
                              try go_wp2_with fail
                              first | (refine hK _ _ ?_; clear hK K) | skip
                              try simp only [Act.put, List.getElem_toArray, List.getElem_cons_zero, List.getElem_cons_succ, List.setIfInBounds_toArray, List.set_cons_zero, List.set_cons_succ]
                              refine wpAny_ready (rs := [13]) (by kernel_rfl) (by simp) ?_
                              refine AllReady.cons rfl (fun K hK => ?_) ?_
                              · try simp only [List.getElem_toArray, List.getElem_cons_zero, List.getElem_cons_succ]
                                go_simp
                                refine hK _ _ ?_
                                clear hK K
                                try simp only [Act.put, List.getElem_toArray, List.getElem_cons_zero, List.getElem_cons_succ, List.setIfInBounds_toArray, List.set_cons_zero, List.set_cons_succ]
                                refine wpAny_done (by kernel_rfl) ?_ _
                                have HN := Lib.hid (HXX.out.step (HK5R.out.trans' hK6) HP.out hls6)
                                clear hK6 hls6 hk6 z0 z1 zf0 zf1 zl
                                generalize (World.setCell _ _ _).setCell _ (.slice va6 _ _) = we at *
                                go_wp2_with fail
                                exact ⟨⟨k + 1, by omega, by simp, HN⟩, by simp [intOf]; omega⟩
                              exact AllReady.nil
                            exact AllReady.nil
                          exact AllReady.nil
                        exact AllReady.nil
                      exact AllReady.nil
                    refine AllReady.cons rfl (fun K hK => ?_) ?_
                    · try simp only [List.getElem_toArray, List.getElem_cons_zero, List.getElem_cons_succ]
                      go_simp
                      refine hK _ _ ?_
                      clear hK K
                      try simp only [Act.put, List.getElem_toArray, List.getElem_cons_zero, List.getElem_cons_succ, List.setIfInBounds_toArray, List.set_cons_zero, List.set_cons_succ]
                      refine wpAny_ready (rs := [0, 8]) (by kernel_rfl) (by simp) ?_
                      refine AllReady.cons rfl (fun K hK => ?_) ?_
                      · try simp only [List.getElem_toArray, List.getElem_cons_zero, List.getElem_cons_succ]
                        go_simp
                        refine hK _ _ ?_
                        clear hK K
                        try simp only [Act.put, List.getElem_toArray, List.getElem_cons_zero, List.getElem_cons_succ, List.setIfInBounds_toArray, List.set_cons_zero, List.set_cons_succ]
                        refine wpAny_ready (rs := [8]) (by kernel_rfl) (by simp) ?_
                        refine AllReady.cons rfl (fun K hK => ?_) ?_
                        · refine step_ran rfl _ _ 47 rfl rfl rfl hr3 ?_
                          refine hK _ _ ?_
                          clear hK K
                          try simp only [Act.put, List.getElem_toArray, List.getElem_cons_zero, List.getElem_cons_succ, List.setIfInBounds_toArray, List.set_cons_zero, List.set_cons_succ]
                          refine wpAny_ready (rs := [11]) (by kernel_rfl) (by simp) ?_
                          refine AllReady.cons rfl (fun K hK => ?_) ?_
                          · refine step_ran rfl _ _ 47 rfl rfl rfl hr4 ?_
                            refine hK _ _ ?_
                            clear hK K
                            try simp only [Act.put, List.getElem_toArray, List.getElem_cons_zero, List.getElem_cons_succ, List.setIfInBounds_toArray, List.set_cons_zero, List.set_cons_succ]
                            refine wpAny_ready (rs := [12]) (by kernel_rfl) (by simp) ?_
                            refine AllReady.cons rfl (fun K hK => ?_) ?_
                            · try simp only [List.getElem_toArray, List.getElem_cons_zero, List.getElem_cons_succ]
                              go_simp
                              with_reducible refine HWB.out.mono ?_
                              rintro e w6 ⟨v6, rfl, hls6, hk6⟩
                              have hK6 := HKB.out.trans' hk6
                              obtain ⟨va6, vc6, hv6⟩ := hls6.form
                              rw [rowsAt_length] at hv6
                              subst hv6
                              obtain ⟨z0, z1, zf0, zf1, zl⟩ := (HBX.out.kept hK6 id).cells
                              try go_wp2_with fail
                              first | (refine hK _ _ ?_; clear hK K) | skip
                              try simp only [Act.put, List.getElem_toArray, List.getElem_cons_zero, List.getElem_cons_succ, List.setIfInBounds_toArray, List.set_cons_zero, List.set_cons_succ]
                              refine wpAny_ready (rs := [13]) (by kernel_rfl) (by simp) ?_
                              refine AllReady.cons rfl (fun K hK => ?_) ?_
                              · try simp only [List.getElem_toArray, List.getElem_cons_zero, List.getElem_cons_succ]
                                go_simp
                                refine hK _ _ ?_
                                clear hK K
                                try simp only [Act.put, List.getElem_toArray, List.getElem_cons_zero, List.getElem_cons_succ, List.setIfInBounds_toArray, List.set_cons_zero, List.set_cons_succ]
                                refine wpAny_done (by kernel_rfl) ?_ _
                                have HN := Lib.hid (HXX.out.step (HK5R.out.trans' hK6) HP.out hls6)
                                clear hK6 hls6 hk6 z0 z1 zf0 zf1 zl
                                generalize (World.setCell _ _ _).setCell _ (.slice va6 _ _) = we at *
                                go_wp2_with fail
                                exact ⟨⟨k + 1, by omega, by simp, HN⟩, by simp [intOf]; omega⟩
                              exact AllReady.nil
                            exact AllReady.nil
                          exact AllReady.nil
                        exact AllReady.nil
                      refine AllReady.cons rfl (fun K hK => ?_) ?_
                      · refine step_ran rfl _ _ 47 rfl rfl rfl hr3 ?_
                        refine hK _ _ ?_
                        clear hK K
                        try simp only [Act.put, List.getElem_toArray, List.getElem_cons_zero, List.getElem_cons_succ, List.setIfInBounds_toArray, List.set_cons_zero, List.set_cons_succ]
                        refine wpAny_ready (rs := [0, 11]) (by kernel_rfl) (by simp) ?_
                        refine AllReady.cons rfl (fun K hK => ?_) ?_
                        · try simp only [List.getElem_toArray, List.getElem_cons_zero, List.getElem_cons_succ]
                          go_simp
                          refine hK _ _ ?_
                          clear hK K
                          try simp only [Act.put, List.getElem_toArray, List.getElem_cons_zero, List.getElem_cons_succ, List.setIfInBounds_toArray, List.set_cons_zero, List.set_cons_succ]
                          refine wpAny_ready (rs := [11]) (by kernel_rfl) (by simp) ?_
                          refine AllReady.cons rfl (fun K hK => ?_) ?_
                          · refine step_ran rfl _ _ 47 rfl rfl rfl hr4 ?_
                            refine hK _ _ ?_
                            clear hK K
                            try simp only [Act.put, List.getElem_toArray, List.getElem_cons_zero, List.getElem_cons_succ, List.setIfInBounds_toArray, List.set_cons_zero, List.set_cons_succ]
                            refine wpAny_ready (rs := [12]) (by kernel_rfl) (by simp) ?_
                            refine AllReady.cons rfl (fun K hK => ?_) ?_
                            · try simp only [List.getElem_toArray, List.getElem_cons_zero, List.getElem_cons_succ]
                              go_simp
                              with_reducible refine HWB.out.mono ?_
                              rintro e w6 ⟨v6, rfl, hls6, hk6⟩
                              have hK6 := HKB.out.trans' hk6
                              obtain ⟨va6, vc6, hv6⟩ := hls6.form
                              rw [rowsAt_length] at hv6
                              subst hv6
                              obtain ⟨z0, z1, zf0, zf1, zl⟩ := (HBX.out.kept hK6 id).cells
                              try go_wp2_with fail
                              first | (refine hK _ _ ?_; clear hK K) | skip
                              try simp only [Act.put, List.getElem_toArray, List.getElem_cons_zero, List.getElem_cons_succ, List.setIfInBounds_toArray, List.set_cons_zero, List.set_cons_succ]
                              refine wpAny_ready (rs := [13]) (by kernel_rfl) (by simp) ?_
                              refine AllReady.cons rfl (fun K hK => ?_) ?_
                              · try simp only [List.getElem_toArray, List.getElem_cons_zero, List.getElem_cons_succ]
                                go_simp
                                refine hK _ _ ?_
                                clear hK K
                                try simp only [Act.put, List.getElem_toArray, List.getElem_cons_zero, List.getElem_cons_succ, List.setIfInBounds_toArray, List.set_cons_zero, List.set_cons_succ]
                                refine wpAny_done (by kernel_rfl) ?_ _
                                have HN := Lib.hid (HXX.out.step (HK5R.out.trans' hK6) HP.out hls6)
                                clear hK6 hls6 hk6 z0 z1 zf0 zf1 zl
                                generalize (World.setCell _ _ _).setCell _ (.slice va6 _ _) = we at *
                                go_wp2_with fail
                                exact ⟨⟨k + 1, by omega, by simp, HN⟩, by simp [intOf]; omega⟩
                              exact AllReady.nil
                            exact AllReady.nil
                          exact AllReady.nil
                        refine AllReady.cons rfl (fun K hK => ?_) ?_
                        · refine step_ran rfl _ _ 47 rfl rfl rfl hr4 ?_
                          refine hK _ _ ?_
                          clear hK K
                          try simp only [Act.put, List.getElem_toArray, List.getElem_cons_zero, List.getElem_cons_succ, List.setIfInBounds_toArray, List.set_cons_zero, List.set_cons_succ]
                          refine wpAny_ready (rs := [0]) (by kernel_rfl) (by simp) ?_
                          refine AllReady.cons rfl (fun K hK => ?_) ?_
                          · try simp only [List.getElem_toArray, List.getElem_cons_zero, List.getElem_cons_succ]
                            go_simp
                            refine hK _ _ ?_
                            clear hK K
                            try simp only [Act.put, List.getElem_toArray, List.getElem_cons_zero, List.getElem_cons_succ, List.setIfInBounds_toArray, List.set_cons_zero, List.set_cons_succ]
                            refine wpAny_ready (rs := [12]) (by kernel_rfl) (by simp) ?_
                            refine AllReady.cons rfl (fun K hK => ?_) ?_
                            · try simp only [List.getElem_toArray, List.getElem_cons_zero, List.getElem_cons_succ]
                              go_simp
                              with_reducible refine HWB.out.mono ?_
                              rintro e w6 ⟨v6, rfl, hls6, hk6⟩
                              have hK6 := HKB.out.trans' hk6
                              obtain ⟨va6, vc6, hv6⟩ := hls6.form
                              rw [rowsAt_length] at hv6
                              subst hv6
                              obtain ⟨z0, z1, zf0, zf1, zl⟩ := (HBX.out.kept hK6 id).cells
                              try go_wp2_with fail
                              first | (refine hK _ _ ?_; clear hK K) | skip
                              try simp only [Act.put, List.getElem_toArray, List.getElem_cons_zero, List.getElem_cons_succ, List.setIfInBounds_toArray, List.set_cons_zero, List.set_cons_succ]
                              refine wpAny_ready (rs := [13]) (by kernel_rfl) (by simp) ?_
                              refine AllReady.cons rfl (fun K hK => ?_) ?_
                              · try simp only [List.getElem_toArray, List.getElem_cons_zero, List.getElem_cons_succ]
                                go_simp
                                refine hK _ _ ?_
                                clear hK K
                                try simp only [Act.put, List.getElem_toArray, List.getElem_cons_zero, List.getElem_cons_succ, List.setIfInBounds_toArray, List.set_cons_zero, List.set_cons_succ]
                                refine wpAny_done (by kernel_rfl) ?_ _
                                have HN := Lib.hid (HXX.out.step (HK5R.out.trans' hK6) HP.out hls6)
                                clear hK6 hls6 hk6 z0 z1 zf0 zf1 zl
                                generalize (World.setCell _ _ _).setCell _ (.slice va6 _ _) = we at *
                                go_wp2_with fail
                                exact ⟨⟨k + 1, by omega, by simp, HN⟩, by simp [intOf]; omega⟩
                              exact AllReady.nil
                            exact AllReady.nil
                          exact AllReady.nil
                        exact AllReady.nil
                      exact AllReady.nil
                    exact AllReady.nil
                  exact AllReady.nil
                exact AllReady.nil
          · obtain rfl : k = l.length := by omega
            have HS2 := Lib.hid (HX.out.row HLM.out)
            go_wp2_with fail
            exact ⟨⟨n + 1, by omega, by simp, HS2⟩, by simp [intOf]; omega⟩
      · obtain rfl : n = R.length := by omega
        have hRV : R.length ≤ V := by omega
        have HRB2 : Hid (w.heap.size ≤ r) := Lib.hid HS.out.hb.1
        have hgp : GoodP E R.flatten := by have := HS.out.good; rwa [pre_all] at this
        obtain ⟨va2, vc2, hls, hbx⟩ := HS.out.rows
        have hwf := Lib.hid (fin_wf hRV hgp)
        have hfs := Lib.hid (fin_stand hRV hgp)
        have HGP := Lib.hid hgp
        have h0V : 0 < (rowsAt (natsOf R) V R.length 0).length := by rw [rowsAt_length]; omega
        have hvl : (rowsAt (natsOf R) V R.length 0).length ≤ 1048576 := by rw [rowsAt_length]; exact hV
        have HDT := Lib.hid (rdarts hls hwf.out h0V hvl hE)
        obtain ⟨x0, x1, _, _, _⟩ := hbx.cells
        unfold DsPost rval at HDT
        have HLS := Lib.hid hls
        have HBX := Lib.hid hbx
        clear hgp
        go_wp2_with fail
        with_reducible refine HDT.out.mono ?_
        rintro e w5 ⟨v5, rfl, ho5, hk5⟩
        obtain ⟨a5, c5, rfl, hr5, _⟩ := Rd.of_own ho5
        have HRD := Lib.hid hr5
        have HK5 := Lib.hid (HS.out.kp.trans' hk5)
        have HRES := Lib.hid (HS.out.res.kept hk5 id)
        have HBX5 := Lib.hid (HBX.out.kept hk5 id)
        have HLS5 := Lib.hid (HLS.out.keep hk5)
        have HFD := Lib.hid (fun W (hk : Keeps (fun _ => False) w5 W) d => rfind (HLS5.out.keep hk) hwf.out h0V hvl hE d)
        have HDL := Lib.hid (fun d => mem_darts (d := d) hwf.out)
        have hdl := dartsN_le (rowsAt (natsOf R) V R.length 0) (2 * E)
        unfold RetPost rval at HFD
        clear hls hbx ho5 hr5 hk5 x0 x1 HDT h0V hvl
        generalize dartsN (rowsAt (natsOf R) V R.length 0) (2 * E) = DL at *
        go_upto_region 18 with fail
        go_loopw [16] (fun i wr => ∃ (q : Nat), q ≤ DL.length ∧ i = .int .i64 (q : Int) ∧ Hid ((∀ j, j < q → Stands (rowsAt (natsOf R) V R.length 0) (tw (DL.getD j 0))) ∧ Keeps (fun _ => False) w5 wr)) (fun i _ => DL.length - (intOf i).toNat)
        case atStart => exact ⟨0, Nat.zero_le _, rfl, Lib.hid ⟨fun j hj => absurd hj (Nat.not_lt_zero _), Keeps.refl _ _⟩⟩
        case round =>
          obtain ⟨q, hq, rfl, HKQ⟩ := hrel
          obtain ⟨x0, x1, _, _, _⟩ := (HBX5.out.kept HKQ.out.2 id).cells
          by_cases hql : q < DL.length
          · as_aux_lemma =>
            obtain ⟨b5, o5, rfl, hcd⟩ := (HRD.out.keep HKQ.out.2).nat hql
            have hds : Stands (rowsAt (natsOf R) V R.length 0) (DL.getD q 0) := (HDL.out _).1 (getD_mem hql)
            have hdE := hwf.out.bdS hds
            have hext : Hid (Stands (rowsAt (natsOf R) V R.length 0) (tw (DL.getD q 0)) → ∀ j, j < q + 1 → Stands (rowsAt (natsOf R) V R.length 0) (tw (DL.getD j 0))) := Lib.hid fun h j hj => by
              by_cases e : j = q
              · subst e; exact h
              · exact HKQ.out.1 j (by omega)
            have hno : Hid (¬ Stands (rowsAt (natsOf R) V R.length 0) (tw (DL.getD q 0)) → ¬ OkL E V R) := Lib.hid fun h ok => h ((hfs.out _).2 ((ok.2.2.1 _ hdE).1 ((hfs.out _).1 hds)))
            generalize DL.getD q 0 = d at *
            clear hds
            have hdb : d < 4194304 := by omega
            have hqq : q + 1 ≤ DL.length := by omega
            by_cases hodd : d % 2 = 1
            · have htw : ((tw d : Nat) : Int) = (d : Int) - 1 := by unfold tw; rw [if_pos hodd]; omega
              have hw1 := plus_wrap d hdb
              have hw3 := minus_wrap d hdb
              have hm : wrap64 ((d : Int).tmod 2) = 1 := by rw [show (2 : Int) = ((2 : Nat) : Int) from rfl, ← Int.ofNat_tmod, hodd]; exact wrap_one
              have hm2 : IntKind.i64.wrap ((d : Int).tmod 2) = 1 := by rw [show (2 : Int) = ((2 : Nat) : Int) from rfl, ← Int.ofNat_tmod, hodd]; rfl
              have HF2 := Lib.hid (HFD.out wr HKQ.out.2 ((tw d : Nat) : Int))
              rw [htw] at HF2
              by_cases hst : Stands (rowsAt (natsOf R) V R.length 0) (tw d)
              · have hfv := fndV_at hwf.out hst
                rw [htw] at hfv
                have hd2 : decide (fndV (rowsAt (natsOf R) V R.length 0) ((d : Int) - 1) < 0) = false := by rw [hfv.1]; simp
                have HQ2 := Lib.hid (fun j hj => hext.out hst j hj)
                clear hfv hst hext hno
                generalize fndV (rowsAt (natsOf R) V R.length 0) ((d : Int) - 1) = fv at *
                generalize fndI (rowsAt (natsOf R) V R.length 0) ((d : Int) - 1) = fi at *
                go_wp2_with fail
                with_reducible refine HF2.out.mono ?_
                rintro e w7 ⟨rfl, hk7⟩
                have HK7 := Lib.hid (HKQ.out.2.trans' hk7)
                clear hk7
                go_wp2_with fail
                clear hw1 hw3 hm hm2
                exact ⟨⟨q + 1, hqq, by simp, Lib.hid ⟨HQ2.out, HK7.out⟩⟩, by simp [intOf]; omega⟩
              · have hfn := fndV_neg hst
                rw [htw] at hfn
                have hd2 : decide (fndV (rowsAt (natsOf R) V R.length 0) ((d : Int) - 1) < 0) = true := by rw [hfn]; rfl
                have HNO := Lib.hid (hno.out hst)
                clear hst hext hno
                have hfv : True := trivial
                generalize fndV (rowsAt (natsOf R) V R.length 0) ((d : Int) - 1) = fv at *
                generalize fndI (rowsAt (natsOf R) V R.length 0) ((d : Int) - 1) = fi at *
                go_wp2_with fail
                with_reducible refine HF2.out.mono ?_
                rintro e w7 ⟨rfl, hk7⟩
                have HR7 := Lib.hid ((HRES.out.kept HKQ.out.2 id).kept hk7 id)
                have HK7 := Lib.hid (HK5.out.trans' (HKQ.out.2.trans' hk7))
                obtain ⟨r0, r1, q0, q1, rl⟩ := HR7.out.cells
                clear hk7
                have HE := zero_end HK7.out HR7.out HRB2.out
                clear hfv hfn
                go_wp2_with fail
                generalize (World.setCell _ _ _).setCell _ (.slice none 0 0) = WW at *
                obtain ⟨k0, k1, _, _, _⟩ := HE.out.1.cells
                refine bodyPost_ret (v := .tuple #[.agg #[.int .i64 0, .slice none 0 0], .bool false]) (by simp [results, Tryd.results37, go_sem, k0, k1]) rfl ?_
                exact ⟨HE.out.2, Or.inr ⟨HNO.out, rfl⟩⟩
            · have htw : ((tw d : Nat) : Int) = (d : Int) + 1 := by unfold tw; rw [if_neg hodd]; omega
              have hev : d % 2 = 0 := by omega
              have hw1 := plus_wrap d hdb
              have hw3 := minus_wrap d hdb
              have hm : wrap64 ((d : Int).tmod 2) = 0 := by rw [show (2 : Int) = ((2 : Nat) : Int) from rfl, ← Int.ofNat_tmod, hev]; exact wrap_zero
              have hm2 : IntKind.i64.wrap ((d : Int).tmod 2) = 0 := by rw [show (2 : Int) = ((2 : Nat) : Int) from rfl, ← Int.ofNat_tmod, hev]; rfl
              have HF2 := Lib.hid (HFD.out wr HKQ.out.2 ((tw d : Nat) : Int))
              rw [htw] at HF2
              by_cases hst : Stands (rowsAt (natsOf R) V R.length 0) (tw d)
              · have hfv := fndV_at hwf.out hst
                rw [htw] at hfv
                have hd2 : decide (fndV (rowsAt (natsOf R) V R.length 0) ((d : Int) + 1) < 0) = false := by rw [hfv.1]; simp
                have HQ2 := Lib.hid (fun j hj => hext.out hst j hj)
                clear hfv hst hext hno
                generalize fndV (rowsAt (natsOf R) V R.length 0) ((d : Int) + 1) = fv at *
                generalize fndI (rowsAt (natsOf R) V R.length 0) ((d : Int) + 1) = fi at *
                go_wp2_with fail
                with_reducible refine HF2.out.mono ?_
                rintro e w7 ⟨rfl, hk7⟩
                have HK7 := Lib.hid (HKQ.out.2.trans' hk7)
                clear hk7
                go_wp2_with fail
                clear hw1 hw3 hm hm2
                exact ⟨⟨q + 1, hqq, by simp, Lib.hid ⟨HQ2.out, HK7.out⟩⟩, by simp [intOf]; omega⟩
              · have hfn := fndV_neg hst
                rw [htw] at hfn
                have hd2 : decide (fndV (rowsAt (natsOf R) V R.length 0) ((d : Int) + 1) < 0) = true := by rw [hfn]; rfl
                have HNO := Lib.hid (hno.out hst)
                clear hst hext hno
                have hfv : True := trivial
                generalize fndV (rowsAt (natsOf R) V R.length 0) ((d : Int) + 1) = fv at *
                generalize fndI (rowsAt (natsOf R) V R.length 0) ((d : Int) + 1) = fi at *
                go_wp2_with fail
                with_reducible refine HF2.out.mono ?_
                rintro e w7 ⟨rfl, hk7⟩
                have HR7 := Lib.hid ((HRES.out.kept HKQ.out.2 id).kept hk7 id)
                have HK7 := Lib.hid (HK5.out.trans' (HKQ.out.2.trans' hk7))
                obtain ⟨r0, r1, q0, q1, rl⟩ := HR7.out.cells
                clear hk7
                have HE := zero_end HK7.out HR7.out HRB2.out
                clear hfv hfn
                go_wp2_with fail
                generalize (World.setCell _ _ _).setCell _ (.slice none 0 0) = WW at *
                obtain ⟨k0, k1, _, _, _⟩ := HE.out.1.cells
                refine bodyPost_ret (v := .tuple #[.agg #[.int .i64 0, .slice none 0 0], .bool false]) (by simp [results, Tryd.results37, go_sem, k0, k1]) rfl ?_
                exact ⟨HE.out.2, Or.inr ⟨HNO.out, rfl⟩⟩
          · obtain rfl : q = DL.length := by omega
            have hok : Hid (OkL E V R) := Lib.hid (by
              have key : ∀ d : Nat, (d : Int) ∈ R.flatten → ((tw d : Nat) : Int) ∈ R.flatten := fun d h => by
                have h1 := (HDL.out d).2 ((hfs.out d).2 h)
                obtain ⟨j, hj, e⟩ := mem_getD h1
                have h2 := HKQ.out.1 j hj
                rw [e] at h2
                exact (hfs.out _).1 h2
              exact ⟨HGP.out.1, HGP.out.2, fun d _ => ⟨key d, fun h => by have := key _ h; rwa [tw_tw] at this⟩, hRV⟩)
            have HRF := Lib.hid (HRES.out.kept HKQ.out.2 id)
            obtain ⟨r0, r1, q0, q1, rl⟩ := HRF.out.cells
            have HE := rl_end (E := E) (HK5.out.trans' HKQ.out.2) (HLS5.out.keep HKQ.out.2) HRF.out (by have := HS.out.hb; omega) rfl
            clear HKQ
            go_wp2_with fail
            generalize (World.setCell _ _ _).setCell _ (.slice va2 _ _) = WW at *
            have k0 := HE.out.1.cell (i := 0)
            have k1 := HE.out.1.cell (i := 1)
            refine bodyPost_ret (v := .tuple #[rval E (.slice va2 V vc2), .bool true]) (by simp at k0 k1; simp [results, Tryd.results37, go_sem, k0, k1, rval]) rfl ?_
            subst hrr
            exact ⟨HE.out.2.2, Or.inl ⟨hok.out, _, rfl, HE.out.2.1⟩⟩
end Go.Proofs.YtjmkejkhpdhhbaaDoor
