/- Chapter 10's laws: TurnChecks. -/
import Derived.Test.YtjmkejkhpdhhbaaDoorLwF
import Derived.Deep.RegionHeld3
namespace Go.Proofs.YtjmkejkhpdhhbaaDoor
open Go Go.RowKit
set_option linter.unusedVariables false
set_option linter.unusedSimpArgs false
set_option maxRecDepth 100000

theorem LawAt.start {w0 w1 w2 : World} {own : Nat → Prop} {p Et E V n c : Nat} {a : Option Addr} (tu : Tu w1 own p Et (List.replicate V [])) (hf : ∀ k, own k → w0.heap.size ≤ k) (hk1 : Keeps (fun _ => False) w0 w1) (ls : LsRow w2 w1.heap.size (.slice a n c) (List.replicate V [])) (hk2 : Keeps (fun _ => False) w1 w2) :
    LawAt w0 own p Et E w1.heap.size V w2.heap.size (List.replicate V []) (.slice a n c) (w2.alloc (.cells #[.int .i64 (E : Int), .slice a n c] 32)) :=
  ⟨Good.new E V, by simp, (tu.keep hk2).keep ((Keeps.refl _ _).alloc _), ls.keep ((Keeps.refl _ _).alloc _), Blk.new _ _ _, (hk1.trans' hk2).alloc _, fun k q => ⟨hf k q, tu.lt k q⟩, hk2.size, hk1.size⟩

section
variable {w0 wr w1 w5 : World} {own : Nat → Prop} {p Et E B V bx n c y : Nat} {L L5 : List (List Nat)} {v x0 x1 : Value} {a : Option Addr}
/-- What a box holds that an act's answer was laid in. -/
def BoxAt (own : Nat → Prop) (p Et E B y : Nat) (L5 : List (List Nat)) (v5 : Value) (wr W : World) : Prop :=
  Blk W y #[.int .i64 (E : Int), v5] 32 ∧ Tu W own p Et L5 ∧ LsRow W B v5 L5 ∧ Keeps own wr W
theorem eight_keep {w0 W : World} (hk : Keeps (fun _ => False) w0 W) {a b c d e f g h : Addr} {t u v x y z r s : Value} (h1 : w0.cell? a = some t) (h2 : w0.cell? b = some u) (h3 : w0.cell? c = some v) (h4 : w0.cell? d = some x) (h5 : w0.cell? e = some y) (h6 : w0.cell? f = some z) (h7 : w0.cell? g = some r) (h8 : w0.cell? h = some s) :
    W.cell? a = some t ∧ W.cell? b = some u ∧ W.cell? c = some v ∧ W.cell? d = some x ∧ W.cell? e = some y ∧ W.cell? f = some z ∧ W.cell? g = some r ∧ W.cell? h = some s := ⟨hk.cellF h1, hk.cellF h2, hk.cellF h3, hk.cellF h4, hk.cellF h5, hk.cellF h6, hk.cellF h7, hk.cellF h8⟩
theorem eight_own {w0 W : World} {fp : Nat → Prop} (hk : Keeps fp w0 W) {b1 b2 o1 o2 o3 o4 o5 o6 o7 o8 : Nat} (n1 : ¬ fp b1) (n2 : ¬ fp b2) {t u v x y z r s : Value} (h1 : w0.cell? ⟨b1, o1, none⟩ = some t) (h2 : w0.cell? ⟨b1, o2, none⟩ = some u) (h3 : w0.cell? ⟨b2, o3, none⟩ = some v) (h4 : w0.cell? ⟨b2, o4, none⟩ = some x) (h5 : w0.cell? ⟨b2, o5, none⟩ = some y) (h6 : w0.cell? ⟨b2, o6, none⟩ = some z) (h7 : w0.cell? ⟨b2, o7, none⟩ = some r) (h8 : w0.cell? ⟨b2, o8, none⟩ = some s) :
    W.cell? ⟨b1, o1, none⟩ = some t ∧ W.cell? ⟨b1, o2, none⟩ = some u ∧ W.cell? ⟨b2, o3, none⟩ = some v ∧ W.cell? ⟨b2, o4, none⟩ = some x ∧ W.cell? ⟨b2, o5, none⟩ = some y ∧ W.cell? ⟨b2, o6, none⟩ = some z ∧ W.cell? ⟨b2, o7, none⟩ = some r ∧ W.cell? ⟨b2, o8, none⟩ = some s := ⟨hk.cellO h1 n1, hk.cellO h2 n1, hk.cellO h3 n2, hk.cellO h4 n2, hk.cellO h5 n2, hk.cellO h6 n2, hk.cellO h7 n2, hk.cellO h8 n2⟩
theorem Keeps.set2 {fp : Nat → Prop} {a w : World} (h : Keeps fp a w) {b : Nat} (hb : a.heap.size ≤ b) {x y : Value} : Keeps fp a ((w.setCell ⟨b, 0, none⟩ x).setCell ⟨b, 1, none⟩ y) := (h.setCell _ _ fun q => absurd q (Nat.not_lt.2 hb)).setCell _ _ fun q => absurd q (Nat.not_lt.2 hb)
theorem box2_keptDO {X w' : World} {fp : Nat → Prop} {cs : Array Value} {t : TypeId} (hk : Keeps fp (X.alloc (.cells cs t)).drew w') (hn : ¬ fp X.heap.size) : Blk w' X.heap.size cs t := ((Blk.new X cs t).kept (Keeps.refl (fun _ => False) _).drew id).kept hk hn
theorem boxA (ht : Tu w5 own p Et L5) (hl : LsRow w5 B v L5) (hk : Keeps own wr w5) : BoxAt own p Et E B w5.heap.size L5 v wr (w5.alloc (.cells #[.int .i64 (E : Int), v] 32)) :=
  ⟨Blk.new _ _ _, ht.keep ((Keeps.refl _ _).alloc _), hl.keep ((Keeps.refl _ _).alloc _), hk.alloc _⟩
theorem boxB (ht : Tu w5 own p Et L5) (hl : LsRow w5 B v L5) (hk : Keeps own wr w5) (hz : Blk w5 y #[x0, x1] 32) (hy : wr.heap.size ≤ y) (hn : ¬ own y) :
    BoxAt own p Et E B y L5 v wr ((w5.setCell ⟨y, 0, none⟩ (.int .i64 (E : Int))).setCell ⟨y, 1, none⟩ v) := by
  have hkb : Keeps (fun k => k = y) w5 ((w5.setCell ⟨y, 0, none⟩ (.int .i64 (E : Int))).setCell ⟨y, 1, none⟩ v) := ((Keeps.refl (fun k => k = y) w5).setIn y 0 _ rfl).setIn y 1 _ rfl
  exact ⟨Blk.set2 hz, ht.kept hkb fun k q e => hn (e ▸ q), hl.setOther hz (by decide) (by decide) hkb, (hk.setCell _ _ fun q => absurd q (Nat.not_lt.2 hy)).setCell _ _ fun q => absurd q (Nat.not_lt.2 hy)⟩
end

set_option maxHeartbeats 4000000 in
theorem turnChecks_walk (n : Int) (a : Option Addr) (c : Nat) (ls : List Act10) (c1 c2 : Int) (w : World) (hE : ErrT w) (hz : Rd w a (actsV ls)) (hzl : ls.length ≤ 9223372036854775807) :
    Calls Tryd.prog 3 #[.int .i64 n, .slice a ls.length c, .agg #[.int .i64 c1, .int .i64 c2]] w (TruePost w) := by
  have HE := Lib.hid hE
  have HZ := Lib.hid hz
  obtain ⟨hk1, hk2⟩ := kof_le n 6 (by decide)
  have hk := show wrap64 (1 + wrap64 ((IntKind.u64.wrap n).tmod 6)) = (kof n 6 : Int) from kof_val n 6 (by decide) (by decide)
  generalize kof n 6 = V at *
  clear hE hz
  generalize hW : w.alloc (.cells #[.int .i64 c1, .int .i64 c2] 23) = w0
  have HK0 : Hid (Keeps (fun _ => False) w w0) := by rw [← hW]; exact (Keeps.refl _ _).alloc _
  have HBC : Hid (Blk w0 w.heap.size #[.int .i64 c1, .int .i64 c2] 23) := by rw [← hW]; exact Blk.new _ _ _
  have HE0 := Lib.hid (HE.out.keep HK0.out)
  have HZ0 := Lib.hid (HZ.out.keep HK0.out)
  have HTN := Lib.hid (tnew V 8 w0 hk1 (by omega) (by decide) (by decide))
  have HRN := Lib.hid (fun W => rnew V 8 W hk1 (by omega))
  unfold NewPost tptr at HTN
  unfold RPost rval at HRN
  clear HE HZ
  go_enter Tryd.func3, Tryd.ntmps3
  go_upto_region 1 with fail
  clear hW
  go_upto_region 2 with fail
  rw [hk]
  go_wp2_with fail
  refine HTN.out.mono ?_
  rintro e w1 ⟨p, own, rfl, htu, hfr, hk1'⟩
  have HTU := Lib.hid htu
  have HFR := Lib.hid hfr
  have HK1 := Lib.hid hk1'
  clear htu hfr hk1' hk
  go_wp2_with fail
  refine (HRN.out w1).mono ?_
  rintro e w2 ⟨v, rfl, hls, hk2'⟩
  obtain ⟨va, vc, rfl⟩ := hls.form
  have HLA := Lib.hid (LawAt.start (w0 := w0) (E := 8) HTU.out HFR.out HK1.out hls hk2')
  clear hls hk2' HTU HFR HK1 HTN HRN
  simp only [List.length_replicate] at HLA
  go_upto_region 6 with fail
  have HLA0 : Hid (∃ L v, LawAt w0 own p 8 8 w1.heap.size V w2.heap.size L v (w2.alloc (.cells #[.int .i64 8, .slice va V vc] 32))) := ⟨_, _, HLA.out⟩
  clear HLA
  generalize w2.alloc _ = w3 at *
  generalize w2.heap.size = bx at *
  generalize w1.heap.size = B at *
  go_upto_region 7 with fail
  go_loopw [11] (fun i wr => ∃ (j : Nat), j ≤ ls.length ∧ j ≤ 30 ∧ i = .int .i64 (j : Int) ∧ Hid (∃ L v, LawAt w0 own p 8 8 B V bx L v wr)) (fun i _ => ls.length - (intOf i).toNat)
  case atStart => exact ⟨0, Nat.zero_le _, Nat.zero_le _, rfl, HLA0⟩
  case round =>
    obtain ⟨j, hj, hj30, rfl, HS⟩ := hrel
    clear HLA0
    obtain ⟨L, v, hla⟩ := HS.out
    have HLA := Lib.hid hla
    clear HS
    have h0L : 1 ≤ L.length := by rw [hla.len]; exact hk1
    obtain ⟨va, vc, rfl⟩ := hla.ls.form
    rw [hla.len] at hla HLA
    by_cases hlt : j < ls.length ∧ j < 30
    · obtain ⟨hlt, hlt2⟩ := hlt
      obtain ⟨ab, ao, rfl, hab, q0, q1, q2, q3, q4, q5⟩ := actsAt (HZ0.out.keep hla.kp) j hlt
      have HDO := Lib.hid (fun W (hk : Keeps (fun _ => False) wr W) => hla.act HE0.out hk ls[j] (Or.inl rfl))
      have hab0 : ab < w0.heap.size := (actsAt HZ0.out j hlt).elim fun b h => by
        obtain ⟨off, he, hb, _⟩ := h
        cases he; exact hb
      have hnab := hla.nold hab0
      have HNB := Lib.hid hla.nbx
      have HG := Lib.hid (actL_good hla.good ls[j])
      have HLN : Hid ((actL 8 L ls[j]).length = V) := (actL_length 8 L ls[j]).trans hla.len
      obtain ⟨b0, b1, bf0, bf1, bl⟩ := hla.cells
      have HBX := Lib.hid (hla.bxB)
      have HLO := Lib.hid (fun k (q : own k) => (hla.low k q).2)
      unfold actVal rval tptr DoPost at HDO
      unfold rval at HDO
      generalize ls[j].kind = z0 at *
      generalize ls[j].e = z1 at *
      generalize ls[j].a.1 = z2 at *
      generalize ls[j].a.2 = z3 at *
      generalize ls[j].b.1 = z4 at *
      generalize ls[j].b.2 = z5 at *
      generalize actL 8 L ls[j] = L5 at *
      have hK0 : Keeps (fun _ => False) wr wr := Keeps.refl _ _
      have hK : Keeps (fun _ => False) wr wr.drew := (Keeps.refl _ _).drew
      clear hla
      have h8 : ((8 : Nat) : Int) = 8 := rfl
      simp only [h8] at HDO b0
      go_upto_region 9 with fail
      go_region_held3 (fun w' => w'.cell? ⟨bx, 0, none⟩ = some (.int .i64 8) ∧ w'.cell? ⟨bx, 1, none⟩ = some (.slice va V vc) ∧ w'.cell? ⟨ab, ao + j * 6, none⟩ = some (.int .i64 z0) ∧ w'.cell? ⟨ab, ao + j * 6 + 1, none⟩ = some (.int .i64 z1) ∧ w'.cell? ⟨ab, ao + j * 6 + 2, none⟩ = some (.int .i64 z2) ∧ w'.cell? ⟨ab, ao + j * 6 + 3, none⟩ = some (.int .i64 z3) ∧ w'.cell? ⟨ab, ao + j * 6 + 4, none⟩ = some (.int .i64 z4) ∧ w'.cell? ⟨ab, ao + j * 6 + 5, none⟩ = some (.int .i64 z5))
        (first | (with_reducible exact eight_keep hK b0 b1 q0 q1 q2 q3 q4 q5) | (with_reducible exact eight_keep (hK0.alloc _).drew b0 b1 q0 q1 q2 q3 q4 q5) | (with_reducible exact eight_own hk5 HNB.out hnab b0 b1 q0 q1 q2 q3 q4 q5) | (with_reducible exact eight_own (hk5.alloc _) HNB.out hnab b0 b1 q0 q1 q2 q3 q4 q5) | (with_reducible exact eight_own (hk5.set2 (Nat.le_refl _)) HNB.out hnab b0 b1 q0 q1 q2 q3 q4 q5) | fail)
        (first
          | (go_at_call 18; with_reducible refine (HDO.out _ (by first | exact hK | exact (hK0.alloc _).drew)).mono ?_; rintro e5 w5 ⟨v5, rfl, ht5, hls5, hk5'⟩; obtain ⟨va5, vc5, rfl⟩ := hls5.form; have hk5 : Keeps own wr w5 := (by first | exact (hK.mono (fp' := own) fun _ _ q => q.elim).trans' hk5' | exact ((hK0.alloc _).drew.mono (fp' := own) fun _ _ q => q.elim).trans' hk5'); (first | (with_reducible have hz1 := box2_keptDO hk5' (fun q => absurd (HLO.out _ q) (by have := HBX.out; omega)); obtain ⟨z10, z11, zf10, zf11, zl1⟩ := hz1.cells) | skip))
          | fail)
      all_goals
        clear b0 b1 bf0 bf1 bl q0 q1 q2 q3 q4 q5
        go_upto_region 10 with fail
        first
          | (have HB := Lib.hid (boxB (E := 8) ht5 hls5 hk5 hz1 (Nat.le_refl _) (fun q => absurd (HLO.out _ q) (by have := HBX.out; have := HLA.out.cells.2.2.2.2; omega))); generalize (World.setCell _ _ _).setCell _ (.slice va5 _ _) = wc at *)
          | (have HB := Lib.hid (boxA (E := 8) ht5 hls5 hk5); generalize World.alloc w5 _ = wc at *; generalize w5.heap.size = y at *)
        clear ht5 hls5 hk5 hk5'
        obtain ⟨k0, k1, _, _, _⟩ := HB.out.1.cells
        obtain ⟨x0, x1, xf0, xf1, xl⟩ := (HLA.out.box.kept HB.out.2.2.2 HNB.out).cells
        simp only [h8] at k0 k1 x0 x1
        have HS2 := Lib.hid (HLA.out.step HB.out.2.2.2 HB.out.2.1 HB.out.2.2.1 (Keeps.refl _ _) HG.out HLN.out)
        simp only [h8] at HS2
        go_upto_region 11 with fail
        generalize (World.setCell _ _ _).setCell _ (.slice va5 _ _) = we at *
        have HS3 : Hid (∃ L v, LawAt w0 own p 8 8 B V bx L v we) := ⟨_, _, HS2.out⟩
        clear k0 k1 x0 x1 xf0 xf1 xl HS2 HB
        go_wp2_with fail
        refine ⟨⟨j + 1, by omega, by omega, by simp, HS3⟩, by simp [intOf]; omega⟩
    · have hKp := HLA.out.kp
      obtain ⟨b0, b1, _, _, _⟩ := HLA.out.cells
      obtain ⟨c0', c1', _, _, _⟩ := (HBC.out.kept hKp id).cells
      have h8 : ((8 : Nat) : Int) = 8 := rfl
      have HTC := Lib.hid (fun W (hk : Keeps (fun _ => False) wr W) => tcheck (HLA.out.tu.keep hk) c1 c2)
      have HRC := Lib.hid (fun W (hk : Keeps (fun _ => False) wr W) => rcheck (HLA.out.ls.keep hk) HLA.out.good.toWF h0L (by rw [HLA.out.len]; omega) (by decide : 8 ≤ 1048576) c1 c2)
      have HNM := Lib.hid (fun k W (hk : Keeps (fun _ => False) wr W) => num10_val k W ((HE0.out.keep hKp).keep hk))
      have HSU := Lib.hid (fun W => sure10 W)
      have HKP := Lib.hid hKp
      unfold RetPost tptr cval at HTC
      unfold RetPost rval at HRC
      unfold NumPost at HNM
      unfold TruePost at HSU
      simp only [h8] at HRC b0
      generalize chkErr L c1 c2 = er at *
      have hee : (((er : Nat) : Int) == ((er : Nat) : Int)) = true := by simp
      have hK : Keeps (fun _ => False) wr wr.drew := (Keeps.refl _ _).drew
      clear hKp hla h0L hk1 hk2
      rcases (show j < ls.length ∧ ¬ j < 30 ∨ ¬ j < ls.length by omega) with ⟨hja, hjb⟩ | hja
      all_goals
        go_upto_region 13 with fail
        go_region_held3 (fun w' => w'.cell? ⟨bx, 0, none⟩ = some (.int .i64 8) ∧ w'.cell? ⟨bx, 1, none⟩ = some (.slice va V vc) ∧ w'.cell? ⟨w.heap.size, 0, none⟩ = some (.int .i64 c1) ∧ w'.cell? ⟨w.heap.size, 1, none⟩ = some (.int .i64 c2))
          (first | (with_reducible exact ⟨hK.cellF b0, hK.cellF b1, hK.cellF c0', hK.cellF c1'⟩) | fail)
          (first
            | (go_at_call 20; with_reducible refine (HTC.out _ hK).mono ?_; rintro e5 w5 ⟨rfl, hk5⟩; have hK := hK.trans' hk5)
            | (go_at_call 19; with_reducible refine (HNM.out er _ hK).mono ?_; rintro e5 w5 ⟨rfl, hk5⟩; have hK := hK.trans' hk5)
            | (go_at_call 21; with_reducible refine (HRC.out _ hK).mono ?_; rintro e5 w5 ⟨rfl, hk5⟩; have hK := hK.trans' hk5)
            | (go_at_call 22; with_reducible refine (HSU.out _).mono ?_; rintro e5 w5 ⟨rfl, hk5⟩; have hK := hK.trans' hk5)
            | fail)
      all_goals
        have HF := Lib.hid ((HK0.out.trans' HKP.out).trans' hK)
        clear hK
        go_wp2_with fail
        go_ret
        exact ⟨rfl, HF.out⟩
theorem turnChecks_enter (W : World) (hE : ErrT W) (n : Int) (_ : (Lit.int .i64 n).wf = true) (a : Option Addr) (c : Nat) (ls : List Act10) (hr : Rd W a (ls.flatMap actCells)) (hl : ls.length ≤ 9223372036854775807) (c1 c2 : Int) :
    Calls Tryd.prog 3 #[.int .i64 n, .slice a ls.length c, .agg #[.int .i64 c1, .int .i64 c2]] W (TruePost W) := turnChecks_walk n a c ls c1 c2 W hE hr hl
end Go.Proofs.YtjmkejkhpdhhbaaDoor
