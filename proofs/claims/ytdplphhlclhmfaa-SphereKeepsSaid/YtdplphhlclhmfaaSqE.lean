/- Chapter 12's laws: SphereKeeps. -/
import Derived.Test.YtdplphhlclhmfaaSpF
import Derived.Test.YtdplphhlclhmfaaSpG
import Derived.Test.YtdplphhlclhmfaaSpW
import Derived.Deep.RegionHeld3
namespace Go.Proofs.Ytdplphhlclhmfaa
open Go Go.RowKit
set_option linter.unusedVariables false
set_option linter.unusedSimpArgs false
set_option maxRecDepth 100000

/-- It lies in no block below. -/
def Fresh (B : Nat) (a : Option Addr) : Prop := ∀ b off, a = some ⟨b, off, none⟩ → B ≤ b
theorem Fresh.of_own {w : World} {B B' : Nat} {t : TypeId} {v : Value} {n k c : Nat} {xs : List Value} {a : Option Addr} (h : w.ownsRow B t 1 v n xs) (hv : v = .slice a k c) (hB : B' ≤ B) : Fresh B' a := by
  intro b off e
  have := (h.lt b (by rw [hv, e]; simp [Value.ownBlock])).1
  omega
section
variable {w wr w1 w0 : World} {own : Nat → Prop} {p E B V bx Et : Nat} {L : List (List Nat)} {v : Value}
theorem LawAt.turned (h : LawAt w0 own p Et E B V bx L v wr) (hk : Keeps own wr w1) (tu : Tu w1 own p Et L) : LawAt w0 own p Et E B V bx L v w1 :=
  ⟨h.good, h.len, tu, h.ls.kept hk (fun k q => (h.low k q).2), h.box.kept hk h.nbx, h.thin hk, h.low, h.bxB, h.bB⟩
theorem sflat_all (h : Tu w own p E L) (hg : Good E L) (la : Option Addr) (lc : Nat) (hr : Rd w la (nats (List.range L.length))) (hl : L.length ≤ 1048576) :
    Calls Try.prog 8 #[tptr p, .slice la L.length lc] w (RetPost (.tuple #[.bool (decide (dfc L E = 0)), .nilIface]) w) := by
  rw [nats_i64s] at hr
  have h1 := sflat h hg la lc (List.range L.length) hr (by rw [List.length_range]; exact hl) (VOk.range L).chk (VOk.range L).lt
  rw [List.length_range] at h1
  refine h1.mono ?_
  rintro e w1 ⟨t, rfl, ht, hk⟩
  have : t = decide (dfc L E = 0) := by
    rw [Bool.eq_iff_iff, ht, flat_iff hg, decide_eq_true_iff]
  rw [this]
  exact ⟨rfl, hk⟩
theorem lift_none {L : List (List Nat)} {E e : Nat} (h : Good E L) (hs : Stands L (2 * e)) (hd : dfc L E = 0) : liftErr E L (e : Int) = 0 ∧ lift E L (e : Int) = liftL L e ∧ Good E (liftL L e) ∧ dfc (liftL L e) E = 0 := by
  have hb := h.toWF.bdS hs
  have hle : liftErr E L (e : Int) = 0 := by
    unfold liftErr
    rw [if_neg (by omega), Int.toNat_natCast, if_pos hs]
  have hl : lift E L (e : Int) = liftL L e := by
    unfold lift
    rw [if_pos hle, Int.toNat_natCast]
  have hg := h.lift (e : Int)
  rw [hl] at hg
  have h1 := dfc_lift h hs hg
  have h2 := dfc_pos _ hg rfl
  exact ⟨hle, hl, hg, by omega⟩
theorem dfc_new (E V : Nat) : dfc (List.replicate V []) E = 0 := by
  refine dfc_none (Good.new E V) ?_
  have hn : ∀ d, ¬ Stands (List.replicate V []) d := fun d q => by
    obtain ⟨v, l, hv, hl⟩ := stands_iff.1 q
    rw [List.getElem?_replicate] at hv
    split at hv
    · cases hv; cases hl
    · cases hv
  unfold laidN
  rw [List.filter_eq_nil_iff.2 fun e _ q => hn _ (of_decide_eq_true q)]
  rfl
end
theorem Blk.set6 {w : World} {b : Nat} {t : TypeId} {x0 x1 x2 x3 x4 x5 y0 y1 y2 y3 y4 y5 : Value} (h : Blk w b #[y0, y1, y2, y3, y4, y5] t) :
    Blk ((((((w.setCell ⟨b, 0, none⟩ x0).setCell ⟨b, 1, none⟩ x1).setCell ⟨b, 2, none⟩ x2).setCell ⟨b, 3, none⟩ x3).setCell ⟨b, 4, none⟩ x4).setCell ⟨b, 5, none⟩ x5) b #[x0, x1, x2, x3, x4, x5] t := by
  have := (((((h.set 0 x0).set 1 x1).set 2 x2).set 3 x3).set 4 x4).set 5 x5
  simpa using this
theorem Keeps.set6 {w0 W : World} (hk : Keeps (fun _ => False) w0 W) {b : Nat} (hb : w0.heap.size ≤ b) {x0 x1 x2 x3 x4 x5 : Value} :
    Keeps (fun _ => False) w0 ((((((W.setCell ⟨b, 0, none⟩ x0).setCell ⟨b, 1, none⟩ x1).setCell ⟨b, 2, none⟩ x2).setCell ⟨b, 3, none⟩ x3).setCell ⟨b, 4, none⟩ x4).setCell ⟨b, 5, none⟩ x5) :=
  (((((hk.setNew hb _ _).setNew hb _ _).setNew hb _ _).setNew hb _ _).setNew hb _ _).setNew hb _ _
theorem actCells_get (y : Act10) : actCells y = [.int .i64 y.kind, .int .i64 y.e, .int .i64 y.a.1, .int .i64 y.a.2, .int .i64 y.b.1, .int .i64 y.b.2] := rfl
set_option maxHeartbeats 16000000 in
theorem sphereKeeps_walk (n : Int) (a : Option Addr) (c : Nat) (ls : List Act10) (x : Act10) (w : World) (hz : Rd w a (actsV ls)) (hzl : ls.length ≤ 9223372036854775807) :
    Calls Try.prog 4 #[.int .i64 n, .slice a ls.length c, actVal x] w (TruePost w) := by
  obtain ⟨hk1, hk2⟩ := kof_le n 6 (by decide)
  have hk := show wrap64 (1 + wrap64 ((IntKind.u64.wrap n).tmod 6)) = (kof n 6 : Int) from kof_val n 6 (by decide) (by decide)
  generalize kof n 6 = V at *
  obtain ⟨kind, e0, ⟨x1, x2⟩, ⟨x3, x4⟩⟩ := x
  generalize hW : w.alloc (.cells #[.int .i64 kind, .int .i64 e0, .int .i64 x1, .int .i64 x2, .int .i64 x3, .int .i64 x4] 44) = w0
  have hK0 : Keeps (fun _ => False) w w0 := by rw [← hW]; exact (Keeps.refl _ _).alloc _
  have HBA0 : Hid (Blk w0 w.heap.size #[.int .i64 kind, .int .i64 e0, .int .i64 x1, .int .i64 x2, .int .i64 x3, .int .i64 x4] 44) := by rw [← hW]; exact Lib.hid (Blk.new _ _ _)
  have HZ0 := Lib.hid (hz.keep hK0)
  have HK0 := Lib.hid hK0
  clear hz hK0
  have HTN := Lib.hid (tnew V 8 w0 hk1 (by omega) (by decide) (by decide))
  have HRN := Lib.hid (fun W => rnew V 8 W hk1 (by omega))
  have HSU := Lib.hid (fun W => sure12 W)
  obtain ⟨i0, hi, hz0, hz1, hz2⟩ := info_parts infoI
  unfold TruePost at HSU
  unfold NewPost tptr at HTN
  unfold RPost rval at HRN
  unfold TruePost actVal
  go_enter Try.func4, Try.ntmps4
  go_upto_region 1 with fail
  clear hW
  go_upto_region 2 with fail
  rw [hk]
  go_wp2_with fail
  refine HTN.out.mono ?_
  rintro e w1 ⟨p, own, rfl, htu, hfr, hk1'⟩
  have HTU := Lib.hid htu
  have HFR := Lib.hid hfr
  have HK1 := Lib.hid hk1'
  clear htu hfr hk1' hk
  go_wp2_with fail
  refine (HRN.out w1).mono ?_
  rintro e w2 ⟨v, rfl, hls, hk2'⟩
  obtain ⟨va, vc, rfl⟩ := hls.form
  have HLA := Lib.hid (LawAt.start (w0 := w0) (E := 8) HTU.out HFR.out HK1.out hls hk2')
  clear hls hk2' HTU HFR HK1 HTN HRN
  simp only [List.length_replicate] at HLA
  go_upto_region 6 with fail
  have HLA0 : Hid (∃ L v, LawAt w0 own p 8 8 w1.heap.size V w2.heap.size L v (w2.alloc (.cells #[.int .i64 8, .slice va V vc] 47)) ∧ dfc L 8 = 0) := ⟨_, _, HLA.out, dfc_new 8 V⟩
  clear HLA
  have HBXL : Hid (w2.heap.size < (w2.alloc (.cells #[.int .i64 8, .slice va V vc] 47)).heap.size) := Lib.hid (by simp)
  generalize w2.alloc _ = w3 at *
  generalize w2.heap.size = bx at *
  generalize w1.heap.size = B at *
  go_upto_block 0 with fail
  go_cut [11] (fun s wc => Hid (∃ (la : Option Addr) (lc : Nat), s = .slice la V lc ∧ Rd wc la (nats (List.range V)) ∧ Fresh w3.heap.size la ∧ Keeps (fun _ => False) w3 wc))
  case first =>
    as_aux_lemma =>
    go_wp2_with fail
    go_loopw [11, 12] (fun t i wx => ∃ (d : Nat), d ≤ V ∧ i = .int .i64 (d : Int) ∧ Hid (wx.ownsRow w3.heap.size 3 1 t d (nats (List.range d)) ∧ Keeps (fun _ => False) w3 wx)) (fun _ i _ => V - (intOf i).toNat)
    case atStart => exact ⟨0, Nat.zero_le _, rfl, Lib.hid ⟨World.ownsRow_nil _ _ _ _, Keeps.refl _ _⟩⟩
    case round =>
      obtain ⟨d, hd, rfl, HR⟩ := hrel
      by_cases hlt2 : d < V
      · have hdI : (d : Int) < (V : Int) := by omega
        have hown := HR.out.1
        have hB6 := HR.out.2.size
        go_wp2_with (first | (at_builtin; refine wpList_app1 rfl _ _ 22 rfl w3.heap.size 3 i0 (.int .i64 0) 1 8 Try.underlying22 hi hz0 hz1 hz2 rfl (by decide) _ _ _ rfl hown _ 1 1 [.int .i64 (d : Int)] 3 rfl rfl rfl ?c1 ?c2 ?c3 ?c4 ?_))
        case c1 => simp [Value.oneCell']
        case c2 => unfold maxLen; omega
        case c3 => omega
        case c4 => exact hB6
        intro v7 w7 ho hk7 _ _ _
        have HN : Hid (w7.ownsRow w3.heap.size 3 1 v7 (d + 1) (nats (List.range (d + 1))) ∧ Keeps (fun _ => False) w3 w7) := by
          refine Lib.hid ⟨?_, HR.out.2.thin hk7 fun i e => (HR.out.1.lt i e).1⟩
          rw [List.range_succ, nats_append]; exact ho
        clear ho hk7 hown
        go_wp2_with fail
        exact ⟨⟨d + 1, by omega, by first | rfl | trivial, HN⟩, by simp [intOf]; omega⟩
      · obtain rfl : d = V := by omega
        have HR0 := HR
        go_wp2_with fail
        go_meet
        obtain ⟨la, lc, e, hrd, _⟩ := Rd.of_own HR0.out.1
        have hfr := Fresh.of_own HR0.out.1 e (Nat.le_refl _)
        subst e
        exact Lib.hid ⟨la, lc, rfl, hrd, hfr, HR0.out.2⟩
  case rest =>
    obtain ⟨la, lc, rfl, hrl, hfl, hkl⟩ := hcut.out
    have HFL : Hid (∀ b off, la = some ⟨b, off, none⟩ → ¬ own b ∧ b ≠ bx) := Lib.hid (by
      obtain ⟨L, v, hla, _⟩ := HLA0.out
      intro b off e
      have h1 := hfl b off e
      have h2 := HBXL.out
      exact ⟨fun q => by have h3 := hla.low _ q; have h4 := hla.bxB; omega, by omega⟩)
    have HS0 : Hid (∃ L v, LawAt w0 own p 8 8 B V bx L v wc ∧ dfc L 8 = 0 ∧ Rd wc la (nats (List.range V))) := Lib.hid (by
      obtain ⟨L, v, hla, hd⟩ := HLA0.out
      exact ⟨L, v, hla.keep hkl, hd, hrl⟩)
    clear hcut hrl hfl hkl hi hz0 hz1 hz2 i0 HLA0 HBXL
    go_wp2_with fail
    go_loopw [13] (fun i wr => ∃ (k : Nat), k ≤ ls.length + 1 ∧ k ≤ 40 ∧ i = .int .i64 (k : Int) ∧ Hid (∃ L v, LawAt w0 own p 8 8 B V bx L v wr ∧ dfc L 8 = 0 ∧ Rd wr la (nats (List.range V)))) (fun i _ => ls.length + 1 - (intOf i).toNat)
    case atStart => exact ⟨0, Nat.zero_le _, Nat.zero_le _, rfl, HS0⟩
    case round =>
      obtain ⟨k, hk, hk40, rfl, HS⟩ := hrel
      clear HS0
      by_cases hlt : k ≤ ls.length ∧ k < 40
      · as_aux_lemma =>
        obtain ⟨hlt, hlt2⟩ := hlt
        have hleI : (k : Int) ≤ (ls.length : Int) := by omega
        have h40I : (k : Int) < 40 := by omega
        obtain ⟨L, v, hla, hdf, hrl⟩ := HS.out
        have hlen := hla.len
        obtain ⟨va, vc, rfl⟩ := hla.ls.form
        rw [hlen] at hla
        have HLA := Lib.hid hla
        have HDF := Lib.hid hdf
        have HRL := Lib.hid hrl
        clear hla hdf hrl HS
        have hbo := HBA0.out.kept HLA.out.kp id
        have g0 := hbo.cell (i := 0)
        have g1 := hbo.cell (i := 1)
        have g2 := hbo.cell (i := 2)
        have g3 := hbo.cell (i := 3)
        have g4 := hbo.cell (i := 4)
        have g5 := hbo.cell (i := 5)
        simp only [List.getElem?_toArray, List.getElem?_cons_zero, List.getElem?_cons_succ] at g0 g1 g2 g3 g4 g5
        have hbl := hbo.lt
        clear hbo
        go_upto_region 15 with fail
        have HAB : Hid (Blk (wr.alloc (.cells #[.int .i64 kind, .int .i64 e0, .int .i64 x1, .int .i64 x2, .int .i64 x3, .int .i64 x4] 44)) wr.heap.size #[.int .i64 kind, .int .i64 e0, .int .i64 x1, .int .i64 x2, .int .i64 x3, .int .i64 x4] 44) := Lib.hid (Blk.new _ _ _)
        have HLA1 := Lib.hid (HLA.out.keep ((Keeps.refl _ _).alloc (.cells #[.int .i64 kind, .int .i64 e0, .int .i64 x1, .int .i64 x2, .int .i64 x3, .int .i64 x4] 44)))
        have HRL1 := Lib.hid (HRL.out.keep ((Keeps.refl (fun _ => False) wr).alloc (.cells #[.int .i64 kind, .int .i64 e0, .int .i64 x1, .int .i64 x2, .int .i64 x3, .int .i64 x4] 44)))
        have HKA : Hid (∀ z0 z1 z2 z3 z4 z5 : Int, Keeps (fun _ => False) wr (((((((wr.alloc (.cells #[.int .i64 kind, .int .i64 e0, .int .i64 x1, .int .i64 x2, .int .i64 x3, .int .i64 x4] 44)).setCell ⟨wr.heap.size, 0, none⟩ (.int .i64 z0)).setCell ⟨wr.heap.size, 1, none⟩ (.int .i64 z1)).setCell ⟨wr.heap.size, 2, none⟩ (.int .i64 z2)).setCell ⟨wr.heap.size, 3, none⟩ (.int .i64 z3)).setCell ⟨wr.heap.size, 4, none⟩ (.int .i64 z4)).setCell ⟨wr.heap.size, 5, none⟩ (.int .i64 z5))) := Lib.hid fun _ _ _ _ _ _ => ((Keeps.refl _ _).alloc _).set6 (Nat.le_refl _)
        have HLW := Lib.hid (fun W (hk : Keeps (fun _ => False) wr W) => And.intro (HLA.out.keep hk) (HRL.out.keep hk))
        have HABN : Hid (bx < wr.heap.size) := Lib.hid HLA.out.box.lt
        have HABL : Hid (wr.heap.size < (wr.alloc (.cells #[.int .i64 kind, .int .i64 e0, .int .i64 x1, .int .i64 x2, .int .i64 x3, .int .i64 x4] 44)).heap.size) := Lib.hid (by simp)
        clear g0 g1 g2 g3 g4 g5 hbl HLA HRL
        generalize World.alloc wr _ = w4 at *
        generalize wr.heap.size = ab at *
        have HNAB : Hid (¬ own ab) := Lib.hid fun q => by
          have h1 := HLA1.out.low _ q
          have h2 := HLA1.out.bxB
          have h3 := HABN.out
          omega
        go_upto_if 66 with fail
        go_cut [] (fun w5 => Hid (∃ (y : Act10), Blk w5 ab (actCells y).toArray 44 ∧ LawAt w0 own p 8 8 B V bx L (.slice va V vc) w5 ∧ Rd w5 la (nats (List.range V))))
        case first =>
          by_cases hkl : k < ls.length
          · have hkI : (k : Int) < (ls.length : Int) := by omega
            obtain ⟨b, off, rfl, hab, q0, q1, q2, q3, q4, q5⟩ := actsAt (HZ0.out.keep HLA1.out.kp) k hkl
            have hab0 : b < w0.heap.size := (actsAt HZ0.out k hkl).elim fun b h => by
              obtain ⟨off, he, hb, _⟩ := h
              cases he; exact hb
            have f0 := HAB.out.free 0
            have f1 := HAB.out.free 1
            have f2 := HAB.out.free 2
            have f3 := HAB.out.free 3
            have f4 := HAB.out.free 4
            have f5 := HAB.out.free 5
            have r0 := HAB.out.cell (i := 0)
            have r1 := HAB.out.cell (i := 1)
            have r2 := HAB.out.cell (i := 2)
            have r3 := HAB.out.cell (i := 3)
            have r4 := HAB.out.cell (i := 4)
            have r5 := HAB.out.cell (i := 5)
            simp only [List.getElem?_toArray, List.getElem?_cons_zero, List.getElem?_cons_succ] at r0 r1 r2 r3 r4 r5
            have HLK : Hid (∀ W, Blk W ab #[.int .i64 ls[k].kind, .int .i64 ls[k].e, .int .i64 ls[k].a.1, .int .i64 ls[k].a.2, .int .i64 ls[k].b.1, .int .i64 ls[k].b.2] 44 → Keeps (fun _ => False) wr W → ∃ (y : Act10), Blk W ab (actCells y).toArray 44 ∧ LawAt w0 own p 8 8 B V bx L (.slice va V vc) W ∧ Rd W la (nats (List.range V))) := Lib.hid fun W h1 h2 => ⟨ls[k], h1, HLW.out _ h2⟩
            have HYZ : Hid (∀ z0 z1 z2 z3 z4 z5 : Int, Blk ((((((w4.setCell ⟨ab, 0, none⟩ (.int .i64 z0)).setCell ⟨ab, 1, none⟩ (.int .i64 z1)).setCell ⟨ab, 2, none⟩ (.int .i64 z2)).setCell ⟨ab, 3, none⟩ (.int .i64 z3)).setCell ⟨ab, 4, none⟩ (.int .i64 z4)).setCell ⟨ab, 5, none⟩ (.int .i64 z5)) ab #[.int .i64 z0, .int .i64 z1, .int .i64 z2, .int .i64 z3, .int .i64 z4, .int .i64 z5] 44) := Lib.hid fun _ _ _ _ _ _ => HAB.out.set6
            clear HLW
            generalize ls[k].kind = z0 at *
            generalize ls[k].e = z1 at *
            generalize ls[k].a.1 = z2 at *
            generalize ls[k].a.2 = z3 at *
            generalize ls[k].b.1 = z4 at *
            generalize ls[k].b.2 = z5 at *
            go_wp2_with fail
            go_meet
            exact Lib.hid (HLK.out _ (HYZ.out _ _ _ _ _ _) (HKA.out _ _ _ _ _ _))
          · have hkI : ¬ (k : Int) < (ls.length : Int) := by omega
            go_wp2_with fail
            go_meet
            exact Lib.hid ⟨⟨kind, e0, ⟨x1, x2⟩, ⟨x3, x4⟩⟩, HAB.out, HLA1.out, HRL1.out⟩
        case rest =>
          obtain ⟨y, hab, hla, hrl⟩ := hcut.out
          obtain ⟨kd, ye, ⟨a1, a2⟩, ⟨b1, b2⟩⟩ := y
          have HAC : Hid (Blk wc ab #[.int .i64 kd, .int .i64 ye, .int .i64 a1, .int .i64 a2, .int .i64 b1, .int .i64 b2] 44) := Lib.hid hab
          have HLA := Lib.hid hla
          have HRL := Lib.hid hrl
          clear hcut hab hla hrl HAB HLA1 HRL1 HKA HLW
          have q1 := HAC.out.cell (i := 1)
          simp only [List.getElem?_toArray, List.getElem?_cons_zero, List.getElem?_cons_succ] at q1
          by_cases he : 0 ≤ ye ∧ ye ≤ 7
          · obtain ⟨m, rfl⟩ := Int.eq_ofNat_of_zero_le he.1
            have hm8 : m < 8 := by omega
            have hd1 : decide ((m : Int) < 0) = false := by simp
            have hd2 : decide (7 < (m : Int)) = false := decide_eq_false (by omega)
            have hd7 : ¬ 7 < m := by omega
            have HTH : Hid (Calls Try.prog 12 #[tptr p, .int .i64 (m : Int)] wc (RetPost (.bool (decide (Stands L (2 * m)))) wc)) := Lib.hid (by
              have := thas HLA.out.tu (m : Int)
              rw [Int.toNat_natCast] at this
              have e : decide (0 ≤ (m : Int) ∧ (m : Int) < ((8 : Nat) : Int) ∧ Stands L (2 * m)) = decide (Stands L (2 * m)) := by
                rw [Bool.eq_iff_iff, decide_eq_true_iff, decide_eq_true_iff]
                exact ⟨fun q => q.2.2, fun q => ⟨by omega, by omega, q⟩⟩
              rw [e] at this
              exact this)
            obtain ⟨bs, hbs⟩ : ∃ bs, decide (Stands L (2 * m)) = bs := ⟨_, rfl⟩
            rw [hbs] at HTH
            have HBS := Lib.hid hbs
            clear hbs he
            unfold tptr RetPost at HTH
            go_upto_region 18 with fail
            go_wp2_with fail
            with_reducible refine HTH.out.mono ?_
            rintro e w6 ⟨rfl, hk⟩
            have HLA6 := Lib.hid (HLA.out.keep hk)
            have HRL6 := Lib.hid (HRL.out.keep hk)
            have HAC6 := Lib.hid (HAC.out.kept hk id)
            have HABL6 : Hid (bx < ab) := HABN
            clear hk HLA HRL HAC HTH q1
            go_upto_if 82 with fail
            go_cut [] (fun w7 => Hid (∃ L v, LawAt w0 own p 8 8 B V bx L v w7 ∧ dfc L 8 = 0 ∧ Rd w7 la (nats (List.range V))))
            case first =>
              cases bs with
              | true =>
                as_aux_lemma =>
                obtain ⟨hle, hll, hg2, hd2⟩ := lift_none HLA6.out.good (of_decide_eq_true HBS.out) HDF.out
                have HLF : Hid (Calls Try.prog 13 #[tptr p, .int .i64 (m : Int)] w6 (TPost own p 8 (liftL L m) .nilIface w6)) := Lib.hid (by
                  have := tlift HLA6.out.tu HLA6.out.good (m : Int)
                  rw [hle, hll, errVal_zero] at this
                  exact this)
                have HRF : Hid (∀ W, Keeps own w6 W → Calls Try.prog 14 #[rval 8 (.slice va V vc), .int .i64 (m : Int)] W (RLPost 8 B (liftL L m) (0 : Nat) W)) := Lib.hid fun W hk => by
                  have := rlift (HLA6.out.ls.kept hk (fun k q => (HLA6.out.low k q).2)) HLA6.out.good (by rw [HLA6.out.len]; exact hk1) (by rw [HLA6.out.len]; omega) (by decide) (m : Int)
                  rw [hle, hll] at this
                  exact this
                have HG2 := Lib.hid hg2
                have HD2 := Lib.hid hd2
                have HLN : Hid ((liftL L m).length = V) := Lib.hid (by rw [← hll, lift_length]; exact hlen)
                clear hle hll hg2 hd2
                unfold tptr TPost at HLF
                unfold RLPost rval at HRF
                simp only [show ((0 : Nat) : Int) = 0 from rfl, show ((8 : Nat) : Int) = 8 from rfl] at HRF
                generalize liftL L m = L2 at *
                have q1 := HAC6.out.cell (i := 1)
                simp only [List.getElem?_toArray, List.getElem?_cons_zero, List.getElem?_cons_succ] at q1
                go_wp2_with fail
                with_reducible refine HLF.out.mono ?_
                rintro e w7 ⟨rfl, ht7, hk7⟩
                have HT7 := Lib.hid ht7
                have HK7 := Lib.hid hk7
                have HRF7 := Lib.hid (HRF.out _ hk7)
                obtain ⟨b0, b1', _, _, _⟩ := (HLA6.out.box.kept hk7 HLA6.out.nbx).cells
                have q1 := (HAC6.out.kept hk7 HNAB.out).cell (i := 1)
                simp only [List.getElem?_toArray, List.getElem?_cons_zero, List.getElem?_cons_succ] at q1
                simp only [show ((8 : Nat) : Int) = 8 from rfl] at b0
                clear ht7 hk7 HLF HRF
                go_wp2_with fail
                with_reducible refine HRF7.out.mono ?_
                rintro e w8 ⟨v8, rfl, hls8, hk8⟩
                obtain ⟨va8, vc8, rfl⟩ := hls8.form
                have hk78 : Keeps own w6 w8 := HK7.out.trans' (hk8.mono fun _ _ q => q.elim)
                have HS2 := Lib.hid (HLA6.out.step hk78 (HT7.out.keep hk8) hls8 (Keeps.refl _ _) HG2.out HLN.out)
                simp only [show ((8 : Nat) : Int) = 8 from rfl] at HS2
                have HR8 := Lib.hid (HRL6.out.kept hk78 fun b off e => (HFL.out b off e).1)
                obtain ⟨c0, c1, f0, f1, _⟩ := ((HLA6.out.box.kept hk78 HLA6.out.nbx)).cells
                simp only [show ((8 : Nat) : Int) = 8 from rfl] at c0
                have HR9 : Hid (∀ z1 z2, Rd ((w8.setCell ⟨bx, 0, none⟩ z1).setCell ⟨bx, 1, none⟩ z2) la (nats (List.range V))) := Lib.hid fun z1 z2 => HR8.out.kept (((Keeps.refl (fun k => k = bx) w8).setIn bx 0 _ rfl).setIn bx 1 _ rfl) fun b off e => (HFL.out b off e).2
                clear hls8 hk8 hk78 b0 b1' q1 HT7 HK7 HRF7
                go_wp2_with fail
                go_meet
                exact Lib.hid ⟨_, _, HS2.out, HD2.out, HR9.out _ _⟩
              | false =>
                have hns : ¬ Stands L (2 * m) := of_decide_eq_false HBS.out
                have hl1 : 0 < L.length := by rw [hlen]; exact hk1
                have HCO := Lib.hid (fun W (hk : Keeps (fun _ => False) w6 W) (q : Int × Int) => corner12 (HLA6.out.ls.keep hk) HLA6.out.good.toWF hl1 (by omega) (by decide) q false)
                have HCA := Lib.hid (fun W (hk : Keeps (fun _ => False) w6 W) => HCO.out W hk (a1, a2))
                have HCB := Lib.hid (fun W (hk : Keeps (fun _ => False) w6 W) => HCO.out W hk (b1, b2))
                have HOKA : Hid (chkErr L (crnR L (a1, a2) false).1 (crnR L (a1, a2) false).2 = 0) := Lib.hid (crn_ok hl1 (a1, a2))
                have HOKB : Hid (chkErr L (crnR L (b1, b2) false).1 (crnR L (b1, b2) false).2 = 0) := Lib.hid (crn_ok hl1 (b1, b2))
                clear HCO
                unfold rval RetPost cArr at HCA HCB
                simp only [show ((8 : Nat) : Int) = 8 from rfl] at HCA HCB
                generalize crnR L (a1, a2) false = ca at *
                generalize crnR L (b1, b2) false = cb at *
                obtain ⟨ca1, ca2⟩ := ca
                obtain ⟨cb1, cb2⟩ := cb
                simp only at HCA HCB HOKA HOKB
                have hse : sameErr L (ca1, ca2) (cb1, cb2) = 0 := by
                  unfold sameErr
                  rw [if_neg (by rw [HOKA.out]; exact fun q => q rfl)]
                  exact HOKB.out
                have hle : layErr 8 L (m : Int) (ca1, ca2) (cb1, cb2) = 0 := by
                  unfold layErr
                  rw [if_neg (by omega), Int.toNat_natCast, if_neg hns, if_neg (by rw [HOKA.out]; exact fun q => q rfl)]
                  exact HOKB.out
                have hly : lay 8 L (m : Int) (ca1, ca2) (cb1, cb2) = layL L m (ca1, ca2) (cb1, cb2) := by
                  unfold lay
                  rw [if_pos hle, Int.toNat_natCast]
                have hg2 := HLA6.out.good.lay (m : Int) (ca1, ca2) (cb1, cb2)
                rw [hly] at hg2
                have hdl := dfc_lay HLA6.out.good hm8 hns HOKA.out HOKB.out hg2
                rw [HDF.out] at hdl
                obtain ⟨r, hr⟩ : ∃ r, decide (legalC L 8 (ca1, ca2) (cb1, cb2)) = r := ⟨_, rfl⟩
                have hdr : decide (dfc (layL L m (ca1, ca2) (cb1, cb2)) 8 = 0) = r := by
                  rw [hdl, ← hr]
                  by_cases q : legalC L 8 (ca1, ca2) (cb1, cb2)
                  · rw [if_pos q, decide_eq_true q]; rfl
                  · rw [if_neg q, decide_eq_false q]; rfl
                have HSM : Hid (∀ W, Keeps (fun _ => False) w6 W → Calls Try.prog 7 #[tptr p, cval ca1 ca2, cval cb1 cb2] W (RetPost (.tuple #[.bool r, .nilIface]) W)) := Lib.hid fun W hk => by
                  have h1 := slegal (HLA6.out.tu.keep hk) HLA6.out.good (ca1, ca2) (cb1, cb2)
                  have hdd : decide (sameErr L (ca1, ca2) (cb1, cb2) = 0 ∧ legalC L 8 (ca1, ca2) (cb1, cb2)) = decide (legalC L 8 (ca1, ca2) (cb1, cb2)) := by rw [Bool.eq_iff_iff, decide_eq_true_iff, decide_eq_true_iff, hse]; simp
                  rw [hdd, hr, hse, errVal_zero] at h1
                  exact h1
                have HLY : Hid (∀ W, Keeps (fun _ => False) w6 W → Calls Try.prog 6 #[tptr p, .int .i64 (m : Int), cval ca1 ca2, cval cb1 cb2] W (TPost own p 8 (layL L m (ca1, ca2) (cb1, cb2)) .nilIface W)) := Lib.hid fun W hk => by
                  have h1 := tlay (HLA6.out.tu.keep hk) HLA6.out.good (m : Int) (ca1, ca2) (cb1, cb2)
                  rw [hle, hly, errVal_zero] at h1
                  exact h1
                have hl2 : (layL L m (ca1, ca2) (cb1, cb2)).length = V := by rw [layL_length]; exact hlen
                have HSF : Hid (∀ W, Tu W own p 8 (layL L m (ca1, ca2) (cb1, cb2)) → Rd W la (nats (List.range V)) → Calls Try.prog 8 #[tptr p, .slice la V lc] W (RetPost (.tuple #[.bool r, .nilIface]) W)) := Lib.hid fun W ht hr => by
                  have h1 := sflat_all ht hg2 la lc (by rw [hl2]; exact hr) (by rw [hl2]; omega)
                  rw [hl2, hdr] at h1
                  exact h1
                have hs2 : Stands (layL L m (ca1, ca2) (cb1, cb2)) (2 * m) := (lay_stands HOKA.out HOKB.out).2 (Or.inl (by omega))
                have HLT : Hid (∀ W, Tu W own p 8 (layL L m (ca1, ca2) (cb1, cb2)) → Calls Try.prog 13 #[tptr p, .int .i64 (m : Int)] W (TPost own p 8 L .nilIface W)) := Lib.hid fun W ht => by
                  have h1 := tlift ht hg2 (m : Int)
                  have e1 : liftErr 8 (layL L m (ca1, ca2) (cb1, cb2)) (m : Int) = 0 := by
                    unfold liftErr
                    rw [if_neg (by omega), Int.toNat_natCast, if_pos hs2]
                  have e2 : lift 8 (layL L m (ca1, ca2) (cb1, cb2)) (m : Int) = L := by
                    unfold lift
                    rw [if_pos e1, Int.toNat_natCast]
                    exact lift_layL HOKA.out HOKB.out hns (fun q => hns ((HLA6.out.good.pair m).1 q))
                  rw [e1, e2, errVal_zero] at h1
                  exact h1
                have HRL2 : Hid (∀ W, Keeps own w6 W → Calls Try.prog 16 #[rval 8 (.slice va V vc), .int .i64 (m : Int), .agg #[.int .i64 ca1, .int .i64 ca2], .agg #[.int .i64 cb1, .int .i64 cb2]] W (RLPost 8 B (layL L m (ca1, ca2) (cb1, cb2)) (0 : Nat) W)) := Lib.hid fun W hk => by
                  have h1 := rlay (HLA6.out.ls.kept hk (fun k q => (HLA6.out.low k q).2)) HLA6.out.good (by rw [HLA6.out.len]; exact hk1) (by rw [HLA6.out.len]; omega) (by decide) (m : Int) (ca1, ca2) (cb1, cb2)
                  rw [hle, hly] at h1
                  exact h1
                have HD2 : Hid (r = true → dfc (layL L m (ca1, ca2) (cb1, cb2)) 8 = 0) := Lib.hid fun q => of_decide_eq_true (hdr.trans q)
                have HG2 := Lib.hid hg2
                have HLN := Lib.hid hl2
                have hrr : (r != r) = false := by simp
                clear hse hle hly hg2 hdl hr hdr hl2 hs2 hns HOKA HOKB
                generalize layL L m (ca1, ca2) (cb1, cb2) = L2 at *
                unfold tptr cval RetPost at HSM
                unfold tptr cval TPost at HLY
                unfold tptr RetPost at HSF
                unfold tptr TPost at HLT
                unfold RLPost rval at HRL2
                simp only [show ((0 : Nat) : Int) = 0 from rfl, show ((8 : Nat) : Int) = 8 from rfl] at HRL2
                obtain ⟨wl, rfl⟩ : ∃ wl, wl = w6 := ⟨_, rfl⟩
                obtain ⟨t0, t1, _, _, tl⟩ := HLA6.out.cells
                simp only [show ((8 : Nat) : Int) = 8 from rfl] at t0
                have a0 := HAC6.out.cell (i := 2)
                have a1' := HAC6.out.cell (i := 3)
                have b0 := HAC6.out.cell (i := 4)
                have b1' := HAC6.out.cell (i := 5)
                have hal := HAC6.out.lt
                simp only [List.getElem?_toArray, List.getElem?_cons_zero, List.getElem?_cons_succ] at a0 a1' b0 b1'
                go_upto_region 22 with fail
                go_cut [15, 16] (fun s t wd => Hid (∃ pa pb, s = .pointer (some ⟨pa, 0, none⟩) ∧ t = .pointer (some ⟨pb, 0, none⟩) ∧ Blk wd pa #[.int .i64 ca1, .int .i64 ca2] 42 ∧ Blk wd pb #[.int .i64 cb1, .int .i64 cb2] 42 ∧ wl.heap.size ≤ pa ∧ wl.heap.size ≤ pb ∧ Keeps (fun _ => False) wl wd))
                case first =>
                  have hK0 : Keeps (fun _ => False) wl wl := Keeps.refl _ _
                  have hK : Keeps (fun _ => False) wl wl.drew := (Keeps.refl _ _).drew
                  go_region_held3 (fun w' => w'.cell? ⟨bx, 0, none⟩ = some (.int .i64 8) ∧ w'.cell? ⟨bx, 1, none⟩ = some (.slice va V vc) ∧ w'.cell? ⟨ab, 2, none⟩ = some (.int .i64 a1) ∧ w'.cell? ⟨ab, 3, none⟩ = some (.int .i64 a2) ∧ w'.cell? ⟨ab, 4, none⟩ = some (.int .i64 b1) ∧ w'.cell? ⟨ab, 5, none⟩ = some (.int .i64 b2))
                    (first | (with_reducible exact six_keep hK t0 t1 a0 a1' b0 b1') | (with_reducible exact six_keep (hK.alloc _) t0 t1 a0 a1' b0 b1') | (with_reducible exact six_keep ((hK.alloc _).alloc _) t0 t1 a0 a1' b0 b1') | (with_reducible exact six_keep (set2_keep hK (by first | omega | (simp; omega))) t0 t1 a0 a1' b0 b1') | (with_reducible exact six_keep (set2_keep (hK.alloc _) (by first | omega | (simp; omega))) t0 t1 a0 a1' b0 b1') | (with_reducible exact six_keep ((set2_keep hK (by first | omega | (simp; omega))).alloc _) t0 t1 a0 a1' b0 b1') | (with_reducible exact six_keep (set2_keep (set2_keep hK (by first | omega | (simp; omega))) (by first | omega | (simp; omega))) t0 t1 a0 a1' b0 b1') | (with_reducible exact six_keep (set2_keep ((hK.alloc _).alloc _) (by first | omega | (simp; omega))) t0 t1 a0 a1' b0 b1') | (with_reducible exact six_keep (set2_keep (set2_keep (hK.alloc _) (by first | omega | (simp; omega))) (by first | omega | (simp; omega))) t0 t1 a0 a1' b0 b1') | (with_reducible exact six_keep (set2_keep ((set2_keep hK (by first | omega | (simp; omega))).alloc _) (by first | omega | (simp; omega))) t0 t1 a0 a1' b0 b1') | (with_reducible exact six_keep (set2_keep (set2_keep ((hK.alloc _).alloc _) (by first | omega | (simp; omega))) (by first | omega | (simp; omega))) t0 t1 a0 a1' b0 b1') | (with_reducible exact six_keep (hK0.alloc _).drew t0 t1 a0 a1' b0 b1') | (with_reducible exact six_keep ((hK0.alloc _).alloc _).drew t0 t1 a0 a1' b0 b1'))
                    (first
                      | (go_at_call 15; with_reducible refine (HCA.out _ (by first | exact hK | exact (hK0.alloc _).drew | exact ((hK0.alloc _).alloc _).drew)).mono ?_; rintro e5 w5 ⟨rfl, hk5⟩; have hK : Keeps (fun _ => False) wl w5 := (by first | exact hK.trans' hk5 | exact (hK0.alloc _).drew.trans' hk5 | exact ((hK0.alloc _).alloc _).drew.trans' hk5); have hs5 : wl.heap.size ≤ w5.heap.size := hK.size; (first | (with_reducible have hz1 := box2_keptD hk5; (first | simp only [size_alloc, size_drew] at hz1 | skip); obtain ⟨z10, z11, zf10, zf11, zl1⟩ := hz1.cells) | skip); (first | (with_reducible have hz2 := box2_keptD2 hk5; (first | simp only [size_alloc, size_drew] at hz2 | skip); obtain ⟨z20, z21, zf20, zf21, zl2⟩ := hz2.cells) | skip))
                      | (go_at_call 15; with_reducible refine (HCB.out _ (by first | exact hK | exact hK.alloc _ | exact (hK.alloc _).alloc _)).mono ?_; rintro e6 w6 ⟨rfl, hk6⟩; have hK : Keeps (fun _ => False) wl w6 := (by first | exact hK.trans' hk6 | exact (hK.alloc _).trans' hk6 | exact ((hK.alloc _).alloc _).trans' hk6); have hs6 : wl.heap.size ≤ w6.heap.size := hK.size; (first | (with_reducible have hy1 := hz1.kept hk6 id) | (with_reducible have hy1 := (hz1.alloc _).kept hk6 id) | (with_reducible have hy1 := ((hz1.alloc _).alloc _).kept hk6 id) | skip); (first | (with_reducible have hy2 := hz2.kept hk6 id) | (with_reducible have hy2 := (hz2.alloc _).kept hk6 id) | skip); (first | (with_reducible have hy3 := box2_kept hk6; simp only [size_alloc, size_drew] at hy3) | (with_reducible have hy3 := box2_kept hk6) | skip); (first | (with_reducible have hy4 := box2_kept2 hk6; simp only [size_alloc, size_drew] at hy4) | (with_reducible have hy4 := box2_kept2 hk6) | skip); (first | (obtain ⟨y10, y11, yf10, yf11, yl1⟩ := hy1.cells) | skip); (first | (obtain ⟨y20, y21, yf20, yf21, yl2⟩ := hy2.cells) | skip); (first | (obtain ⟨y30, y31, yf30, yf31, yl3⟩ := hy3.cells) | skip); (first | (obtain ⟨y40, y41, yf40, yf41, yl4⟩ := hy4.cells) | skip))
                      | fail)
                  all_goals
                    go_wp2_with fail
                    go_meet
                    refine Lib.hid ⟨_, _, rfl, rfl, ?_, ?_, by first | omega | (simp; omega) | simp, by first | omega | (simp; omega) | simp, ?_⟩
                    · repeat (first | with_reducible exact Blk.new _ _ _ | with_reducible exact hy1 | with_reducible exact hy2 | with_reducible exact hy3 | with_reducible exact hy4 | with_reducible refine Blk.set2 (x := .int .i64 0) (y := .int .i64 0) ?_ | with_reducible refine Blk.oth2 ?_ (by first | omega | (simp; omega)) | with_reducible exact Blk.newAt _ _ _ (by simp) | with_reducible refine Blk.alloc ?_ _)
                    · repeat (first | with_reducible exact Blk.new _ _ _ | with_reducible exact hy1 | with_reducible exact hy2 | with_reducible exact hy3 | with_reducible exact hy4 | with_reducible refine Blk.set2 (x := .int .i64 0) (y := .int .i64 0) ?_ | with_reducible refine Blk.oth2 ?_ (by first | omega | (simp; omega)) | with_reducible exact Blk.newAt _ _ _ (by simp) | with_reducible refine Blk.alloc ?_ _)
                    · repeat (first | with_reducible exact hK | with_reducible refine set2_keep ?_ (by first | omega | (simp; omega)) | with_reducible refine Keeps.alloc ?_ _)
                case rest =>
                  obtain ⟨pa, pb, rfl, rfl, hba, hbb, hpa, hpb, hkd⟩ := hcut.out
                  have PA := Lib.hid hba
                  have PB := Lib.hid hbb
                  have KD := Lib.hid hkd
                  have HNP : Hid (¬ own pa ∧ ¬ own pb ∧ ∀ q, wc.heap.size ≤ q → ¬ own q) := by
                    have h1 := HLA6.out.box.lt
                    have h2 := HLA6.out.bxB
                    have h3 := hkd.size
                    exact Lib.hid ⟨fun q => by have := HLA6.out.low _ q; omega, fun q => by have := HLA6.out.low _ q; omega, fun x hx q => by have := HLA6.out.low _ q; omega⟩
                  obtain ⟨y0, y1, _, _, yl⟩ := hba.cells
                  obtain ⟨z0, z1, _, _, zl⟩ := hbb.cells
                  clear hcut hba hbb hkd hpa hpb t0 t1 a0 a1' b0 b1' HCA HCB tl hal
                  go_upto_region 23 with fail
                  go_cut [17, 18] (fun s t we => Hid (∃ qa qb, s = .pointer (some ⟨qa, 0, none⟩) ∧ t = .pointer (some ⟨qb, 0, none⟩) ∧ Blk we qa #[.int .i64 ca1, .int .i64 ca2] 30 ∧ Blk we qb #[.int .i64 cb1, .int .i64 cb2] 30 ∧ wc.heap.size ≤ qa ∧ wc.heap.size ≤ qb ∧ Keeps (fun _ => False) wc we))
                  case first =>
                    as_aux_lemma =>
                    go_region
                    all_goals
                      go_wp2_with fail
                      go_meet
                      refine Lib.hid ⟨_, _, rfl, rfl, ?_, ?_, ?_, ?_, (((Keeps.refl _ _).alloc _).alloc _).drew⟩
                      · first | with_reducible exact ((Blk.new _ _ _).alloc _).drew | with_reducible exact (Blk.newAt _ _ _ (by simp)).drew
                      · first | with_reducible exact ((Blk.new _ _ _).alloc _).drew | with_reducible exact (Blk.newAt _ _ _ (by simp)).drew
                      · first | omega | (simp; omega) | simp
                      · first | omega | (simp; omega) | simp
                  case rest =>
                    obtain ⟨qa, qb, rfl, rfl, hqa, hqb, hla, hlb, hke⟩ := hcut.out
                    have KE := Lib.hid (KD.out.trans' hke)
                    have QA := Lib.hid hqa
                    have QB := Lib.hid hqb
                    have PAe := Lib.hid (PA.out.kept hke id)
                    have PBe := Lib.hid (PB.out.kept hke id)
                    have HNQ : Hid (¬ own qa ∧ ¬ own qb) := Lib.hid ⟨HNP.out.2.2 _ hla, HNP.out.2.2 _ hlb⟩
                    clear hcut hqa hqb hke hla hlb y0 y1 z0 z1 yl zl KD PA PB
                    obtain ⟨c0, c1, _, _, _⟩ := QA.out.cells
                    obtain ⟨d0, d1, _, _, _⟩ := QB.out.cells
                    go_wp2_with fail
                    with_reducible refine (HSM.out _ KE.out).mono ?_
                    rintro e w5 ⟨rfl, hk⟩
                    have K5 := Lib.hid (KE.out.trans' hk)
                    have QA5 := Lib.hid (QA.out.kept hk id)
                    have QB5 := Lib.hid (QB.out.kept hk id)
                    have PA5 := Lib.hid (PAe.out.kept hk id)
                    have PB5 := Lib.hid (PBe.out.kept hk id)
                    clear hk c0 c1 d0 d1 QA QB KE HSM PAe PBe
                    obtain ⟨c0, c1, _, _, _⟩ := QA5.out.cells
                    obtain ⟨d0, d1, _, _, _⟩ := QB5.out.cells
                    have q1 := (HAC6.out.kept K5.out id).cell (i := 1)
                    simp only [List.getElem?_toArray, List.getElem?_cons_zero, List.getElem?_cons_succ] at q1
                    go_wp2_with fail
                    with_reducible refine (HLY.out _ K5.out).mono ?_
                    rintro e w7 ⟨rfl, ht7, hk⟩
                    have K7 : Hid (Keeps own wl w7) := Lib.hid ((K5.out.mono fun _ _ q => q.elim).trans' hk)
                    have HT7 := Lib.hid ht7
                    have PA7 := Lib.hid (PA5.out.kept hk HNP.out.1)
                    have PB7 := Lib.hid (PB5.out.kept hk HNP.out.2.1)
                    have HRL7 := Lib.hid (HRL6.out.kept K7.out fun b off e => (HFL.out b off e).1)
                    have HAC7 := Lib.hid (HAC6.out.kept K7.out HNAB.out)
                    clear ht7 hk K5 QA5 QB5 PA5 PB5 c0 c1 d0 d1 q1 HLY
                    go_wp2_with fail
                    with_reducible refine (HSF.out _ HT7.out HRL7.out).mono ?_
                    rintro e w8 ⟨rfl, hk⟩
                    have K8 : Hid (Keeps own wl w8) := Lib.hid (K7.out.trans' (hk.mono fun _ _ q => q.elim))
                    have HT8 := Lib.hid (HT7.out.keep hk)
                    have PA8 := Lib.hid (PA7.out.kept hk id)
                    have PB8 := Lib.hid (PB7.out.kept hk id)
                    have HRL8 := Lib.hid (HRL7.out.keep hk)
                    have HAC8 := Lib.hid (HAC7.out.kept hk id)
                    clear hk K7 HT7 PA7 PB7 HRL7 HAC7 HSF
                    have q1 := HAC8.out.cell (i := 1)
                    simp only [List.getElem?_toArray, List.getElem?_cons_zero, List.getElem?_cons_succ] at q1
                    cases r with
                    | false =>
                      clear HRL2
                      go_wp2_with fail
                      with_reducible refine (HLT.out _ HT8.out).mono ?_
                      rintro e w9 ⟨rfl, ht9, hk⟩
                      have HS9 := Lib.hid (HLA6.out.turned (K8.out.trans' hk) ht9)
                      have HR9 := Lib.hid (HRL8.out.kept hk fun b off e => (HFL.out b off e).1)
                      clear ht9 hk HLT HT8 q1
                      go_wp2_with fail
                      go_meet
                      exact Lib.hid ⟨_, _, HS9.out, HDF.out, HR9.out⟩
                    | true =>
                      clear HLT
                      obtain ⟨e0', e1', _, _, _⟩ := (HLA6.out.box.kept K8.out HLA6.out.nbx).cells
                      simp only [show ((8 : Nat) : Int) = 8 from rfl] at e0'
                      obtain ⟨y0, y1, _, _, _⟩ := PA8.out.cells
                      obtain ⟨z0, z1, _, _, _⟩ := PB8.out.cells
                      go_wp2_with fail
                      with_reducible refine (HRL2.out _ K8.out).mono ?_
                      rintro e w9 ⟨v9, rfl, hls9, hk9⟩
                      obtain ⟨va9, vc9, rfl⟩ := hls9.form
                      have hk89 : Keeps own wl w9 := K8.out.trans' (hk9.mono fun _ _ q => q.elim)
                      have HS2 := Lib.hid (HLA6.out.step hk89 (HT8.out.keep hk9) hls9 (Keeps.refl _ _) HG2.out HLN.out)
                      simp only [show ((8 : Nat) : Int) = 8 from rfl] at HS2
                      have HR8 := Lib.hid (HRL8.out.keep hk9)
                      obtain ⟨c0, c1, f0, f1, _⟩ := ((HLA6.out.box.kept hk89 HLA6.out.nbx)).cells
                      simp only [show ((8 : Nat) : Int) = 8 from rfl] at c0
                      have HR9 : Hid (∀ z1 z2, Rd ((w9.setCell ⟨bx, 0, none⟩ z1).setCell ⟨bx, 1, none⟩ z2) la (nats (List.range V))) := Lib.hid fun z1 z2 => HR8.out.kept (((Keeps.refl (fun k => k = bx) w9).setIn bx 0 _ rfl).setIn bx 1 _ rfl) fun b off e => (HFL.out b off e).2
                      clear hls9 hk9 hk89 e0' e1' y0 y1 z0 z1 q1 HT8 HRL2
                      go_wp2_with fail
                      go_meet
                      exact Lib.hid ⟨_, _, HS2.out, HD2.out (by first | rfl | trivial), HR9.out _ _⟩
            case rest =>
              obtain ⟨L3, v3, hla3, hd3, hr3⟩ := hcut.out
              have HSF : Hid (Calls Try.prog 8 #[tptr p, .slice la V lc] wc (RetPost (.tuple #[.bool true, .nilIface]) wc)) := Lib.hid (by
                have hl3 := hla3.len
                have := sflat_all hla3.tu hla3.good la lc (by rw [hl3]; exact hr3) (by rw [hl3]; omega)
                rw [hl3, decide_eq_true hd3] at this
                exact this)
              have HNX : Hid (∀ W, Keeps (fun _ => False) wc W → ∃ L v, LawAt w0 own p 8 8 B V bx L v W ∧ dfc L 8 = 0 ∧ Rd W la (nats (List.range V))) := Lib.hid fun W hk => ⟨_, _, hla3.keep hk, hd3, hr3.keep hk⟩
              clear hcut hla3 hd3 hr3 HLA6 HRL6 HAC6 HBS
              unfold tptr RetPost at HSF
              go_wp2_with fail
              with_reducible refine HSF.out.mono ?_
              rintro e w9 ⟨rfl, hk⟩
              have HN9 := Lib.hid (HNX.out _ hk)
              clear hk HSF HNX
              go_wp2_with fail
              exact ⟨⟨k + 1, by omega, by omega, by first | rfl | trivial, HN9⟩, by simp [intOf]; omega⟩
          · have hdd : decide (ye < 0) = true ∨ (decide (ye < 0) = false ∧ decide (7 < ye) = true) := by
              by_cases q : ye < 0
              · exact Or.inl (decide_eq_true q)
              · exact Or.inr ⟨decide_eq_false q, decide_eq_true (by omega)⟩
            have HN9 : Hid (∃ L v, LawAt w0 own p 8 8 B V bx L v wc ∧ dfc L 8 = 0 ∧ Rd wc la (nats (List.range V))) := Lib.hid ⟨_, _, HLA.out, HDF.out, HRL.out⟩
            clear HAC HLA HRL he
            rcases hdd with d1 | ⟨d1, d2⟩
            all_goals
              go_wp2_with fail
              exact ⟨⟨k + 1, by omega, by omega, by first | rfl | trivial, HN9⟩, by simp [intOf]; omega⟩
      · rcases (show ¬ k ≤ ls.length ∨ k ≤ ls.length ∧ ¬ k < 40 by omega) with hja | ⟨hja, hjb⟩
        all_goals
          obtain ⟨L, v, hla, _, _⟩ := HS.out
          have HK := Lib.hid (HK0.out.trans' hla.kp)
          clear hla HS
          go_wp2_with fail
          with_reducible refine (HSU.out _).mono ?_
          rintro e w8 ⟨rfl, hk⟩
          have HF := Lib.hid (HK.out.trans' hk)
          clear hk
          go_wp2_with fail
          go_ret
          exact ⟨rfl, HF.out⟩
theorem sphereKeeps_enter (W : World) (n : Int) (_ : (Lit.int .i64 n).wf = true) (a : Option Addr) (c : Nat) (ls : List Act10) (hr : Rd W a (ls.flatMap actCells)) (hl : ls.length ≤ 9223372036854775807) (x : Act10) :
    Calls Try.prog 4 #[.int .i64 n, .slice a ls.length c, actVal x] W (TruePost W) := sphereKeeps_walk n a c ls x W hr hl
end Go.Proofs.Ytdplphhlclhmfaa
