/- Chapter 11's laws: both turns, made by acts. -/
import Derived.Test.YtjmkejkhpdhhbaaDoorFlE
import Derived.Test.YtjmkejkhpdhhbaaDoorLwI
namespace Go.Proofs.YtjmkejkhpdhhbaaDoor
open Go Go.RowKit
set_option linter.unusedVariables false
set_option linter.unusedSimpArgs false
set_option maxRecDepth 100000

/-- Both turns tell the same lists. -/
structure BothAt (w : World) (own : Nat → Prop) (p E B : Nat) (L : List (List Nat)) (v : Value) (wr : World) : Prop where
  good : Good E L
  tu : Tu wr own p E L
  ls : LsRow wr B v L
  kp : Keeps (fun _ => False) w wr
  low : ∀ k, own k → w.heap.size ≤ k ∧ k < B
  bB : w.heap.size ≤ B
theorem BothAt.keep {w wr w1 : World} {own : Nat → Prop} {p E B : Nat} {L : List (List Nat)} {v : Value} (h : BothAt w own p E B L v wr) (hk : Keeps (fun _ => False) wr w1) : BothAt w own p E B L v w1 :=
  ⟨h.good, h.tu.keep hk, h.ls.keep hk, h.kp.trans' hk, h.low, h.bB⟩
def MadePost (w : World) (e : Ending) (w' : World) : Prop := ∃ L p own B a c, e = .returned (.tuple #[tptr p, rval 8 (.slice a L.length c), .bool true]) ∧ 1 ≤ L.length ∧ L.length ≤ 6 ∧ BothAt w own p 8 B L (.slice a L.length c) w'
theorem made_end {w w0 wc w1 : World} {own : Nat → Prop} {p B V bx rb n c : Nat} {L : List (List Nat)} {a : Option Addr} {cs : Array Value} (h : LawAt w0 own p 8 8 B V bx L (.slice a n c) wc) (hk0 : Keeps (fun _ => False) w w0) (hrb : w.heap.size ≤ rb) (hr0 : rb < w0.heap.size) (hb : Blk wc rb cs 32) (hcs : cs.size = 2) (hk : Keeps (fun _ => False) wc w1) :
    Hid (Blk ((w1.setCell ⟨rb, 0, none⟩ (.int .i64 8)).setCell ⟨rb, 1, none⟩ (.slice a n c)) rb #[.int .i64 8, .slice a n c] 32 ∧ BothAt w own p 8 B L (.slice a n c) ((w1.setCell ⟨rb, 0, none⟩ (.int .i64 8)).setCell ⟨rb, 1, none⟩ (.slice a n c))) := by
  have hkb : Keeps (fun k => k = rb) w1 ((w1.setCell ⟨rb, 0, none⟩ (.int .i64 8)).setCell ⟨rb, 1, none⟩ (.slice a n c)) := ((Keeps.refl (fun k => k = rb) w1).setIn rb 0 _ rfl).setIn rb 1 _ rfl
  have hb1 := hb.kept hk id
  have hn : ¬ own rb := fun q => by have := (h.low rb q).1; omega
  refine Lib.hid ⟨?_, h.good, (h.tu.keep hk).kept hkb fun k q e => hn (e ▸ q), (h.ls.keep hk).setOther hb1 (by decide) (by decide) hkb, ?_, fun k q => ⟨?_, (h.low k q).2⟩, Nat.le_trans hk0.size h.bB⟩
  · have h1 := (hb1.set 0 (.int .i64 8)).set 1 (.slice a n c)
    match cs, hcs with
    | ⟨[x, y]⟩, _ => simpa using h1
  · exact (((hk0.trans' h.kp).trans' hk).setCell _ _ fun q => absurd q (Nat.not_lt.2 hrb)).setCell _ _ fun q => absurd q (Nat.not_lt.2 hrb)
  · exact Nat.le_trans hk0.size (h.low k q).1
set_option maxHeartbeats 4000000 in
theorem made11 (n : Int) (a : Option Addr) (c : Nat) (ls : List Act10) (w : World) (hE : ErrT w) (hz : Rd w a (actsV ls)) (hzl : ls.length ≤ 9223372036854775807) :
    Calls Tryd.prog 38 #[.int .i64 n, .slice a ls.length c] w (MadePost w) := by
  obtain ⟨hk1, hk2⟩ := kof_le n 6 (by decide)
  have hk := show wrap64 (1 + wrap64 ((IntKind.u64.wrap n).tmod 6)) = (kof n 6 : Int) from kof_val n 6 (by decide) (by decide)
  generalize kof n 6 = V at *
  generalize hW : w.alloc (.cells #[.int .i64 0, .slice none 0 0] 32) = w0
  have hK0 : Keeps (fun _ => False) w w0 := by rw [← hW]; exact (Keeps.refl _ _).alloc _
  have HBR : Hid (Blk w0 w.heap.size #[.int .i64 0, .slice none 0 0] 32) := by rw [← hW]; exact Blk.new w _ _
  have HE0 := Lib.hid (hE.keep hK0)
  have HZ0 := Lib.hid (hz.keep hK0)
  have HK0 := Lib.hid hK0
  clear hE hz hK0
  have HTN := Lib.hid (tnew V 8 w0 hk1 (by omega) (by decide) (by decide))
  have HRN := Lib.hid (fun W => rnew V 8 W hk1 (by omega))
  unfold NewPost tptr at HTN
  unfold RPost rval at HRN
  unfold MadePost tptr rval
  go_enter Tryd.func38, Tryd.ntmps38
  go_upto_region 1 with fail
  clear hW
  go_upto_region 2 with fail
  rw [hk]
  go_wp2_with fail
  refine HTN.out.mono ?_
  rintro e w1 ⟨p, own, rfl, htu, hfr, hk1'⟩
  have HTU := Lib.hid htu
  have HFR := Lib.hid hfr
  have HK1 := Lib.hid hk1'
  clear htu hfr hk1' hk
  go_wp2_with fail
  refine (HRN.out w1).mono ?_
  rintro e w2 ⟨v, rfl, hls, hk2'⟩
  obtain ⟨va, vc, rfl⟩ := hls.form
  have HLA := Lib.hid (LawAt.start (w0 := w0) (E := 8) HTU.out HFR.out HK1.out hls hk2')
  clear hls hk2' HTU HFR HK1 HTN HRN
  simp only [List.length_replicate] at HLA
  go_upto_region 5 with fail
  have HLA0 : Hid (∃ L v, LawAt w0 own p 8 8 w1.heap.size V w2.heap.size L v (w2.alloc (.cells #[.int .i64 8, .slice va V vc] 32))) := ⟨_, _, HLA.out⟩
  clear HLA
  generalize w2.alloc _ = w3 at *
  generalize w2.heap.size = bx at *
  generalize w1.heap.size = B at *
  go_upto_block 0 with fail
  go_cut [11] (fun o wc => o = .bool true ∧ Hid (∃ L v, LawAt w0 own p 8 8 B V bx L v wc))
  case first =>
    as_aux_lemma =>
    go_wp2_with fail
    go_loopw [11, 12] (fun o i wr => ∃ (j : Nat), j ≤ ls.length ∧ j ≤ 30 ∧ o = .bool true ∧ i = .int .i64 (j : Int) ∧ Hid (∃ L v, LawAt w0 own p 8 8 B V bx L v wr)) (fun _ i _ => ls.length - (intOf i).toNat)
    case atStart => exact ⟨0, Nat.zero_le _, Nat.zero_le _, rfl, rfl, HLA0⟩
    case round =>
      obtain ⟨j, hj, hj30, rfl, rfl, HS⟩ := hrel
      clear HLA0
      by_cases hlt : j < ls.length ∧ j < 30
      · obtain ⟨L, v, hla⟩ := HS.out
        have HLA := Lib.hid hla
        clear HS
        have h0L : 1 ≤ L.length := by rw [hla.len]; exact hk1
        obtain ⟨va, vc, rfl⟩ := hla.ls.form
        rw [hla.len] at hla HLA
        obtain ⟨hlt, hlt2⟩ := hlt
        obtain ⟨ab, ao, rfl, hab, q0, q1, q2, q3, q4, q5⟩ := actsAt (HZ0.out.keep hla.kp) j hlt
        have HDO := Lib.hid (fun W (hk : Keeps (fun _ => False) wr W) => do11 (hla.tu.keep hk) (hla.ls.keep hk) hla.good ((HE0.out.keep hla.kp).keep hk) (fun k q => (hla.low k q).2) (hla.nold HE0.out.lt) ls[j] (Or.inl rfl))
        have hab0 : ab < w0.heap.size := (actsAt HZ0.out j hlt).elim fun b h => by
          obtain ⟨off, he, hb, _⟩ := h
          cases he; exact hb
        have hnab := hla.nold hab0
        have HNB := Lib.hid hla.nbx
        have HG := Lib.hid (actL_good hla.good ls[j])
        have HLN : Hid ((actL 8 L ls[j]).length = V) := (actL_length 8 L ls[j]).trans hla.len
        have hK : Keeps (fun _ => False) wr wr.drew := (Keeps.refl _ _).drew
        obtain ⟨b0, b1, _, _, _⟩ := (hla.keep hK).cells
        unfold actVal rval tptr DoPost at HDO
        unfold rval at HDO
        generalize ls[j].kind = z0 at *
        generalize ls[j].e = z1 at *
        generalize ls[j].a.1 = z2 at *
        generalize ls[j].a.2 = z3 at *
        generalize ls[j].b.1 = z4 at *
        generalize ls[j].b.2 = z5 at *
        generalize actL 8 L ls[j] = L5 at *
        have h8 : ((8 : Nat) : Int) = 8 := rfl
        clear hla
        simp only [h8] at HDO b0
        go_upto_region 8 with fail
        obtain ⟨p0, p1, p2, p3, p4, p5⟩ := six_keep hK q0 q1 q2 q3 q4 q5
        go_region_with (first
            | (go_at_call 67; with_reducible refine (HDO.out _ hK).mono ?_; rintro e5 w5 ⟨v5, rfl, ht5, hls5, hk5'⟩; obtain ⟨va5, vc5, rfl⟩ := hls5.form; have hk5 : Keeps own wr w5 := (hK.mono (fp' := own) fun _ _ q => q.elim).trans' hk5'; obtain ⟨x0, x1, xf0, xf1, xl⟩ := (HLA.out.box.kept hk5 HNB.out).cells)
            | fail)
        all_goals
          have HS2 := Lib.hid (HLA.out.step hk5 ht5 hls5 (Keeps.refl _ _) HG.out HLN.out)
          simp only [h8] at HS2
          clear x0 x1 xf0 xf1 xl b0 b1 q0 q1 q2 q3 q4 q5 p0 p1 p2 p3 p4 p5 hk5 hk5' ht5 hls5
          generalize (World.setCell _ _ _).setCell _ (.slice va5 _ _) = we at *
          have HS3 : Hid (∃ L v, LawAt w0 own p 8 8 B V bx L v we) := ⟨_, _, HS2.out⟩
          clear HS2
          go_wp2_with fail
          refine ⟨⟨j + 1, by omega, by omega, rfl, by simp, HS3⟩, by simp [intOf]; omega⟩
      · rcases (show j < ls.length ∧ ¬ j < 30 ∨ ¬ j < ls.length by omega) with ⟨hja, hjb⟩ | hja
        all_goals
          go_wp2_with fail
          go_meet
          exact ⟨rfl, HS⟩
  case rest =>
    obtain ⟨rfl, HS⟩ := hcut
    obtain ⟨L, v, hla⟩ := HS.out
    have h0L : 1 ≤ L.length := by rw [hla.len]; exact hk1
    obtain ⟨va, vc, rfl⟩ := hla.ls.form
    rw [hla.len] at hla
    have hlen := hla.len
    have HLA := Lib.hid hla
    obtain ⟨b0, b1, _, _, _⟩ := hla.cells
    have hbr := HBR.out.kept hla.kp id
    obtain ⟨r0, r1, rf0, rf1, rl⟩ := hbr.cells
    have HBC := Lib.hid hbr
    have hr0 := HBR.out.lt
    have h8 : ((8 : Nat) : Int) = 8 := rfl
    simp only [h8] at b0
    have HEND := Lib.hid (fun W (hk : Keeps (fun _ => False) wc W) => (made_end HLA.out HK0.out (Nat.le_refl _) hr0 HBC.out rfl hk).out)
    clear hla HS hbr HLA0
    go_upto_region 9 with fail
    go_region
    have HF0 := HEND.out wc (Keeps.refl _ _)
    have HF : Hid (_ ∧ _) := Lib.hid ⟨HF0.1.drew, HF0.2.keep (Keeps.refl _ _).drew⟩
    clear HF0 b0 b1 r0 r1 rf0 rf1 HEND
    go_wp2_with fail
    generalize ((World.setCell _ _ _).setCell _ (.slice va _ _)).drew = WW at *
    have k0 := HF.out.1.cell (i := 0)
    have k1 := HF.out.1.cell (i := 1)
    refine bodyPost_ret (v := .tuple #[.pointer (some ⟨p, 0, none⟩), .agg #[.int .i64 8, .slice va V vc], .bool true]) (by simp at k0 k1; simp [results, Tryd.results38, go_sem, k0, k1]) rfl ?_
    have h2 := HF.out.2
    subst hlen
    exact ⟨L, p, own, B, va, vc, rfl, hk1, hk2, h2⟩
end Go.Proofs.YtjmkejkhpdhhbaaDoor
