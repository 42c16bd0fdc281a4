/- Chapter 15's laws: KinRoads. -/
import Derived.Test.YtdplphhlclhmfaaDoorKnE
import Derived.Test.YtdplphhlclhmfaaDoorKiO
namespace Go.Proofs.YtdplphhlclhmfaaDoor
open Go Go.RowKit
set_option linter.unusedVariables false
set_option linter.unusedSimpArgs false
set_option maxRecDepth 100000

/-- A road, or none. -/
structure RoadN (L : List (List Nat)) (b a : Nat) (ra : Option Addr) (rn : Nat) (ev : Value) (eb : Bool) (f : List Int) (R : List Nat) (w : World) : Prop where
  fo : FarOk L b f
  eq : eb = true ∧ 0 ≤ f.getD a 0 ∧ R = roadL L f (f.getD a 0).toNat a ∧ ev = .nilIface ∨ eb = false ∧ f.getD a 0 < 0 ∧ R = [] ∧ ev = .iface 87 (.int .i64 21)
  ln : rn = R.length
  rd : Rd w ra (nats R)
theorem RoadN.keep {L : List (List Nat)} {b a rn : Nat} {ra : Option Addr} {ev : Value} {eb : Bool} {f : List Int} {R : List Nat} {w w' : World} (h : RoadN L b a ra rn ev eb f R w) (hk : Keeps (fun _ => False) w w') : RoadN L b a ra rn ev eb f R w' := ⟨h.fo, h.eq, h.ln, h.rd.keep hk⟩
theorem kroad_n {w : World} {own : Nat → Prop} {p E : Nat} {L : List (List Nat)} (h : Tu w own p E L) (hg : Good E L) {a b : Nat} (ha : a < L.length) (hb : b < L.length) :
    Calls Tryd.prog 36 #[tptr p, .int .i64 (a : Int), .int .i64 (b : Int)] w (fun e w' => ∃ ra rn rc ev eb f R, e = .returned (.tuple #[.slice ra rn rc, ev]) ∧ Hid (RoadN L b a ra rn ev eb f R w') ∧ Keeps (fun _ => False) w w') := by
  refine (kroad h hg ha hb).mono ?_
  rintro e w' ⟨f, hf, ⟨hn, rfl, hk⟩ | ⟨hp, x, rfl, ho, hk⟩⟩
  · exact ⟨none, 0, 0, _, false, f, [], rfl, Lib.hid ⟨hf, Or.inr ⟨rfl, hn, rfl, rfl⟩, rfl, Or.inl rfl⟩, hk⟩
  · obtain ⟨ra, rc, rfl, hrd, _⟩ := Rd.of_own ho
    exact ⟨ra, _, rc, _, true, f, _, rfl, Lib.hid ⟨hf, Or.inl ⟨rfl, hp, rfl, rfl⟩, rfl, hrd⟩, hk⟩
section
variable {L : List (List Nat)} {E b a x j : Nat} {ra : Option Addr} {rn : Nat} {ev : Value} {eb : Bool} {f : List Int} {R : List Nat} {w : World}
/-- Along the road. -/
def Along (L : List (List Nat)) (f : List Int) (R : List Nat) (eb : Bool) (j x : Nat) : Prop := x < L.length ∧ (eb = true → ∃ k : Nat, f.getD x 0 = (k : Int) ∧ R.drop j = roadL L f k x)
theorem RoadN.start (h : RoadN L b a ra rn ev eb f R w) (ha : a < L.length) : Along L f R eb 0 a := by
  refine ⟨ha, fun e => ?_⟩
  rcases h.eq with ⟨_, h1, h2, _⟩ | ⟨h1, _⟩
  · obtain ⟨k, hk⟩ := Int.eq_ofNat_of_zero_le h1
    exact ⟨k, hk, by rw [h2, hk]; rfl⟩
  · rw [h1] at e; cases e
theorem RoadN.next (h : RoadN L b a ra rn ev eb f R w) (hg : Good E L) (hl : Along L f R eb j x) (hj : j < R.length) : Stands L (R.getD j 0) ∧ vtx L (R.getD j 0) = x ∧ Along L f R eb (j + 1) (De L (R.getD j 0)) := by
  have he : eb = true := by
    rcases h.eq with ⟨h1, _⟩ | ⟨_, _, h1, _⟩
    · exact h1
    · rw [h1] at hj; simp at hj
  obtain ⟨k, hk, hd⟩ := hl.2 he
  have hd0 : R.drop j = R.getD j 0 :: R.drop (j + 1) := by
    rw [List.drop_eq_getElem_cons hj, List.getD_eq_getElem?_getD, List.getElem?_eq_getElem hj]; rfl
  rw [hd0] at hd
  cases k with
  | zero => cases hd
  | succ k =>
    obtain ⟨h1, h2, h3, h4, h5, _⟩ := h.fo.stepD hg hl.1 hk
    have e1 : R.getD j 0 = stepD L f x := (List.cons.inj hd).1
    have e2 : R.drop (j + 1) = roadL L f k (De L (stepD L f x)) := (List.cons.inj hd).2
    rw [e1]
    exact ⟨h2, h3, h5, fun _ => ⟨k, h4, e2⟩⟩
theorem RoadN.done (h : RoadN L b a ra rn ev eb f R w) (hb : b < L.length) (hl : Along L f R eb R.length x) (he : eb = true) : x = b := by
  obtain ⟨k, hk, hd⟩ := hl.2 he
  rw [List.drop_length] at hd
  cases k with
  | zero => exact (h.fo.zero_iff hb hl.1).1 hk
  | succ k => cases hd
theorem RoadN.iff (h : RoadN L b a ra rn ev eb f R w) (hg : Good E L) (ha : a < L.length) (hb : b < L.length) : eb = decide ((grp L E).getD a 0 = (grp L E).getD b 0) := by
  have := h.fo.is_iff hg hb ha
  rcases h.eq with ⟨h1, h2, _⟩ | ⟨h1, h2, _⟩
  · rw [h1, decide_eq_true (this.1 h2)]
  · rw [h1, decide_eq_false fun q => by have := this.2 q; omega]
theorem RoadN.way (h : RoadN L b a ra rn ev true f R w) (ha : a < L.length) : Way L b rn a ∧ ∀ n, Way L b n a → rn ≤ n := by
  rcases h.eq with ⟨_, h1, h2, _⟩ | ⟨h1, _⟩
  · have hl : rn = (f.getD a 0).toNat := by rw [h.ln, h2, roadL_length]
    rcases h.fo.way a ha with ⟨e, _⟩ | ⟨n, e, hw, hm⟩
    · omega
    · have : rn = n := by omega
      rw [this]
      exact ⟨hw, hm⟩
  · cases h1
theorem RoadN.lt (h : RoadN L b a ra rn ev eb f R w) (hg : Good E L) (ha : a < L.length) : rn < L.length := by
  have h0 := (h.fo.lt hg ha).2
  rw [h.ln]
  rcases h.eq with ⟨_, h1, h2, _⟩ | ⟨_, _, h2, _⟩
  · rw [h2, roadL_length]; omega
  · rw [h2]; show 0 < _; omega
/-- No road is longer than one by a third vertex. -/
theorem road_three {c rn2 rn3 : Nat} {ra2 ra3 : Option Addr} {ev2 ev3 : Value} {f2 f3 : List Int} {R2 R3 : List Nat} {w2 w3 : World} (h : RoadN L b a ra rn ev true f R w) (h2 : RoadN L c a ra2 rn2 ev2 true f2 R2 w2) (h3 : RoadN L b c ra3 rn3 ev3 true f3 R3 w3) (ha : a < L.length) (hc : c < L.length) : rn ≤ rn2 + rn3 :=
  (h.way ha).2 _ ((h2.way ha).1.trans (h3.way hc).1)
end
set_option maxHeartbeats 8000000 in
theorem kinRoads_walk (n : Int) (a : Option Addr) (c : Nat) (ls : List Act10) (u1 u2 u3 : Int) (w : World) (hE : ErrT w) (hz : Rd w a (actsV ls)) (hzl : ls.length ≤ 9223372036854775807) :
    Calls Tryd.prog 9 #[.int .i64 n, .slice a ls.length c, .agg #[.int .i64 u1, .int .i64 u2, .int .i64 u3]] w (TruePost w) := by
  generalize hW : w.alloc (.cells #[.int .i64 u1, .int .i64 u2, .int .i64 u3] 74) = wa
  have hKa : Keeps (fun _ => False) w wa := by rw [← hW]; exact (Keeps.refl _ _).alloc _
  have HPB : Hid (Blk wa w.heap.size #[.int .i64 u1, .int .i64 u2, .int .i64 u3] 74) := by rw [← hW]; exact Lib.hid (Blk.new _ _ _)
  have HM := Lib.hid (made15 n a c ls wa (hE.kept hKa id) (hz.keep hKa) hzl)
  have HKA := Lib.hid hKa
  clear hE hz hKa
  have HSU := Lib.hid (fun W => sure15 W)
  unfold TruePost at HSU
  unfold MadePost tptr rval at HM
  unfold TruePost
  go_enter Tryd.func9, Tryd.ntmps9
  go_upto_region 1 with fail
  clear hW
  go_wp2_with fail
  with_reducible refine HM.out.mono ?_
  rintro e' w1 ⟨L, p, own, B, va, vc, rfl, hl1, hl6, hb⟩
  have hbx : BothAt wa own p 8 B L (.slice va L.length vc) (w1.alloc (.cells #[.int .i64 8, .slice va L.length vc] 27)) := hb.keep ((Keeps.refl _ _).alloc _)
  have HB := Lib.hid hbx
  have HX : Hid (Blk (w1.alloc (.cells #[.int .i64 8, .slice va L.length vc] 27)) w1.heap.size #[.int .i64 8, .slice va L.length vc] 27) := Lib.hid (Blk.new _ _ _)
  clear hb hbx HM
  go_upto_region 2 with fail
  generalize w1.alloc _ = w2 at *
  generalize w1.heap.size = bx at *
  have hgl : (grp L 8).length = L.length := (grp_ok HB.out.good).len
  have h1 := (HPB.out.kept HB.out.kp id).cell 0
  have h2 := (HPB.out.kept HB.out.kp id).cell 1
  have h3 := (HPB.out.kept HB.out.kp id).cell 2
  have h4 := HX.out.cells.2.1
  simp only [List.getElem?_toArray, List.getElem?_cons_zero, List.getElem?_cons_succ] at h1 h2 h3
  have hwl : IntKind.u64.wrap (L.length : Int) = (L.length : Int) := by rw [IntKind.wrap_u64]; omega
  have hL0 : IntKind.u64.wrap (L.length : Int) ≠ 0 := by rw [hwl]; omega
  have hm1 : IntKind.i64.wrap ((IntKind.u64.wrap u1).tmod (IntKind.u64.wrap (L.length : Int))) = ((unsg u1 % L.length : Nat) : Int) := by rw [hwl]; exact mod_valK u1 L.length hl1 (by omega)
  have hm2 : IntKind.i64.wrap ((IntKind.u64.wrap u2).tmod (IntKind.u64.wrap (L.length : Int))) = ((unsg u2 % L.length : Nat) : Int) := by rw [hwl]; exact mod_valK u2 L.length hl1 (by omega)
  have hm3 : IntKind.i64.wrap ((IntKind.u64.wrap u3).tmod (IntKind.u64.wrap (L.length : Int))) = ((unsg u3 % L.length : Nat) : Int) := by rw [hwl]; exact mod_valK u3 L.length hl1 (by omega)
  clear hwl
  have ha1 := Nat.mod_lt (unsg u1) hl1
  have ha2 := Nat.mod_lt (unsg u2) hl1
  have ha3 := Nat.mod_lt (unsg u3) hl1
  go_upto_region 5 with fail
  generalize unsg u1 % L.length = va1 at *
  generalize unsg u2 % L.length = va2 at *
  generalize unsg u3 % L.length = va3 at *
  go_cut [11, 12, 13] (fun x y z wd => x = .int .i64 (va1 : Int) ∧ y = .int .i64 (va2 : Int) ∧ z = .int .i64 (va3 : Int) ∧ Hid (Keeps (fun _ => False) w2 wd))
  case first =>
    clear HB HX HPB HSU HKA hgl ha1 ha2 ha3 hl6
    go_region
    all_goals
      go_wp2_with fail
      go_meet
      exact ⟨by first | rfl | rw [hm1], by first | rfl | rw [hm2], by first | rfl | rw [hm3], Lib.hid (Keeps.refl _ _).drew⟩
  case rest =>
    obtain ⟨rfl, rfl, rfl, HKC⟩ := hcut
    generalize wc = wb at *
    have HTU := Lib.hid fun W (hk : Keeps (fun _ => False) wb W) => HB.out.tu.keep (HKC.out.trans' hk)
    have HGD := Lib.hid HB.out.good
    have HKW := Lib.hid ((HKA.out.trans' HB.out.kp).trans' HKC.out)
    have HGK : Hid (Calls Tryd.prog 34 #[.pointer (some ⟨p, 0, none⟩)] wb (OwnPost (grp L 8) wb)) := Lib.hid (kgroups (HTU.out _ (Keeps.refl _ _)) HGD.out)
    have HRO : Hid (∀ W, Keeps (fun _ => False) wb W → ∀ a b : Nat, a < L.length → b < L.length → Calls Tryd.prog 36 #[.pointer (some ⟨p, 0, none⟩), .int .i64 (a : Int), .int .i64 (b : Int)] W (fun e w' => ∃ ra rn rc ev eb f R, e = .returned (.tuple #[.slice ra rn rc, ev]) ∧ Hid (RoadN L b a ra rn ev eb f R w') ∧ Keeps (fun _ => False) W w')) := Lib.hid fun W hk a b ha hb => kroad_n (HTU.out W hk) HGD.out ha hb
    clear hm1 hm2 hm3 h1 h2 h3 h4 hL0 HB HX HPB HKA HKC
    unfold OwnPost at HGK
    go_upto_region 8 with (first
      | (go_at_call 34; with_reducible refine HGK.out.mono ?_; rintro e3 w3 ⟨v3, rfl, ho3, hk3⟩; obtain ⟨a3, c3, rfl, hr3, _⟩ := Rd.of_own ho3; have HR3 := Lib.hid hr3; have HK3 := Lib.hid hk3; clear ho3 hr3 hk3 HGK)
      | (go_at_call 36; with_reducible refine (HRO.out _ HK3.out va1 va2 ha1 ha2).mono ?_; rintro e4 w4 ⟨ra, rn, rc, ev, eb, f, R, rfl, HR4, hk4⟩; have HG4 := Lib.hid (HR3.out.keep hk4); have HK4 := Lib.hid (HK3.out.trans' hk4); clear hk4 HR3))
    have hrn := HR4.out.lt HGD.out ha1
    obtain rfl : rn = R.length := HR4.out.ln
    have HEQ := Lib.hid (HR4.out.iff HGD.out ha1 ha2)
    have HEV : Hid (eb = true ∧ ev = .nilIface ∨ eb = false ∧ ev = .iface 87 (.int .i64 21)) := Lib.hid (by
      rcases HR4.out.eq with ⟨q1, _, _, q2⟩ | ⟨q1, _, _, q2⟩
      · exact Or.inl ⟨q1, q2⟩
      · exact Or.inr ⟨q1, q2⟩)
    obtain ⟨b5, o5, e5, g1⟩ := HG4.out.nat (i := va1) (by omega)
    subst e5
    obtain ⟨b6, o6, e6, g2⟩ := HG4.out.nat (i := va2) (by omega)
    cases e6
    have hgb : ((((grp L 8).getD va1 0 : Nat) : Int) == (((grp L 8).getD va2 0 : Nat) : Int)) = eb := by rw [kbeq, HEQ.out]
    have ha1I : (va1 : Int) < (L.length : Int) := Int.ofNat_lt.2 ha1
    have ha2I : (va2 : Int) < (L.length : Int) := Int.ofNat_lt.2 ha2
    have HGL := Lib.hid hgl
    go_cut [86] (fun t wd => t = .bool false ∧ Hid (Keeps (fun _ => False) w4 wd))
    case first =>
      have hK : Keeps (fun _ => False) w4 w4.drew := (Keeps.refl _ _).drew
      have HD := Lib.hid hK
      clear HRO HSU HR4 hrn HEQ HTU HGD HKW HG4 hK ha1 ha2 ha3
      generalize (grp L 8).getD va1 0 = y1 at *
      generalize (grp L 8).getD va2 0 = y2 at *
      rcases HEV.out with ⟨rfl, rfl⟩ | ⟨rfl, rfl⟩
      all_goals
        go_region
        all_goals
          go_wp2_with fail
          go_meet
          exact ⟨rfl, HD⟩
    case rest =>
      obtain ⟨rfl, HK5⟩ := hcut
      have HKR := Lib.hid (HK4.out.trans' HK5.out)
      have HRN := Lib.hid (HR4.out.keep HK5.out)
      have HOR : Hid (∀ W, Keeps (fun _ => False) wb W → ∀ d : Nat, Stands L d → Calls Tryd.prog 38 #[.pointer (some ⟨p, 0, none⟩), .int .i64 (d : Int)] W (RetPost (.tuple #[.int .i64 ((vtx L d : Nat) : Int), .nilIface]) W)) := Lib.hid fun W hk d hs => by
        have := torigin (HTU.out W hk) (d : Int)
        rwa [dErr_stands HGD.out.toWF hs, if_pos rfl, Int.toNat_natCast, errVal_zero] at this
      have HA0 : Hid (Along L f R eb 0 va1) := Lib.hid (HR4.out.start ha1)
      have HEB : Hid (∀ x, Along L f R eb R.length x → eb = true → x = va2) := Lib.hid fun x hl he => HR4.out.done ha2 hl he
      unfold RetPost at HOR
      clear HTU HR4 HG4 HK4 HK5 g1 g2 HEQ HGL hgb
      clear hgl
      generalize wc = wd at *
      go_upto_region 12 with fail
      go_loopw [17, 18] (fun at_ i wr => ∃ (j x : Nat), j ≤ R.length ∧ i = .int .i64 (j : Int) ∧ at_ = .int .i64 (x : Int) ∧ Hid (Along L f R eb j x ∧ Keeps (fun _ => False) wd wr)) (fun _ i _ => R.length - (intOf i).toNat)
      case atStart => exact ⟨0, va1, Nat.zero_le _, rfl, rfl, Lib.hid ⟨HA0.out, Keeps.refl _ _⟩⟩
      case round =>
        obtain ⟨j, x, hj, rfl, rfl, HL⟩ := hrel
        by_cases hjl : j < R.length
        · obtain ⟨b7, o7, e7, hcd⟩ := ((HRN.out.keep HL.out.2).rd).nat hjl
          subst e7
          obtain ⟨hds, hdx, hnx⟩ := HRN.out.next HGD.out HL.out.1 hjl
          have hjI : (j : Int) < (R.length : Int) := by omega
          generalize R.getD j 0 = d at *
          have hbd := HGD.out.toWF.bdS hds
          have hxo := xor_one d (by omega)
          have HKD := Lib.hid (HKR.out.trans' HL.out.2)
          have HO1 := Lib.hid (HOR.out _ HKD.out d hds)
          have HO2 := Lib.hid fun W (hk : Keeps (fun _ => False) wr W) => HOR.out W (HKD.out.trans' hk) (tw d) (HGD.out.twin _ hds)
          rw [hdx] at HO1
          have hyE : vtx L (tw d) = De L d := rfl
          rw [hyE] at HO2
          have HNX := Lib.hid (And.intro hnx HL.out.2)
          have hxx : ((x : Int) != (x : Int)) = false := bne_self_eq_false _
          clear hds hdx hnx hyE HL hbd
          generalize De L d = y at *
          go_wp2_with fail
          with_reducible refine HO1.out.mono ?_
          rintro e6 w6 ⟨rfl, hk6⟩
          have hcd6 := hk6.cellF hcd
          have HK6 := Lib.hid hk6
          clear hk6 HO1 hcd
          go_wp2_with fail
          with_reducible refine (HO2.out _ HK6.out).mono ?_
          rintro e7 w7 ⟨rfl, hk7⟩
          have HN : Hid (Along L f R eb (j + 1) y ∧ Keeps (fun _ => False) wd w7) := Lib.hid ⟨HNX.out.1, HNX.out.2.trans' (HK6.out.trans' hk7)⟩
          clear hk7 HO2 hcd6 HNX HK6
          go_wp2_with fail
          exact ⟨⟨j + 1, y, by omega, by simp, rfl, HN⟩, by simp [intOf]; omega⟩
        · obtain rfl : j = R.length := by omega
          have hjI : ¬ ((R.length : Int) < (R.length : Int)) := Int.lt_irrefl _
          have HXB : Hid (eb = true → x = va2) := Lib.hid (HEB.out x HL.out.1)
          have HKD := Lib.hid (HKR.out.trans' HL.out.2)
          have HRN2 := Lib.hid (HRN.out.keep HL.out.2)
          clear HOR HA0 HEB HRN HL HKR
          generalize wr = we at *
          go_upto_region 19 with fail
          go_cut [131] (fun t wd => t = .bool false ∧ wd = we)
          case first =>
            rcases HEV.out with ⟨rfl, rfl⟩ | ⟨rfl, rfl⟩
            · obtain rfl := HXB.out rfl
              have hxx : ((x : Int) != (x : Int)) = false := bne_self_eq_false _
              clear HRO HSU HXB HRN2
              go_wp2_with fail
              go_meet
              exact ⟨rfl, rfl⟩
            · clear HRO HSU HXB HRN2
              go_wp2_with fail
              go_meet
              exact ⟨rfl, rfl⟩
          case rest =>
            obtain ⟨rfl, rfl⟩ := hcut
            clear HXB
            go_upto_region 22 with (go_at_call 36; with_reducible refine (HRO.out _ HKD.out va1 va3 ha1 ha3).mono ?_; rintro e5 w5 ⟨ra5, rn5, rc5, ev5, eb5, f5, R5, rfl, HR5, hk5⟩; have HK5 := Lib.hid (HKD.out.trans' hk5); clear hk5)
            go_upto_region 23 with (go_at_call 36; with_reducible refine (HRO.out _ HK5.out va3 va2 ha3 ha2).mono ?_; rintro e6 w6 ⟨ra6, rn6, rc6, ev6, eb6, f6, R6, rfl, HR6, hk6⟩; have HK6 := Lib.hid (HK5.out.trans' hk6); clear hk6)
            have HF0 := Lib.hid (HKW.out.trans' HK6.out)
            have h5l := HR5.out.lt HGD.out ha1
            have h6l := HR6.out.lt HGD.out ha3
            have HE5 : Hid (eb5 = true ∧ ev5 = .nilIface ∨ eb5 = false ∧ ev5 = .iface 87 (.int .i64 21)) := Lib.hid (by
              rcases HR5.out.eq with ⟨q1, _, _, q2⟩ | ⟨q1, _, _, q2⟩
              · exact Or.inl ⟨q1, q2⟩
              · exact Or.inr ⟨q1, q2⟩)
            have HE6 : Hid (eb6 = true ∧ ev6 = .nilIface ∨ eb6 = false ∧ ev6 = .iface 87 (.int .i64 21)) := Lib.hid (by
              rcases HR6.out.eq with ⟨q1, _, _, q2⟩ | ⟨q1, _, _, q2⟩
              · exact Or.inl ⟨q1, q2⟩
              · exact Or.inr ⟨q1, q2⟩)
            have H3 : Hid (eb = true → eb5 = true → eb6 = true → R.length ≤ rn5 + rn6) := Lib.hid fun q1 q2 q3 => by
              subst q1 q2 q3
              exact road_three HRN2.out HR5.out HR6.out ha1 ha3
            have hwr : wrap64 ((rn5 : Int) + (rn6 : Int)) = (rn5 : Int) + (rn6 : Int) := by unfold wrap64; omega
            clear HRO HRN2 HR5 HR6 HK5 HKD HK6 hrn h5l h6l
            go_cut [165] (fun t wd => t = .bool false ∧ wd = w6)
            case first =>
              rcases HEV.out with ⟨rfl, rfl⟩ | ⟨rfl, rfl⟩
              · rcases HE5.out with ⟨rfl, rfl⟩ | ⟨rfl, rfl⟩
                · rcases HE6.out with ⟨rfl, rfl⟩ | ⟨rfl, rfl⟩
                  · have h3 := H3.out rfl rfl rfl
                    have hgt : decide (((rn5 : Int) + (rn6 : Int)) < (R.length : Int)) = false := decide_eq_false (by omega)
                    clear HSU H3 h3 HEV HE5 HE6
                    go_wp2_with fail
                    go_meet
                    exact ⟨rfl, rfl⟩
                  · clear HSU H3 HEV HE5 HE6
                    go_wp2_with fail
                    go_meet
                    exact ⟨rfl, rfl⟩
                · clear HSU H3 HEV HE5
                  go_wp2_with fail
                  go_meet
                  exact ⟨rfl, rfl⟩
              · clear HSU H3 HEV
                go_wp2_with fail
                go_meet
                exact ⟨rfl, rfl⟩
            case rest =>
              obtain ⟨rfl, rfl⟩ := hcut
              clear H3 HE5 HE6 HEV
              go_wp2_with (go_at_call 31; with_reducible refine (HSU.out _).mono ?_; rintro e8 w8 ⟨rfl, hk8⟩; have HF := Lib.hid (HF0.out.trans' hk8); clear hk8)
              go_ret
              exact ⟨rfl, HF.out⟩
theorem kinRoads_enter (W : World) (hE : ErrT W) (n : Int) (_ : (Lit.int .i64 n).wf = true) (a : Option Addr) (c : Nat) (ls : List Act10) (hr : Rd W a (ls.flatMap actCells)) (hl : ls.length ≤ 9223372036854775807) (u v x : Int) :
    Calls Tryd.prog 9 #[.int .i64 n, .slice a ls.length c, .agg #[.int .i64 u, .int .i64 v, .int .i64 x]] W (TruePost W) := kinRoads_walk n a c ls u v x W hE hr hl
end Go.Proofs.YtdplphhlclhmfaaDoor
