/- Contracts of functions that the laws reach: a call returns what the plain Lean function of the same name tells. Conditions: those of each theorem. Made by gen.py, a program of this session, over the print of the translation. -/
import Derived.Test.YtkepeflplmkcmaaPx0
import Derived.Test.YtkepeflplmkcmaaPx1
import Derived.Test.YtkepeflplmkcmaaPx6
import Derived.Shelf.Abstract
import Derived.Maps.OwnSet
import Derived.Maps.OwnOps
import Derived.Lib.SliceRun
namespace Go.Proofs.Ytkepeflplmkcmaa.Q
open Go.RowKit Go.Proofs.YtkepeflplmkcmaaW.PrintWords Go.Proofs.YtkepeflplmkcmaaW.PrintLast Go.Proofs.YtkepeflplmkcmaaW.PrintMore
attribute [local go_sem] max2_int min2_int max_two min_two max_three min_three max_four min_four   -- for this text's walks alone
set_option linter.unusedVariables false
set_option linter.unusedSimpArgs false

-- HAND impl_IsSpace: function 47
def impl_IsSpace.f (a0_0 : Int) (l0_1 : List Int) : Option (Bool) := some (isSpaceB a0_0 l0_1)
set_option maxHeartbeats 8000000 in
set_option maxRecDepth 100000 in
theorem impl_IsSpace.early (n : Int) (A : Option Addr) (c : Nat) (l : List Int) (w : World) (hr : Kd.C (Kd.int .i64) w A l.length l) (hn : (decide (1 ≤ n) && decide (n ≤ 7) && decide ((l.length : Int) ≤ 2 ^ n.toNat)) = false) :
  Calls Try.prog 47 #[.agg #[.int .i64 n, .slice A l.length c]] w fun e w' => e = .returned (.bool false) ∧ Below w.heap.size w w' := by
 have hu := Try.underlying28
 have HS := asd (isSize_ok n)
 have hm := Kd.C_max hr
 by_cases h1 : (decide (1 ≤ n) && decide (n ≤ 7)) = true
 ·
  rw [h1] at hn HS
  simp only [Bool.true_and, decide_eq_false_iff_not] at hn
  simp only [Bool.and_eq_true, decide_eq_true_eq] at h1
  obtain ⟨n0, n7⟩ := h1
  have hp := pow128 (n := n) (by omega) n7
  obtain ⟨j, hj⟩ : ∃ j, j = shl .i64 1 n := ⟨_, rfl⟩
  have hj' := shl_nat (i := n) (by omega) (by omega)
  obtain ⟨s1, s2, s3, s4, s5, s6, s7, s8⟩ := shl_ways hj.symm (by omega)
  have c1 : decide (j < (l.length : Int)) = true := decide_eq_true (by rw [hj, hj']; push_cast; omega)
  have c0 : (0 : Int) ≤ n := by omega
  clear hj hj' hn hp
  go_enter Try.func47, Try.ntmps47
  go_wp2_with ((with_reducible refine gate_dst (N := 1) rfl ?_); refine box_event ?hg (N := 1) ?hd (cs := #[.int .i64 n, .slice A l.length c]) (t := 28) ?hr ?_; (case hd => rfl); (case hg => rfl); (case hr => first | (go_simp; done) | (go_simp; rfl)); intro g ge W gb Wb; have HXg := asd (SpBox.mk_ ge gb Wb); have gz0 := HXg.out.c0; have gz1 := HXg.out.c1; clear ge gb Wb)
  go_quiet (first | (go_at_call 100; (with_reducible refine (impl_isSize.calls _ _ _ HS.out).mono ?_); rintro e w' ⟨rfl, ⟨nd, rfl⟩⟩; (try first | exact ⟨rfl, _, World.drewN_drewN _ _ _⟩ | exact ⟨rfl, _, Eq.trans (World.drewN_drewN _ _ _) (congrArg (World.drewN _) (Nat.add_assoc _ _ _))⟩)))
  go_wp2
  go_ret
  exact ⟨rfl, by repeat (first | exact HXg.out.bel | apply pw_below_drewN | apply below_drew1)⟩
 ·
  have h1' : (decide (1 ≤ n) && decide (n ≤ 7)) = false := by simpa using h1
  rw [h1'] at HS
  clear h1 h1' hn
  go_enter Try.func47, Try.ntmps47
  go_wp2_with ((with_reducible refine gate_dst (N := 1) rfl ?_); refine box_event ?hg (N := 1) ?hd (cs := #[.int .i64 n, .slice A l.length c]) (t := 28) ?hr ?_; (case hd => rfl); (case hg => rfl); (case hr => first | (go_simp; done) | (go_simp; rfl)); intro g ge W gb Wb; have HXg := asd (SpBox.mk_ ge gb Wb); have gz0 := HXg.out.c0; have gz1 := HXg.out.c1; clear ge gb Wb)
  go_quiet (first | (go_at_call 100; (with_reducible refine (impl_isSize.calls _ _ _ HS.out).mono ?_); rintro e w' ⟨rfl, ⟨nd, rfl⟩⟩; (try first | exact ⟨rfl, _, World.drewN_drewN _ _ _⟩ | exact ⟨rfl, _, Eq.trans (World.drewN_drewN _ _ _) (congrArg (World.drewN _) (Nat.add_assoc _ _ _))⟩)))
  go_wp2
  go_ret
  exact ⟨rfl, by repeat (first | exact HXg.out.bel | apply pw_below_drewN | apply below_drew1)⟩
/-- What the first loop has seen. -/
def risen (n : Int) (l : List Int) (k : Nat) : Bool := (List.range k).all fun (i : Nat) => okAt n l i
theorem risen_succ (n : Int) (l : List Int) (k : Nat) : risen n l (k + 1) = (risen n l k && okAt n l k) := by simp [risen, List.range_succ]
theorem risen_not {n : Int} {l : List Int} {i : Int} (h0 : 0 ≤ i) (h : i < l.length) (hb : okAt n l i = false) : risingB n l = false := by
 rw [Bool.eq_false_iff]
 intro hc
 simp only [risingB, List.all_eq_true, List.mem_range] at hc
 have := hc i.toNat (by omega)
 rw [show ((i.toNat : Nat) : Int) = i by omega, hb] at this
 cases this
set_option maxHeartbeats 8000000 in
set_option maxRecDepth 100000 in
theorem impl_IsSpace.main (n : Int) (A : Option Addr) (c : Nat) (l : List Int) (w : World) (hr : Kd.C (Kd.int .i64) w A l.length l) (hc : l.length ≤ c) (hn : (decide (1 ≤ n) && decide (n ≤ 7) && decide ((l.length : Int) ≤ 2 ^ n.toNat)) = true) :
  Calls Try.prog 47 #[.agg #[.int .i64 n, .slice A l.length c]] w fun e w' => e = .returned (.bool (isSpaceB n l)) ∧ Below w.heap.size w w' := by
 have hu := Try.underlying28
 have HS := asd (isSize_ok n)
 have hm := Kd.C_max hr
 have HR := asd hr
 have HC := asd hc
 have HE : Aside0 (isSpaceB n l = (risingB n l && (famOf l).getD 0 false && (famOf l).getD (2 ^ n.toNat - 1) false && unionsB (famOf l) l)) := ⟨by unfold isSpaceB; rw [hn]; simp⟩
 simp only [Bool.and_eq_true, decide_eq_true_eq] at hn
 obtain ⟨⟨n0, n7⟩, hlen⟩ := hn
 rw [show (decide (1 ≤ n) && decide (n ≤ 7)) = true by simp [n0, n7]] at HS
 have hp := pow128 (n := n) (by omega) n7
 obtain ⟨j, hj⟩ : ∃ j, j = shl .i64 1 n := ⟨_, rfl⟩
 have hj' := shl_nat (i := n) (by omega) (by omega)
 obtain ⟨s1, s2, s3, s4, s5, s6, s7, s8⟩ := shl_ways hj.symm (by omega)
 have c1 : decide (j < (l.length : Int)) = false := decide_eq_false (by rw [hj, hj']; push_cast; omega)
 have c0 : (0 : Int) ≤ n := by omega
 have HP := asd hp
 clear hj hj' hr hc hp hlen
 go_enter Try.func47, Try.ntmps47
 go_wp2_with ((with_reducible refine gate_dst (N := 1) rfl ?_); refine box_event ?hg (N := 1) ?hd (cs := #[.int .i64 n, .slice A l.length c]) (t := 28) ?hr ?_; (case hd => rfl); (case hg => rfl); (case hr => first | (go_simp; done) | (go_simp; rfl)); intro g ge W gb Wb; have HXg := asd (SpBox.mk_ ge gb Wb); have gz0 := HXg.out.c0; have gz1 := HXg.out.c1; clear ge gb Wb)
 go_quiet (first | (go_at_call 100; (with_reducible refine (impl_isSize.calls _ _ _ HS.out).mono ?_); rintro e w' ⟨rfl, ⟨nd, rfl⟩⟩; (try first | exact ⟨rfl, _, World.drewN_drewN _ _ _⟩ | exact ⟨rfl, _, Eq.trans (World.drewN_drewN _ _ _) (congrArg (World.drewN _) (Nat.add_assoc _ _ _))⟩)))
 go_wp2
 go_loopw [26] (fun v26 wr => ∃ i : Int, Aside0 (0 ≤ i ∧ i ≤ l.length) ∧ v26 = .int .i64 i ∧ Aside0 (risen n l i.toNat = true) ∧ Drawn0 W wr) (fun v26 _ => l.length - (intOf v26).toNat)
 case atStart => exact ⟨0, ⟨by omega⟩, rfl, ⟨rfl⟩, by repeat (first | exact Drawn0.refl _ | apply Drawn0.step)⟩
 case round =>
  obtain ⟨i, hi, rfl, hz, ⟨nd, rfl⟩⟩ := hrel
  by_cases hlt : i < l.length
  ·
   have i0 := hi.out.1
   have HT := asd (isSet_ok n (rd l i) c0 n7)
   have HN : Aside0 (risen n l (i + 1).toNat = okAt n l i) := ⟨by rw [show (i + 1).toNat = i.toNat + 1 by omega, risen_succ, hz.out, show ((i.toNat : Nat) : Int) = i by omega, Bool.true_and]⟩
   have HF : Aside0 (okAt n l i = false → isSpaceB n l = false) := ⟨fun h => by rw [HE.out, risen_not i0 hlt h]; rfl⟩
   have HO : Aside0 (okAt n l i = ((decide (0 ≤ rd l i) && decide (rd l i < 2 ^ n.toNat)) && (decide (i = 0) || decide (rd l (i - 1) < rd l i)))) := ⟨rfl⟩
   obtain ⟨ad, e, hcell⟩ := Kd.at_int (Kd.C_below HR.out HXg.out.bel) i i0 hlt
   have hcellp : 0 < i → W.cell? (ad.add (i - 1).toNat) = some (.int .i64 (rd l (i - 1))) := fun hpos => by
    obtain ⟨ad', e', hcell'⟩ := Kd.at_int (Kd.C_below HR.out HXg.out.bel) (i - 1) (by omega) (by omega)
    rw [e] at e'
    cases e'
    exact hcell'
   cases e
   generalize rd l i = x at *
   generalize rd l (i - 1) = y at *
   by_cases hin : (decide (0 ≤ x) && decide (x < 2 ^ n.toNat)) = true
   ·
    rw [hin] at HT HO
    clear hin
    by_cases hpos : 0 < i
    ·
     have hcp := hcellp hpos
     rw [show (i - 1).toNat = i.toNat - 1 by omega] at hcp
     have hi1 : (0 : Int) ≤ i - 1 := by omega
     have hi2 : i - 1 < l.length := by omega
     have b1 : decide (0 < i) = true := decide_eq_true hpos
     clear hcellp
     by_cases hyx : x ≤ y
     ·
      have HB := asd (HF.out (HO.out.trans (by simp; omega)))
      have b2 : decide (x ≤ y) = true := decide_eq_true hyx
      go_wp2_with (first | (go_at_call 101; (with_reducible refine (impl_isSet.calls _ _ _ _ HT.out).mono ?_); rintro e w' ⟨rfl, ⟨nd, rfl⟩⟩; (try first | exact ⟨rfl, _, World.drewN_drewN _ _ _⟩ | exact ⟨rfl, _, Eq.trans (World.drewN_drewN _ _ _) (congrArg (World.drewN _) (Nat.add_assoc _ _ _))⟩)))
      go_ret
      exact ⟨by rw [HB.out]; rfl, by repeat (first | exact HXg.out.bel | apply pw_below_drewN | apply below_drew1)⟩
     ·
      have HB := asd (HO.out.trans (show _ = true by simp; omega))
      have b2 : decide (x ≤ y) = false := decide_eq_false hyx
      go_wp2_with (first | (go_at_call 101; (with_reducible refine (impl_isSet.calls _ _ _ _ HT.out).mono ?_); rintro e w' ⟨rfl, ⟨nd, rfl⟩⟩; (try first | exact ⟨rfl, _, World.drewN_drewN _ _ _⟩ | exact ⟨rfl, _, Eq.trans (World.drewN_drewN _ _ _) (congrArg (World.drewN _) (Nat.add_assoc _ _ _))⟩)))
      go_roundw
      case rel => exact ⟨i + 1, ⟨by omega⟩, by first | rfl | go_num, ⟨by rw [HN.out, HB.out]⟩, by repeat (first | exact Drawn0.refl _ | apply Drawn0.step)⟩
      case measure => simp [intOf]; omega
    ·
     have hi0 : i = 0 := by have := hi.out; omega
     have HB := asd (HO.out.trans (show _ = true by simp [hi0]))
     have b1 : decide (0 < i) = false := decide_eq_false hpos
     clear hcellp hi0
     go_wp2_with (first | (go_at_call 101; (with_reducible refine (impl_isSet.calls _ _ _ _ HT.out).mono ?_); rintro e w' ⟨rfl, ⟨nd, rfl⟩⟩; (try first | exact ⟨rfl, _, World.drewN_drewN _ _ _⟩ | exact ⟨rfl, _, Eq.trans (World.drewN_drewN _ _ _) (congrArg (World.drewN _) (Nat.add_assoc _ _ _))⟩)))
     go_roundw
     case rel => exact ⟨i + 1, ⟨by omega⟩, by first | rfl | go_num, ⟨by rw [HN.out, HB.out]⟩, by repeat (first | exact Drawn0.refl _ | apply Drawn0.step)⟩
     case measure => simp [intOf]; omega
   ·
    have hin' : (decide (0 ≤ x) && decide (x < 2 ^ n.toNat)) = false := by simpa using hin
    rw [hin'] at HT HO
    have HB := asd (HF.out (HO.out.trans rfl))
    clear hin hin' hcellp
    go_wp2_with (first | (go_at_call 101; (with_reducible refine (impl_isSet.calls _ _ _ _ HT.out).mono ?_); rintro e w' ⟨rfl, ⟨nd, rfl⟩⟩; (try first | exact ⟨rfl, _, World.drewN_drewN _ _ _⟩ | exact ⟨rfl, _, Eq.trans (World.drewN_drewN _ _ _) (congrArg (World.drewN _) (Nat.add_assoc _ _ _))⟩)))
    go_ret
    exact ⟨by rw [HB.out]; rfl, by repeat (first | exact HXg.out.bel | apply pw_below_drewN | apply below_drew1)⟩
  ·
   have HA : Aside0 (risingB n l = true) := ⟨by have := hz.out; rwa [show i.toNat = l.length by have := hi.out; omega] at this⟩
   have HI := asd (show i = l.length by have := hi.out; omega)
   clear hz
   have HM : Aside0 (∀ x ∈ l, 0 ≤ x ∧ x < 128) := ⟨fun x hx => by have := risingB_mem HA.out hx; have := HP.out; omega⟩
   go_wp2_with (first | (go_at_call 102; (with_reducible refine (impl_Space_family.walk n _ _ l _ (Kd.C_drewN (Kd.C_below HR.out HXg.out.bel) _) HC.out HM.out).mono ?_); rintro e W2 ⟨b, rfl, HF, hbg, hbel⟩; have HX2 := asd (HXg.out.next ((pw_below_drewN (Below.refl _ _) _).trans (hbel.mono (Nat.le_refl _)))); have HF := asd HF; have k0 := HX2.out.c0; have k1 := HX2.out.c1; clear hbg hbel))
   have f0 := HF.out.at_ 0 (by decide) (by decide)
   rw [show (0 : Int).toNat = 0 from rfl] at f0
   obtain ⟨v0, hv0⟩ : ∃ v, v = (famOf l).getD 0 false := ⟨_, rfl⟩
   rw [← hv0] at f0
   have HV0 := asd hv0
   clear hv0
   cases v0
   ·
    have HB : Aside0 (isSpaceB n l = false) := ⟨by rw [HE.out, HA.out, ← HV0.out]; rfl⟩
    go_quiet (fail)
    go_wp2
    go_ret
    exact ⟨by rw [HB.out]; rfl, by repeat (first | exact HX2.out.bel | apply pw_below_drewN | apply below_drew1)⟩
   ·
    have HAL := asd (all_ok n l c0 n7)
    obtain ⟨m, hm2⟩ : ∃ m : Int, m = 2 ^ n.toNat - 1 := ⟨_, rfl⟩
    have m0 : 0 ≤ m := by have := HP.out; omega
    have m1 : m < 128 := by have := HP.out; omega
    have f1 := HF.out.at_ m m0 m1
    rw [← hm2] at HAL
    obtain ⟨v1, hv1⟩ : ∃ v, v = (famOf l).getD m.toNat false := ⟨_, rfl⟩
    rw [← hv1] at f1
    have HV1 := asd hv1
    have HM2 := asd hm2
    clear hv1 hm2
    have HK : Aside0 (∀ w', Below W2.heap.size W2 w' → Aside0 (Below W2.heap.size W2 w') ∧ w'.cell? ⟨g, 0, none⟩ = some (.int .i64 n) ∧ w'.cell? ⟨g, 1, none⟩ = some (.slice A l.length c) ∧ w'.cell? ⟨b, 0, none⟩ = some (.bool true) ∧ w'.cell? ⟨b, m.toNat, none⟩ = some (.bool v1)) :=
     ⟨fun w' hb => ⟨⟨hb⟩, pw_cell_below hb k0, pw_cell_below hb k1, pw_cell_below hb f0, pw_cell_below hb f1⟩⟩
    go_region_held3 (fun w' => Aside0 (Below W2.heap.size W2 w') ∧ w'.cell? ⟨g, 0, none⟩ = some (.int .i64 n) ∧ w'.cell? ⟨g, 1, none⟩ = some (.slice A l.length c) ∧ w'.cell? ⟨b, 0, none⟩ = some (.bool true) ∧ w'.cell? ⟨b, m.toNat, none⟩ = some (.bool v1)) (first | exact HK.out _ (below_drew1 (Below.refl _ _)) | exact HK.out _ (below_step (‹Aside0 (Below W2.heap.size W2 _) ∧ _›).1.out (by assumption))) (first | (go_at_call 103; (with_reducible refine (impl_Space_all.calls n _ _ l m _ ?sa ?sb HAL.out).mono ?_); (case sa => exact Kd.C_below (Kd.C_below HR.out HX2.out.bel) (‹Aside0 (Below W2.heap.size W2 _) ∧ _›).1.out); (case sb => exact HC.out); rintro e W3 ⟨rfl, hb3⟩))
    have HB3 := (‹Aside0 (Below W2.heap.size W2 _) ∧ _›).1
    have HX3 := asd (HX2.out.next HB3.out)
    have HF3 := asd (HF.out.below HB3.out)
    have q0 := HX3.out.c0
    have q1 := HX3.out.c1
    clear HK hb3 k0 k1 f0 f1
    cases v1
    ·
     have HB : Aside0 (isSpaceB n l = false) := ⟨by rw [HE.out, HA.out, ← HV0.out, toNat_pow HM2.out, ← HV1.out]; rfl⟩
     go_wp2
     go_ret
     exact ⟨by rw [HB.out]; rfl, HX3.out.bel⟩
    ·
     have HG : Aside0 (isSpaceB n l = unionsB (famOf l) l) := ⟨by rw [HE.out, HA.out, ← HV0.out, toNat_pow HM2.out, ← HV1.out]; rfl⟩
     clear HE HV0 HV1 HM2 m0 m1 HAL HS HX2 HF HXg gz0 gz1 s1 s2 s3 s4 s5 s6 s7 s8 HB3
     go_wp2
     go_loopw [70] (fun v70 wr => ∃ i : Int, Aside0 (0 ≤ i ∧ i ≤ l.length) ∧ v70 = .int .i64 i ∧ Aside0 (allTo (unionItem (famOf l) l) l i = true) ∧ Aside0 (Below W3.heap.size W3 wr)) (fun v70 _ => l.length - (intOf v70).toNat)
     case atStart => exact ⟨0, ⟨by omega⟩, rfl, ⟨rfl⟩, ⟨by repeat (first | exact Below.refl _ _ | apply pw_below_drewN | apply below_drew1)⟩⟩
     case round =>
      obtain ⟨k, hk, rfl, hz, HBr⟩ := hrel
      by_cases hlt : k < l.length
      ·
       have k0 := hk.out.1
       have HZ := asd (allTo_succ (unionItem (famOf l) l) l k k0 hlt)
       have HMEM := asd (rd_mem k0 hlt)
       have HNOT : Aside0 (unionItem (famOf l) l (rd l k) = false → isSpaceB n l = false) := ⟨fun h => HG.out.trans (all_not HMEM.out h)⟩
       have hx := HM.out _ HMEM.out
       have HRA := asd (Kd.C_below (Kd.C_below HR.out HX3.out.bel) HBr.out)
       have HXr := asd (HX3.out.next HBr.out)
       have HFr := asd (HF3.out.below HBr.out)
       obtain ⟨ad, e, hcell⟩ := Kd.at_int HRA.out k k0 hlt
       cases e
       clear q0 q1
       have q0 := HXr.out.c0
       have q1 := HXr.out.c1
       have hUI : unionItem (famOf l) l (rd l k) = ((decide (rd l k = 0) || !decide (innerF (famOf l) (rd l k).toNat = 0)) && unionRow (famOf l) l (rd l k)) := rfl
       generalize rd l k = x at *
       have HUI := asd hUI
       clear hUI
       obtain ⟨x0, x1⟩ := hx
       by_cases hx0 : x = 0
       ·
        have bx1 : (x == 0) = true := by simpa using hx0
        have bx2 : (x != 0) = false := by simpa using hx0
        have HX0 := asd hx0
        clear hx0
        go_wp2
        go_loopw [85] (fun v85 w5 => ∃ i : Int, Aside0 (0 ≤ i ∧ i ≤ l.length) ∧ v85 = .int .i64 i ∧ Aside0 (allTo (fun y => (famOf l).getD (x.toNat ||| y.toNat) false) l i = true) ∧ Drawn0 wr w5) (fun v85 _ => l.length - (intOf v85).toNat)
        case atStart => exact ⟨0, ⟨by omega⟩, rfl, ⟨rfl⟩, by repeat (first | exact Drawn0.refl _ | apply Drawn0.step)⟩
        case round =>
         obtain ⟨i, hi, rfl, hz5, ⟨nd5, rfl⟩⟩ := hrel
         by_cases hlt5 : i < l.length
         ·
          have i0 := hi.out.1
          have HZ5 := asd (allTo_succ (fun y => (famOf l).getD (x.toNat ||| y.toNat) false) l i i0 hlt5)
          have HMEM5 := asd (rd_mem i0 hlt5)
          have HNOT5 : Aside0 ((famOf l).getD (x.toNat ||| (rd l i).toNat) false = false → isSpaceB n l = false) := ⟨fun h => HNOT.out (HUI.out.trans (by rw [show unionRow (famOf l) l x = false from all_not HMEM5.out h, Bool.and_false]))⟩
          have hy := HM.out _ HMEM5.out
          obtain ⟨ad5, e5, hcell5⟩ := Kd.at_int HRA.out i i0 hlt5
          cases e5
          have hbo := bits_or x.toNat (rd l i).toNat (by omega) (by omega)
          have hbl : x.toNat ||| (rd l i).toNat < 128 := Nat.or_lt_two_pow (n := 7) (by omega) (by omega)
          rw [show ((x.toNat : Nat) : Int) = x by omega, show (((rd l i).toNat : Nat) : Int) = rd l i by omega] at hbo
          generalize rd l i = y at *
          obtain ⟨z, hz⟩ : ∃ z : Int, z = ((x.toNat ||| y.toNat : Nat) : Int) := ⟨_, rfl⟩
          have z0 : 0 ≤ z := by omega
          have z1 : z < 128 := by omega
          have hzn : x.toNat ||| y.toNat = z.toNat := by omega
          rw [← hz] at hbo
          rw [hzn] at HZ5 HNOT5
          clear hz hzn hbl hy
          have hfc := HFr.out.at_ z z0 z1
          obtain ⟨v, hv⟩ : ∃ v, v = (famOf l).getD z.toNat false := ⟨_, rfl⟩
          rw [← hv] at hfc HZ5 HNOT5
          clear hv
          cases v
          ·
           have HB := asd (HNOT5.out rfl)
           go_wp2
           go_ret
           exact ⟨by rw [HB.out]; rfl, by repeat (first | exact HXr.out.bel | apply pw_below_drewN | apply below_drew1)⟩
          ·
           go_wp2
           go_roundw
           case rel => exact ⟨i + 1, ⟨by omega⟩, by first | rfl | go_num, ⟨by rw [HZ5.out, hz5.out]; rfl⟩, by repeat (first | exact Drawn0.refl _ | apply Drawn0.step)⟩
           case measure => simp [intOf]; omega
         ·
          have HROW : Aside0 (unionRow (famOf l) l x = true) := ⟨by have := hz5.out; rw [allTo_end _ _ _ (by have := hi.out; omega)] at this; exact this⟩
          have HDONE : Aside0 (unionItem (famOf l) l x = true) := ⟨HUI.out.trans (by rw [HROW.out]; simp [HX0.out])⟩
          clear hz5
          go_wp2
          go_roundw
          case rel => exact ⟨k + 1, ⟨by omega⟩, by first | rfl | go_num, ⟨by rw [HZ.out, hz.out, HDONE.out]; rfl⟩, ⟨by repeat (first | exact HBr.out | apply pw_below_drewN | apply below_drew1)⟩⟩
          case measure => simp [intOf]; omega
       ·
        have bx1 : (x == 0) = false := by simpa using hx0
        have bx2 : (x != 0) = true := by simpa using hx0
        by_cases hin : innerF (famOf l) x.toNat = 0
        ·
         have HB := asd (HNOT.out (HUI.out.trans (by simp [hx0, hin])))
         have bi : (((innerF (famOf l) x.toNat : Nat) : Int) == 0) = true := by simp [hin]
         clear hin hx0
         go_wp2_with (first | (go_at_call 104; (with_reducible refine (impl_family_inner.walk b (famOf l) x _ HFr.out x0 x1).mono ?_); rintro e W4 ⟨rfl, hb4⟩))
         go_ret
         exact ⟨by rw [HB.out]; rfl, by repeat (first | exact (HXr.out.next hb4).bel | apply pw_below_drewN | apply below_drew1)⟩
        ·
         have bi : (((innerF (famOf l) x.toNat : Nat) : Int) == 0) = false := by simpa using hin
         go_wp2_with (first | (go_at_call 104; (with_reducible refine (impl_family_inner.walk b (famOf l) x _ HFr.out x0 x1).mono ?_); rintro e W4 ⟨rfl, hb4⟩; have HB4 := asd hb4; clear hb4 q0 q1; have HX4 := asd (HXr.out.next HB4.out); have q0 := HX4.out.c0; have q1 := HX4.out.c1))
         have HR4 := asd (Kd.C_below HRA.out HB4.out)
         have HF4 := asd (HFr.out.below HB4.out)
         have HIN := asd hin
         clear hin hx0
         go_loopw [85] (fun v85 w5 => ∃ i : Int, Aside0 (0 ≤ i ∧ i ≤ l.length) ∧ v85 = .int .i64 i ∧ Aside0 (allTo (fun y => (famOf l).getD (x.toNat ||| y.toNat) false) l i = true) ∧ Drawn0 W4 w5) (fun v85 _ => l.length - (intOf v85).toNat)
         case atStart => exact ⟨0, ⟨by omega⟩, rfl, ⟨rfl⟩, by repeat (first | exact Drawn0.refl _ | apply Drawn0.step)⟩
         case round =>
          obtain ⟨i, hi, rfl, hz5, ⟨nd5, rfl⟩⟩ := hrel
          by_cases hlt5 : i < l.length
          ·
           have i0 := hi.out.1
           have HZ5 := asd (allTo_succ (fun y => (famOf l).getD (x.toNat ||| y.toNat) false) l i i0 hlt5)
           have HMEM5 := asd (rd_mem i0 hlt5)
           have HNOT5 : Aside0 ((famOf l).getD (x.toNat ||| (rd l i).toNat) false = false → isSpaceB n l = false) := ⟨fun h => HNOT.out (HUI.out.trans (by rw [show unionRow (famOf l) l x = false from all_not HMEM5.out h, Bool.and_false]))⟩
           have hy := HM.out _ HMEM5.out
           obtain ⟨ad5, e5, hcell5⟩ := Kd.at_int HR4.out i i0 hlt5
           cases e5
           have hbo := bits_or x.toNat (rd l i).toNat (by omega) (by omega)
           have hbl : x.toNat ||| (rd l i).toNat < 128 := Nat.or_lt_two_pow (n := 7) (by omega) (by omega)
           rw [show ((x.toNat : Nat) : Int) = x by omega, show (((rd l i).toNat : Nat) : Int) = rd l i by omega] at hbo
           generalize rd l i = y at *
           obtain ⟨z, hz⟩ : ∃ z : Int, z = ((x.toNat ||| y.toNat : Nat) : Int) := ⟨_, rfl⟩
           have z0 : 0 ≤ z := by omega
           have z1 : z < 128 := by omega
           have hzn : x.toNat ||| y.toNat = z.toNat := by omega
           rw [← hz] at hbo
           rw [hzn] at HZ5 HNOT5
           clear hz hzn hbl hy
           have hfc := HF4.out.at_ z z0 z1
           obtain ⟨v, hv⟩ : ∃ v, v = (famOf l).getD z.toNat false := ⟨_, rfl⟩
           rw [← hv] at hfc HZ5 HNOT5
           clear hv
           cases v
           ·
            have HB := asd (HNOT5.out rfl)
            go_wp2
            go_ret
            exact ⟨by rw [HB.out]; rfl, by repeat (first | exact HX4.out.bel | apply pw_below_drewN | apply below_drew1)⟩
           ·
            go_wp2
            go_roundw
            case rel => exact ⟨i + 1, ⟨by omega⟩, by first | rfl | go_num, ⟨by rw [HZ5.out, hz5.out]; rfl⟩, by repeat (first | exact Drawn0.refl _ | apply Drawn0.step)⟩
            case measure => simp [intOf]; omega
          ·
           have HROW : Aside0 (unionRow (famOf l) l x = true) := ⟨by have := hz5.out; rw [allTo_end _ _ _ (by have := hi.out; omega)] at this; exact this⟩
           have HDONE : Aside0 (unionItem (famOf l) l x = true) := ⟨HUI.out.trans (by rw [HROW.out]; simp [HIN.out])⟩
           clear hz5
           go_wp2
           go_roundw
           case rel =>
            ((repeat apply Exists.intro); exact ⟨⟨k + 1, ⟨by omega⟩, by first | rfl | go_num, ⟨by rw [HZ.out, hz.out, HDONE.out]; rfl⟩, ⟨by repeat (first | exact (below_step HBr.out HB4.out) | apply pw_below_drewN | apply below_drew1)⟩⟩, rfl, rfl, rfl, rfl⟩)
           case measure => simp [intOf]; omega
      ·
       have HB : Aside0 (isSpaceB n l = true) := ⟨by have := hz.out; rw [allTo_end _ _ _ (by have := hk.out; omega)] at this; exact HG.out.trans this⟩
       clear hz
       go_wp2
       go_ret
       exact ⟨by rw [HB.out]; rfl, by repeat (first | exact (HX3.out.next HBr.out).bel | apply pw_below_drewN | apply below_drew1)⟩

theorem impl_IsSpace.calls (a0_0 : Int) (A0_1 : Option Addr) (c0_1 : Nat) (l0_1 : List Int) (r : Bool) (w : World) (hr0_1 : Kd.C (Kd.int .i64) w A0_1 l0_1.length l0_1) (hc0_1 : l0_1.length ≤ c0_1) (h : impl_IsSpace.f a0_0 l0_1 = some r) :
  Calls Try.prog 47 #[.agg #[.int .i64 a0_0, .slice A0_1 l0_1.length c0_1]] w fun e w' => e = .returned (.bool r) ∧ Below w.heap.size w w' := by
 obtain rfl := Option.some.inj h
 by_cases hn : (decide (1 ≤ a0_0) && decide (a0_0 ≤ 7) && decide ((l0_1.length : Int) ≤ 2 ^ a0_0.toNat)) = true
 ·
  exact impl_IsSpace.main a0_0 A0_1 c0_1 l0_1 w hr0_1 hc0_1 hn
 ·
  have hn' : (decide (1 ≤ a0_0) && decide (a0_0 ≤ 7) && decide ((l0_1.length : Int) ≤ 2 ^ a0_0.toNat)) = false := by simpa using hn
  rw [show isSpaceB a0_0 l0_1 = false by unfold isSpaceB; rw [hn']; rfl]
  exact impl_IsSpace.early a0_0 A0_1 c0_1 l0_1 w hr0_1 hn'

-- HAND impl_family_outer: function 110
set_option maxHeartbeats 8000000 in
set_option maxRecDepth 100000 in
theorem impl_family_outer.walkC (ad0 : Addr) (F : List Bool) (x : Int) (w : World) (hF : FamC w ad0 F) (h0 : 0 ≤ x) (h1 : x < 128) :
    Calls Try.prog 110 #[.pointer (some ad0), .int .i64 x] w fun e w' => e = .returned (.int .i64 (outerF F x.toNat)) ∧ Drawn0 w w' := by
  obtain ⟨x, rfl⟩ := Int.eq_ofNat_of_zero_le h0
  have HX := Aside0.mk (show x < 128 by omega)
  have HF := Aside0.mk hF
  clear h0 h1 hF
  rw [Int.toNat_natCast]
  go_enter Try.func110, Try.ntmps110
  go_wp2
  go_loopw [5, 7] (fun v5 v7 wr => ∃ (i : Int) (a : Nat), Aside0 (0 ≤ i ∧ i ≤ 7) ∧ v7 = .int .i64 i ∧ Aside0 (a < 128) ∧ v5 = .int .i64 a ∧ Aside0 (outK F x i.toNat = a) ∧ Drawn0 w wr) (fun _ v7 _ => 7 - (intOf v7).toNat)
  case atStart => exact ⟨0, 0, ⟨by decide⟩, rfl, ⟨by decide⟩, rfl, ⟨rfl⟩, Drawn0.refl _⟩
  case round =>
    obtain ⟨i, a, hi, rfl, ha, rfl, hf, ⟨n, rfl⟩⟩ := hrel
    by_cases hlt : i < 7
    · have i0 := hi.out.1
      have HO := Aside0.mk (bits_or a (2 ^ i.toNat) (lt63 ha.out) (lt63 (pow_lt128 i0 hlt)))
      have HOL := Aside0.mk (Nat.or_lt_two_pow (n := 7) ha.out (pow_lt128 i0 hlt))
      have HS := Aside0.mk (show outK F x (i + 1).toNat = if (!x.testBit i.toNat && F.getD (x ||| 2 ^ i.toNat) false) = true then a ||| 2 ^ i.toNat else a by rw [show (i + 1).toNat = i.toNat + 1 by omega, outK_succ, hf.out])
      obtain ⟨z, z0, z1, hz, hz2⟩ := and_one x i i0 (by omega) HX.out
      obtain ⟨r1, r2⟩ := shr_ways hz (by omega)
      clear hz
      by_cases hb : x.testBit i.toNat = true
      · rw [if_pos hb] at hz2
        rw [hb] at HS
        go_wp2
        go_quiet (fail)
        go_wp2
        go_roundw
        case rel => exact ⟨i + 1, a, ⟨by have := hi.out; omega⟩, by first | rfl | go_num, ha, rfl, ⟨by simpa using HS.out⟩, by repeat (first | exact Drawn0.refl _ | apply Drawn0.step)⟩
        case measure => simp [intOf]; omega
      · have hb' : x.testBit i.toNat = false := by simpa using hb
        rw [if_neg hb] at hz2
        rw [hb'] at HS
        clear hb hb'
        have hy := bits_or x (2 ^ i.toNat) (lt63 HX.out) (lt63 (pow_lt128 i0 hlt))
        have hylt : x ||| 2 ^ i.toNat < 128 := Nat.or_lt_two_pow (n := 7) HX.out (pow_lt128 i0 hlt)
        obtain ⟨j, hj⟩ : ∃ j, j = ((2 ^ i.toNat : Nat) : Int) := ⟨_, rfl⟩
        rw [← hj] at hy HO
        obtain ⟨s1, s2, s3, s4, s5, s6, s7, s8⟩ := shl_ways ((shl_nat i0 (by omega)).trans hj.symm) (by omega)
        clear hj
        obtain ⟨y, hY⟩ : ∃ y : Int, y = (x ||| 2 ^ i.toNat : Nat) := ⟨_, rfl⟩
        have y0 : 0 ≤ y := by omega
        have y1 : y < 128 := by omega
        have hYn : x ||| 2 ^ i.toNat = y.toNat := by omega
        rw [← hY] at hy
        rw [hYn] at HS
        clear hY hYn hylt
        have hfc := HF.out.at_ y y0 y1
        obtain ⟨v, hv⟩ : ∃ v, v = F.getD y.toNat false := ⟨_, rfl⟩
        rw [← hv] at hfc HS
        clear hv
        cases v
        all_goals
          go_wp2
          go_quiet (fail)
          go_wp2
        · go_roundw
          case rel => exact ⟨i + 1, a, ⟨by have := hi.out; omega⟩, by first | rfl | go_num, ha, rfl, ⟨by simpa using HS.out⟩, by repeat (first | exact Drawn0.refl _ | apply Drawn0.step)⟩
          case measure => simp [intOf]; omega
        · go_roundw
          case rel => exact ⟨i + 1, a ||| 2 ^ i.toNat, ⟨by have := hi.out; omega⟩, by first | rfl | go_num, HOL, by first | rfl | (rw [← HO.out]), ⟨by simpa using HS.out⟩, by repeat (first | exact Drawn0.refl _ | apply Drawn0.step)⟩
          case measure => simp [intOf]; omega
    · have HW := Aside0.mk (show (a : Int) = outerF F x by rw [← outK_7, ← hf.out, show i.toNat = 7 by have := hi.out; omega])
      clear hf
      go_wp2
      go_ret
      exact ⟨by have := HW.out; first | (rw [this]; done) | (simp; omega) | omega, by repeat (first | exact Drawn0.refl _ | apply Drawn0.step)⟩
theorem impl_family_outer.walk (b : Nat) (F : List Bool) (x : Int) (w : World) (hF : FamAt w b F) (h0 : 0 ≤ x) (h1 : x < 128) :
    Calls Try.prog 110 #[.pointer (some ⟨b, 0, none⟩), .int .i64 x] w fun e w' => e = .returned (.int .i64 (outerF F x.toNat)) ∧ Drawn0 w w' := impl_family_outer.walkC ⟨b, 0, none⟩ F x w hF.c h0 h1
def impl_family_outer.f (l0 : List Bool) (a1 : Int) : Option Int := if l0.length = 128 ∧ 0 ≤ a1 ∧ a1 < 128 then some (outerF l0 a1.toNat) else none
theorem impl_family_outer.calls (A0 : Option Addr) (c0 : Nat) (l0 : List Bool) (a1 : Int) (r : Int) (w : World) (hr0 : Kd.C Kd.bool w A0 l0.length l0) (hc0 : l0.length ≤ c0) (h : impl_family_outer.f l0 a1 = some r) :
    Calls Try.prog 110 #[.pointer A0, .int .i64 a1] w fun e w' => e = .returned (.int .i64 r) ∧ Drawn0 w w' := by
  unfold impl_family_outer.f at h
  split at h
  · rename_i hl
    have e := Option.some.inj h
    subst e
    obtain ⟨ad, rfl, HF⟩ := FamC.of_reads hr0 hl.1
    exact impl_family_outer.walkC ad l0 a1 w HF hl.2.1 hl.2.2
  · cases h

-- HAND with (*impl.family).outer
theorem outer_f (F : List Bool) (hF : F.length = 128) (x : Int) (h0 : 0 ≤ x) (h1 : x < 128) : impl_family_outer.f F x = some (outerF F x.toNat : Int) := by
  unfold impl_family_outer.f
  rw [if_pos ⟨hF, h0, h1⟩]

-- HAND impl_Space_ways_1: function 108
open Go.Maps in
theorem int_law : Keyed Try.prog 3 := int_keyed Try.underlying3
theorem zeroE_int (w : World) : (zeroValue 3).run Try.prog w = .ok (.int .i64 0) w := by kernel_rfl
/-- The sum over some items of what is told of the sets with each more; how many stores it takes. -/
def sumF (rec_ : Int → Option (Int × Nat)) (set : Int) : List Int → Int → Nat → Option (Int × Nat)
 | [], n, c => some (n, c)
 | i :: I, n, c => if 0 ≤ i then (rec_ (Go.bits .or .i64 set (shl .i64 1 i))).bind fun r => sumF rec_ set I (wrap64 (n + r.1)) (c + r.2) else none
/-- How many words lead from a set to all items. -/
def waysF (all : Int) (F : List Bool) : Nat → Int → Option (Int × Nat)
 | 0, _ => none
 | k + 1, set => if set = all then some (1, 0) else (impl_family_outer.f F set).bind fun m => (impl_items.f k m).bind fun I => (sumF (fun s => waysF all F k s) set I 0 0).bind fun r => some (r.1, r.2 + 1)
theorem sumF_mono {r1 r2 : Int → Option (Int × Nat)} (h : ∀ s, LeO (r1 s) (r2 s)) (set : Int) : ∀ (I : List Int) (n : Int) (c : Nat), LeO (sumF r1 set I n c) (sumF r2 set I n c)
 | [], _, _ => LeO.refl _
 | i :: I, n, c => by
  unfold sumF
  exact LeO.ite (LeO.bind (h _) fun r => sumF_mono h set I _ _) (LeO.refl _)
theorem waysF_mono (all : Int) (F : List Bool) : ∀ (k : Nat) (set : Int), LeO (waysF all F k set) (waysF all F (k + 1) set)
 | 0, _ => LeO.none _
 | k + 1, set => by
  show LeO (if set = all then some (1, 0) else (impl_family_outer.f F set).bind fun m => (impl_items.f k m).bind fun I => (sumF (fun s => waysF all F k s) set I 0 0).bind fun r => some (r.1, r.2 + 1)) (if set = all then some (1, 0) else (impl_family_outer.f F set).bind fun m => (impl_items.f (k + 1) m).bind fun I => (sumF (fun s => waysF all F (k + 1) s) set I 0 0).bind fun r => some (r.1, r.2 + 1))
  exact LeO.ite (LeO.refl _) (LeO.bind (LeO.refl _) fun m => LeO.bind (impl_items.mono _ k) fun I => LeO.bind (sumF_mono (waysF_mono all F k) _ _ _ _) fun r => LeO.refl _)
theorem waysF_det {all : Int} {F : List Bool} {k k' : Nat} {set : Int} {a b : Int × Nat} (h : waysF all F k set = some a) (h' : waysF all F k' set = some b) : a = b := by
 have h1 := at_rounds (fun k => waysF_mono all F k set) (Nat.le_max_left k k') h
 have h2 := at_rounds (fun k => waysF_mono all F k set) (Nat.le_max_right k k') h'
 rw [h1] at h2
 exact Option.some.inj h2
/-- All keys are sets. -/
def RangeOk (D : DataW Unit) : Prop := ∃ es, D = .map es ∧ ∀ p ∈ es, ∃ x : Int, p.1 = .int .i64 x ∧ 0 ≤ x ∧ x < 128
/-- What is kept is right. -/
def MemoOk (all : Int) (F : List Bool) (D : DataW Unit) : Prop := RangeOk D ∧ ∀ x : Int, Go.Maps.has D (.int .i64 x) = true → ∃ (k : Nat) (v : Int) (c : Nat), waysF all F k x = some (v, c) ∧ D.atKey (.int .i64 x) (.lit (.int .i64 0)) = .lit (.int .i64 v)
def litN : Lit → Nat
 | .int _ a => a.toNat
 | _ => 0
theorem nodup_len {α : Type} [DecidableEq α] : ∀ (l m : List α), l.Nodup → (∀ x ∈ l, x ∈ m) → l.length ≤ m.length
 | [], m, _, _ => Nat.zero_le _
 | x :: l, m, hn, hs => by
  have hx := hs x List.mem_cons_self
  have h1 := nodup_len l (m.erase x) (List.nodup_cons.1 hn).2 (fun y hy => by
   have hne : y ≠ x := fun e => (List.nodup_cons.1 hn).1 (e ▸ hy)
   exact (List.mem_erase_of_ne hne).2 (hs y (List.mem_cons_of_mem _ hy)))
  rw [List.length_erase_of_mem hx] at h1
  have := List.length_pos_of_mem hx
  rw [List.length_cons]
  omega
theorem foldr_insert_len {H : Type} : ∀ (l : List (Lit × DataW H)), (l.foldr DataW.insert []).length = l.length
 | [] => rfl
 | p :: l => by
  have h1 := foldr_insert_len l
  show (DataW.insert p (l.foldr DataW.insert [])).length = l.length + 1
  rw [(Go.WideShapes.insert_perm p _).length_eq, List.length_cons, h1]
theorem own_tight {w : World} {b m : Nat} {D : DataW Unit} (h : w.ownsMap Try.prog 3 (plainElem Try.prog 3) b m D) (hr : RangeOk D) : w.ownsMap Try.prog 3 (plainElem Try.prog 3) b 128 D := by
 obtain ⟨ex, e1, hx⟩ := hr
 obtain ⟨et, e2, hp⟩ := World.ownsMap.tidy h int_law
 obtain ⟨es, clock, hb, F, hs, hD⟩ := h
 refine ⟨es, clock, hb, F, ?_, hD⟩
 have e3 : ex = et := by rw [e1] at e2; injection e2
 have e4 : ex = (es.toList.map (Go.WideElems.rg Try.prog 3 (plainElem Try.prog 3))).foldr DataW.insert [] := by rw [e1] at hD; injection hD
 have h1 : ex.length = es.size := by rw [e4, foldr_insert_len, List.length_map, Array.length_toList]
 rw [← h1]
 have h2 : (ex.map fun p => litN p.1).length ≤ (List.range 128).length := by
  refine nodup_len _ _ ?_ ?_
  ·
   rw [List.Nodup, List.pairwise_map]
   refine List.Pairwise.imp_of_mem ?_ (e3 ▸ hp)
   intro p q hpm hqm hne e
   obtain ⟨x, x1, x2, x3⟩ := hx p hpm
   obtain ⟨y, y1, y2, y3⟩ := hx q hqm
   rw [x1, y1] at hne e
   have e : x.toNat = y.toNat := e
   exact hne (by rw [show x = y by omega])
  ·
   intro z hz
   obtain ⟨p, hpm, rfl⟩ := List.mem_map.1 hz
   obtain ⟨x, x1, x2, x3⟩ := hx p hpm
   rw [x1]
   exact List.mem_range.2 (by show x.toNat < 128; omega)
 rw [List.length_map, List.length_range] at h2
 exact h2
theorem RangeOk.put {D : DataW Unit} (h : RangeOk D) {x : Int} (h0 : 0 ≤ x) (h1 : x < 128) (d : DataW Unit) : RangeOk (D.put (.int .i64 x) d) := by
 obtain ⟨es, rfl, hx⟩ := h
 refine ⟨DataW.insert (.int .i64 x, d) (es.filter fun p => !p.1.sameKey (.int .i64 x)), rfl, fun p hp => ?_⟩
 rcases List.mem_cons.1 ((Go.WideShapes.insert_perm _ _).mem_iff.1 hp) with rfl | hp
 ·
  exact ⟨x, rfl, h0, h1⟩
 ·
  exact hx p (List.mem_filter.1 hp).1
theorem RangeOk.isMap {D : DataW Unit} (h : RangeOk D) : Go.Maps.IsMap D := by
 obtain ⟨es, rfl, _⟩ := h
 exact ⟨es, rfl⟩
theorem sumF_wf {rec_ : Int → Option (Int × Nat)} {set : Int} : ∀ (I : List Int) (n : Int) (c : Nat) (r : Int × Nat), (Lit.int .i64 n).wf = true → sumF rec_ set I n c = some r → (Lit.int .i64 r.1).wf = true
 | [], n, c, r, hn, h => by
  obtain rfl := Option.some.inj h
  exact hn
 | i :: I, n, c, r, hn, h => by
  unfold sumF at h
  split at h
  ·
   obtain ⟨a, _, h2⟩ := Option.bind_eq_some_iff.1 h
   exact sumF_wf I _ _ _ (WalkArith.wf_i64 (by unfold wrap64; omega)) h2
  ·
   cases h
structure WayS (wb w : World) (gs gm gf gn bm bf : Nat) (n : Int) (A : Option Addr) (c : Nat) (l : List Int) (F : List Bool) (all : Int) (D : DataW Unit) : Prop where
 bel : Below wb.heap.size wb w
 b1 : w.heap[gs]? = some (.cells #[.int .i64 n, .slice A l.length c] 28 (0, 0))
 b2 : w.heap[gm]? = some (.cells #[.map (some bm)] 112 (0, 0))
 b3 : w.heap[gf]? = some (.cells #[.pointer (some ⟨bf, 0, none⟩)] 105 (0, 0))
 b4 : w.heap[gn]? = some (.cells #[.func (.func 108) #[] #[.pointer (some ⟨gs, 0, none⟩), .pointer (some ⟨gm, 0, none⟩), .pointer (some ⟨gf, 0, none⟩), .pointer (some ⟨gn, 0, none⟩)]] 73 (0, 0))
 fam : FamAt w bf F
 map : w.ownsMap Try.prog 3 (plainElem Try.prog 3) bm 128 D
 memo : MemoOk all F D
 wm : wb.heap.size ≤ bm
section
variable {wb w w' : World} {gs gm gf gn bm bf : Nat} {n : Int} {A : Option Addr} {c : Nat} {l : List Int} {F : List Bool} {all : Int} {D : DataW Unit}
theorem cells_ne_map {W : World} {g b : Nat} {cs : Array Value} {t : TypeId} {P : Program} {k : TypeId} {R : Value → Option (DataW Unit × List MemPlace)} {m : Nat} {D : DataW Unit} (h : W.heap[g]? = some (.cells cs t (0, 0))) (hm : W.ownsMap P k R b m D) : some g ≠ some b := by
 rintro e
 obtain rfl := Option.some.inj e
 obtain ⟨es, clock, hb, _⟩ := hm
 rw [h] at hb
 cases hb
theorem WayS.below (h : WayS wb w gs gm gf gn bm bf n A c l F all D) (hb : Below w.heap.size w w') : WayS wb w' gs gm gf gn bm bf n A c l F all D :=
 ⟨below_step h.bel hb, blk_below h.b1 hb, blk_below h.b2 hb, blk_below h.b3 hb, blk_below h.b4 hb, h.fam.below hb, h.map.kept (grown_of_below hb none) (by simp), h.memo, h.wm⟩
theorem WayS.drewN (h : WayS wb w gs gm gf gn bm bf n A c l F all D) (j : Nat) : WayS wb (w.drewN j) gs gm gf gn bm bf n A c l F all D := h.below (pw_below_drewN (Below.refl _ _) j)
theorem WayS.put (h : WayS wb w gs gm gf gn bm bf n A c l F all D) {x v : Int} {k j : Nat} (hv : waysF all F k x = some (v, j)) (h0 : 0 ≤ x) (h1 : x < 128) (hm : w'.ownsMap Try.prog 3 (plainElem Try.prog 3) bm 129 (D.put (.int .i64 x) (.lit (.int .i64 v)))) (hg : w.grownBy w' (some bm)) : WayS wb w' gs gm gf gn bm bf n A c l F all (D.put (.int .i64 x) (.lit (.int .i64 v))) := by
 refine ⟨pw_below_grown h.bel (some bm) h.bel.size hg (fun k hk => by cases hk; exact h.wm), blk_grown h.b1 hg (cells_ne_map h.b1 h.map), blk_grown h.b2 hg (cells_ne_map h.b2 h.map), blk_grown h.b3 hg (cells_ne_map h.b3 h.map), blk_grown h.b4 hg (cells_ne_map h.b4 h.map), ⟨h.fam.len, blk_grown h.fam.blk hg (cells_ne_map h.fam.blk h.map)⟩, own_tight hm (h.memo.1.put h0 h1 _), ⟨h.memo.1.put h0 h1 _, fun y hy => ?_⟩, h.wm⟩
 by_cases e : y = x
 ·
  subst e
  exact ⟨k, v, j, hv, Go.Maps.atKey_put_same h.memo.1.isMap (show WideAt.IsKeyLit (.int .i64 y) from by simp [WideAt.IsKeyLit]) _ _⟩
 ·
  have hne : (Lit.int .i64 y) ≠ (Lit.int .i64 x) := fun h2 => e (by injection h2)
  rw [Go.Maps.has_put_other hne] at hy
  rw [Go.Maps.atKey_put_other hne]
  exact h.memo.2 y hy
end
/-- What may have changed between two worlds: the map, which is still right. -/
def WayOk (wb w w' : World) (gs gm gf gn bm bf : Nat) (n : Int) (A : Option Addr) (c : Nat) (l : List Int) (F : List Bool) (all : Int) : Prop := ∃ D, WayS wb w' gs gm gf gn bm bf n A c l F all D ∧ Kept w w' (fun k => k = bm)
theorem WayOk.trans {wb w w' w'' : World} {gs gm gf gn bm bf : Nat} {n : Int} {A : Option Addr} {c : Nat} {l : List Int} {F : List Bool} {all : Int} (h : WayOk wb w w' gs gm gf gn bm bf n A c l F all) (h2 : WayOk wb w' w'' gs gm gf gn bm bf n A c l F all) : WayOk wb w w'' gs gm gf gn bm bf n A c l F all := by
 obtain ⟨_, _, k1⟩ := h
 obtain ⟨D, s2, k2⟩ := h2
 exact ⟨D, s2, k1.then_ k2 (fun _ hk => .inl hk)⟩
theorem WayOk.cell {wb w w' : World} {gs gm gf gn bm bf : Nat} {n : Int} {A : Option Addr} {c : Nat} {l : List Int} {F : List Bool} {all : Int} (h : WayOk wb w w' gs gm gf gn bm bf n A c l F all) : w'.cell? ⟨gn, 0, none⟩ = some (.func (.func 108) #[] #[.pointer (some ⟨gs, 0, none⟩), .pointer (some ⟨gm, 0, none⟩), .pointer (some ⟨gf, 0, none⟩), .pointer (some ⟨gn, 0, none⟩)]) := by
 obtain ⟨D, s2, _⟩ := h
 exact (blk_cell s2.b4 0).trans rfl
set_option maxHeartbeats 4000000 in
set_option maxRecDepth 100000 in
theorem impl_Space_ways_1.calls (gs gm gf gn bm bf : Nat) (n : Int) (A : Option Addr) (c : Nat) (l : List Int) (F : List Bool) (all : Int) (wb : World) (hl : Kd.C (Kd.int .i64) wb A l.length l) (hc : l.length ≤ c) (hall : impl_Space_all.f n l = some all) :
  ∀ (k : Nat) (set : Int) (r : Int × Nat) (D : DataW Unit) (w : World) (hS : WayS wb w gs gm gf gn bm bf n A c l F all D) (h : waysF all F k set = some r),
  Calls Try.prog 108 #[.int .i64 set, .pointer (some ⟨gs, 0, none⟩), .pointer (some ⟨gm, 0, none⟩), .pointer (some ⟨gf, 0, none⟩), .pointer (some ⟨gn, 0, none⟩)] w fun e w' => e = .returned (.int .i64 r.1) ∧ WayOk wb w w' gs gm gf gn bm bf n A c l F all := by
 have hu := Try.underlying28
 have HL := asd hl
 have HC := asd hc
 have HAL := asd hall
 clear hl hc hall
 intro k
 induction k with
 | zero =>
  intro set r D w hS h
  cases h
 | succ k ih =>
  intro set r D w hS h
  have IH := asd ih
  have HS := asd hS
  have HW := asd h
  have q1 : w.cell? ⟨gs, 0, none⟩ = some (.int .i64 n) := (blk_cell hS.b1 0).trans rfl
  have q2 : w.cell? ⟨gs, 1, none⟩ = some (.slice A l.length c) := (blk_cell hS.b1 1).trans rfl
  clear ih hS
  unfold waysF at h
  by_cases c1 : set = all
  ·
   rw [if_pos c1] at h
   obtain rfl := Option.some.inj h
   have c1b : (set == all) = true := beq_iff_eq.mpr c1
   clear h c1
   go_enter Try.func108, Try.ntmps108
   go_wp2_with (go_at_call 103; (with_reducible refine (impl_Space_all.calls n _ _ l all _ ?sa ?sb HAL.out).mono ?_); (case sa => exact Kd.C_below HL.out HS.out.bel); (case sb => exact HC.out); rintro e W3 ⟨rfl, hb3⟩; have HB3 := asd hb3; clear q1 q2 hb3)
   go_ret
   exact ⟨rfl, D, HS.out.below HB3.out, Kept.of_below HB3.out _⟩
  ·
   rw [if_neg c1] at h
   obtain ⟨o, ho, h⟩ := Option.bind_eq_some_iff.1 h
   obtain ⟨L, hL, h⟩ := Option.bind_eq_some_iff.1 h
   obtain ⟨⟨v, cc⟩, hv, h⟩ := Option.bind_eq_some_iff.1 h
   obtain rfl := Option.some.inj h
   have c1b : (set == all) = false := beq_eq_false_iff_ne.mpr c1
   have hrange : 0 ≤ set ∧ set < 128 := by
    unfold impl_family_outer.f at ho
    split at ho
    ·
     rename_i hh
     exact hh.2
    ·
     cases ho
   have HWF : Aside0 ((Lit.int .i64 set).wf = true) := ⟨WalkArith.wf_i64 (by omega)⟩
   have HO := asd ho
   have HI := asd hL
   have HV := asd hv
   have HRG := asd hrange
   clear h c1 ho hL hv hrange
   cases hh : Go.Maps.has D (.int .i64 set) with
   | true =>
    obtain ⟨k2, v2, c2, e1, e2⟩ := HS.out.memo.2 set hh
    have e3 := waysF_det HW.out e1
    have HH := asd hh
    have HAT := asd e2
    have HV2 : Aside0 (v = v2) := ⟨congrArg Prod.fst e3⟩
    clear hh e1 e2 e3
    go_enter Try.func108, Try.ntmps108
    go_wp2_with (first | (go_at_call 103; (with_reducible refine (impl_Space_all.calls n _ _ l all _ ?sa ?sb HAL.out).mono ?_); (case sa => exact Kd.C_below HL.out HS.out.bel); (case sb => exact HC.out); rintro e W3 ⟨rfl, hb3⟩; have HS3 := asd (HS.out.below hb3); have HB3 := asd hb3; have q3 : W3.cell? ⟨gm, 0, none⟩ = some (.map (some bm)) := (blk_cell HS3.out.b2 0).trans rfl; clear q1 q2 hb3) | (at_lookup; go_loud (refine wpList_lookup_own_ok_int _ rfl _ _ 112 rfl 3 3 .i64 int_law Try.underlying112 Try.underlying3 (zeroE_int _) bm 128 D rfl HS3.out.map _ _ rfl (Go.Maps.keyOf_int_mk Try.underlying3 HWF.out) ?_; intro cv hat hwc; rw [HH.out]; have HC2 : Aside0 (cv = v) := ⟨by have h1 := HAT.out.symm.trans hat; rw [HV2.out]; injection h1 with h1; injection h1 with h1 h2; exact h2.symm⟩; clear hat hwc)))
    go_ret
    exact ⟨by rw [HC2.out]; rfl, D, HS3.out, Kept.of_below HB3.out _⟩
   | false =>
    have HH := asd hh
    clear hh
    go_enter Try.func108, Try.ntmps108
    go_wp2_with (first | (go_at_call 103; (with_reducible refine (impl_Space_all.calls n _ _ l all _ ?sa ?sb HAL.out).mono ?_); (case sa => exact Kd.C_below HL.out HS.out.bel); (case sb => exact HC.out); rintro e W3 ⟨rfl, hb3⟩; have HS3 := asd (HS.out.below hb3); have HB3 := asd hb3; have q3 : W3.cell? ⟨gm, 0, none⟩ = some (.map (some bm)) := (blk_cell HS3.out.b2 0).trans rfl; have q4 : W3.cell? ⟨gf, 0, none⟩ = some (.pointer (some ⟨bf, 0, none⟩)) := (blk_cell HS3.out.b3 0).trans rfl; clear q1 q2 hb3) | (at_lookup; refine wpList_lookup_own_ok_int _ rfl _ _ 112 rfl 3 3 .i64 int_law Try.underlying112 Try.underlying3 (zeroE_int _) bm 128 D rfl HS3.out.map _ _ rfl (Go.Maps.keyOf_int_mk Try.underlying3 HWF.out) ?_; intro cv hat hwc; rw [HH.out]; clear hat hwc) | (go_at_call 110; (with_reducible refine (impl_family_outer.calls (some ⟨bf, 0, none⟩) 128 F set o _ ?sc ?sd HO.out).mono ?_); (case sc => exact (Kd.R_reads' (HS3.out.fam.own (Nat.zero_le _))).2.2); (case sd => exact (Kd.R_reads' (HS3.out.fam.own (Nat.zero_le _))).2.1); rintro e W4 ⟨rfl, ⟨nd, rfl⟩⟩; have HS4 := asd (HS3.out.drewN nd); have HB4 : Aside0 (Below w.heap.size w (World.drewN W3 nd)) := ⟨pw_below_drewN HB3.out nd⟩; generalize World.drewN W3 nd = W4 at *; clear q3 q4) | (go_at_call 109; (with_reducible refine (impl_items.calls k o L _ HI.out).mono ?_); rintro e W5 ⟨vI, rfl, hR, hb5⟩; have HS5 := asd (HS4.out.below hb5); have HB5 := asd (below_step HB4.out hb5); obtain ⟨AI, cI, rfl⟩ := Kd.R_slice hR; have HIT := asd (Kd.R_tight rfl hR); have HIB := asd (Kd.R_base hR); have HLT := asd HS4.out.map.lt; clear hR hb5))
    have HNI : Aside0 (∀ k, some k = (Value.slice AI L.length cI).ownBlock → ¬ k = bm) := ⟨fun k hk hh => by
     have h1 := HIB.out k hk.symm
     have := HLT.out
     omega⟩
    clear HS3 HB3 HS4 HB4 HIB HLT
    go_loopg [9, 29] L.length (fun kq v9 v29 wr => ∃ (j : Nat) (n1 : Int) (c1 : Nat) (D1 : DataW Unit), v9 = .int .i64 n1 ∧ v29 = .int .i64 j ∧ Aside0 (j ≤ L.length ∧ L.length - j ≤ kq) ∧ Aside0 (sumF (fun s => waysF all F k s) set (L.drop j) n1 c1 = some (v, cc)) ∧ Aside0 (WayS wb wr gs gm gf gn bm bf n A c l F all D1) ∧ Aside0 (Kept W5 wr (fun k => k = bm)))
    case atStart => exact ⟨0, 0, 0, D, rfl, rfl, ⟨Nat.zero_le _, Nat.le_refl _⟩, ⟨HV.out⟩, HS5, ⟨Kept.refl _ _⟩⟩
    case round =>
     clear HS5 HS
     obtain ⟨j, n1, c1, D1, rfl, rfl, hj, HA, HS, HK⟩ := hrel
     obtain ⟨hjl, hgg⟩ := hj.out
     clear hj
     have HIR := asd (Kd.R_reads' (Kd.R_step HIT.out (fun k hk hlt => HK.out.2 k hlt (HNI.out k hk)))).2.2
     have hmx := Kd.C_max HIR.out
     by_cases hlt : j < L.length
     ·
      have hltz : (j : Int) < (L.length : Int) := by omega
      have H := HA.out
      clear HA
      rw [List.drop_eq_getElem_cons hlt, ← rd_get hlt] at H
      obtain ⟨ad, e, hcx⟩ := Kd.at_int HIR.out (j : Int) (by omega) hltz
      cases e
      rw [Int.toNat_natCast] at hcx
      generalize rd L (j : Int) = x at *
      unfold sumF at H
      by_cases hx : 0 ≤ x
      ·
       rw [if_pos hx] at H
       obtain ⟨⟨rv, rc⟩, hrec, H⟩ := Option.bind_eq_some_iff.1 H
       have HH2 := asd H
       have hx0b : decide (0 ≤ x) = true := decide_eq_true hx
       obtain ⟨sx, hsx⟩ : ∃ y, y = shl .i64 1 x := ⟨_, rfl⟩
       have sA : IntKind.i64.wrap (1 * 2 ^ min x.toNat 64) = sx := hsx.symm
       have sB : IntKind.i64.wrap (2 ^ min x.toNat 64) = sx := by rw [← sA, Int.one_mul]
       have sC : wrap64 (1 * 2 ^ min x.toNat 64) = sx := (i64_w _).symm.trans sA
       have sD : wrap64 (2 ^ min x.toNat 64) = sx := (i64_w _).symm.trans sB
       have HREC : Aside0 (waysF all F k (Go.bits .or .i64 set sx) = some (rv, rc)) := ⟨by rw [hsx]; exact hrec⟩
       clear hsx H hrec
       have q6 : wr.cell? ⟨gn, 0, none⟩ = some (.func (.func 108) #[] #[.pointer (some ⟨gs, 0, none⟩), .pointer (some ⟨gm, 0, none⟩), .pointer (some ⟨gf, 0, none⟩), .pointer (some ⟨gn, 0, none⟩)]) := (blk_cell HS.out.b4 0).trans rfl
       have HK0 : Aside0 (∀ w', Below wr.heap.size wr w' → Aside0 (WayOk wb wr w' gs gm gf gn bm bf n A c l F all) ∧ w'.cell? ⟨gn, 0, none⟩ = some (.func (.func 108) #[] #[.pointer (some ⟨gs, 0, none⟩), .pointer (some ⟨gm, 0, none⟩), .pointer (some ⟨gf, 0, none⟩), .pointer (some ⟨gn, 0, none⟩)])) := ⟨fun w' hb => ⟨⟨⟨D1, HS.out.below hb, Kept.of_below hb _⟩⟩, (blk_cell (HS.out.below hb).b4 0).trans rfl⟩⟩
       have HK1 : Aside0 (∀ w' w'', WayOk wb wr w' gs gm gf gn bm bf n A c l F all → WayOk wb w' w'' gs gm gf gn bm bf n A c l F all → Aside0 (WayOk wb wr w'' gs gm gf gn bm bf n A c l F all) ∧ w''.cell? ⟨gn, 0, none⟩ = some (.func (.func 108) #[] #[.pointer (some ⟨gs, 0, none⟩), .pointer (some ⟨gm, 0, none⟩), .pointer (some ⟨gf, 0, none⟩), .pointer (some ⟨gn, 0, none⟩)])) := ⟨fun w' w'' h1 h2 => ⟨⟨h1.trans h2⟩, h2.cell⟩⟩
       go_wp2
       go_region_held3 (fun w' => Aside0 (WayOk wb wr w' gs gm gf gn bm bf n A c l F all) ∧ w'.cell? ⟨gn, 0, none⟩ = some (.func (.func 108) #[] #[.pointer (some ⟨gs, 0, none⟩), .pointer (some ⟨gm, 0, none⟩), .pointer (some ⟨gf, 0, none⟩), .pointer (some ⟨gn, 0, none⟩)])) (first | exact HK0.out _ (below_drew1 (Below.refl _ _)) | exact HK1.out _ _ (‹Aside0 (WayOk wb wr _ gs gm gf gn bm bf n A c l F all) ∧ _›).1.out (by assumption)) (first | (go_at_call 108; obtain ⟨Dq, hSq, hKq⟩ := (‹Aside0 (WayOk wb wr _ gs gm gf gn bm bf n A c l F all) ∧ _›).1.out; (refine (IH.out (Go.bits .or .i64 set sx) (rv, rc) Dq _ hSq HREC.out).mono ?_); rintro e W3 ⟨rfl, hb3⟩))
       have HB3 := (‹Aside0 (WayOk wb wr _ gs gm gf gn bm bf n A c l F all) ∧ _›).1
       go_wp2
       go_roundg (L.length - (j + 1))
       case measure => omega
       case rel =>
        obtain ⟨D2, hS2, hK2⟩ := HB3.out
        exact ⟨j + 1, wrap64 (n1 + rv), c1 + rc, D2, congrArg (Value.int .i64) (i64_w _), by go_num, ⟨by omega, Nat.le_refl _⟩, ⟨HH2.out⟩, ⟨hS2⟩, ⟨HK.out.then_ hK2 (fun _ hk => .inl hk)⟩⟩
      ·
       rw [if_neg hx] at H
       cases H
     ·
      obtain rfl : j = L.length := by omega
      have hltz : ¬ (L.length : Int) < (L.length : Int) := by omega
      have H := HA.out
      clear HA
      rw [List.drop_of_length_le (Nat.le_refl _)] at H
      unfold sumF at H
      obtain ⟨rfl, rfl⟩ : n1 = v ∧ c1 = cc := by simpa using H
      clear H
      have HWV : Aside0 ((Lit.int .i64 n1).wf = true) := ⟨sumF_wf _ _ _ _ (WalkArith.wf_i64 (by omega)) HV.out⟩
      have q7 : wr.cell? ⟨gm, 0, none⟩ = some (.map (some bm)) := (blk_cell HS.out.b2 0).trans rfl
      go_wp2_with (at_mapUpdate; refine wpList_mapUpdate_own _ rfl _ _ _ 112 rfl 3 3 int_law Try.underlying112 _ bm 128 _ rfl HS.out.map (by unfold maxLen; omega) _ _ _ rfl rfl (Go.Maps.keyOf_int_mk Try.underlying3 HWF.out) _ [] (plainElem_int Try.underlying3 HWV.out) ?_; intro w9 hown9 hg9; have HOWN := asd hown9; have HG := asd hg9; clear hown9 hg9)
      go_ret
      exact ⟨rfl, D1.put (.int .i64 set) (.lit (.int .i64 n1)), HS.out.put HW.out HRG.out.1 HRG.out.2 HOWN.out HG.out, Kept.of_grown HG.out ((Kept.of_below HB5.out (fun k => k = bm)).then_ HK.out (fun _ hk => .inl hk)) (fun k hk => .inl (by cases hk; rfl))⟩

-- HAND impl_Space_ways: function 62
def impl_Space_ways.f (k : Nat) (a0_0 : Int) (l0_1 : List Int) (a1 : Int) : Option Int := (impl_Space_all.f a0_0 l0_1).bind fun all => (impl_Space_family.f a0_0 l0_1).bind fun F => (waysF all F k a1).bind fun r => some r.1
theorem impl_Space_ways.mono (y0 : Int) (y1 : List Int) (y2 : Int) (k : Nat) : LeO (impl_Space_ways.f k y0 y1 y2) (impl_Space_ways.f (k + 1) y0 y1 y2) :=
  LeO.bind (LeO.refl _) fun all => LeO.bind (LeO.refl _) fun F => LeO.bind (waysF_mono _ _ k _) fun r => LeO.refl _
theorem four_objs (W : World) (o1 o2 o3 o4 : Obj) : ((((W.alloc o1).alloc o2).alloc o3).alloc o4).heap[W.heap.size]? = some o1 ∧ ((((W.alloc o1).alloc o2).alloc o3).alloc o4).heap[W.heap.size + 1]? = some o2 ∧ ((((W.alloc o1).alloc o2).alloc o3).alloc o4).heap[W.heap.size + 1 + 1]? = some o3 ∧ ((((W.alloc o1).alloc o2).alloc o3).alloc o4).heap[W.heap.size + 1 + 1 + 1]? = some o4 ∧ Below W.heap.size W ((((W.alloc o1).alloc o2).alloc o3).alloc o4) := by
  have h1 := blk_new W o1
  have h2 := blk_new (W.alloc o1) o2
  have h3 := blk_new ((W.alloc o1).alloc o2) o3
  have h4 := blk_new (((W.alloc o1).alloc o2).alloc o3) o4
  rw [World.size_alloc] at h2
  rw [World.size_alloc, World.size_alloc] at h3
  rw [World.size_alloc, World.size_alloc, World.size_alloc] at h4
  exact ⟨blk_alloc (blk_alloc (blk_alloc h1 _) _) _, blk_alloc (blk_alloc h2 _) _, blk_alloc h3 _, h4, below_alloc (below_alloc (below_alloc (below_alloc (Below.refl _ _) _) _) _) _⟩
theorem fam_of {n : Int} {l : List Int} {F : List Bool} (h : impl_Space_family.f n l = some F) : (∀ x ∈ l, 0 ≤ x ∧ x < 128) ∧ F = famOf l := by
  unfold impl_Space_family.f at h
  split at h
  · rename_i hh
    refine ⟨fun x hx => ?_, (Option.some.inj h).symm⟩
    have h2 := List.all_eq_true.1 hh x hx
    rw [Bool.and_eq_true, decide_eq_true_eq, decide_eq_true_eq] at h2
    exact h2
  · cases h
theorem ways_start {n : Int} {A : Option Addr} {c : Nat} {l : List Int} {F : List Bool} {all : Int} {w W3 : World} {gs bf : Nat} (hb3 : Below w.heap.size w W3) (b1 : W3.heap[gs]? = some (.cells #[.int .i64 n, .slice A l.length c] 28 (0, 0))) (hF : FamAt W3 bf F) :
    WayS w ((((W3.alloc (.map #[] 0)).alloc (.cells #[.pointer (some ⟨bf, 0, none⟩)] 105)).alloc (.cells #[.map (some W3.heap.size)] 112)).alloc (.cells #[.func (.func 108) #[] #[.pointer (some ⟨gs, 0, none⟩), .pointer (some ⟨W3.heap.size + 1 + 1, 0, none⟩), .pointer (some ⟨W3.heap.size + 1, 0, none⟩), .pointer (some ⟨W3.heap.size + 1 + 1 + 1, 0, none⟩)]] 73)) gs (W3.heap.size + 1 + 1) (W3.heap.size + 1) (W3.heap.size + 1 + 1 + 1) W3.heap.size bf n A c l F all (.map []) ∧ Below W3.heap.size W3 ((((W3.alloc (.map #[] 0)).alloc (.cells #[.pointer (some ⟨bf, 0, none⟩)] 105)).alloc (.cells #[.map (some W3.heap.size)] 112)).alloc (.cells #[.func (.func 108) #[] #[.pointer (some ⟨gs, 0, none⟩), .pointer (some ⟨W3.heap.size + 1 + 1, 0, none⟩), .pointer (some ⟨W3.heap.size + 1, 0, none⟩), .pointer (some ⟨W3.heap.size + 1 + 1 + 1, 0, none⟩)]] 73)) := by
  obtain ⟨n1, n2, n3, n4, hX⟩ := four_objs W3 (.map #[] 0) (.cells #[.pointer (some ⟨bf, 0, none⟩)] 105) (.cells #[.map (some W3.heap.size)] 112) (.cells #[.func (.func 108) #[] #[.pointer (some ⟨gs, 0, none⟩), .pointer (some ⟨W3.heap.size + 1 + 1, 0, none⟩), .pointer (some ⟨W3.heap.size + 1, 0, none⟩), .pointer (some ⟨W3.heap.size + 1 + 1 + 1, 0, none⟩)]] 73)
  refine ⟨⟨below_step hb3 hX, blk_below b1 hX, n3, n2, n4, hF.below hX, ?_, ⟨⟨[], rfl, fun p hp => by cases hp⟩, fun x hx => by cases hx⟩, hb3.size⟩, hX⟩
  exact ((((World.ownsMap_made W3 Try.prog 3 (plainElem Try.prog 3)).mono (Nat.zero_le 128)).alloc _).alloc _).alloc _
set_option maxHeartbeats 4000000 in
set_option maxRecDepth 100000 in
theorem impl_Space_ways.calls (k : Nat) (a0_0 : Int) (A0_1 : Option Addr) (c0_1 : Nat) (l0_1 : List Int) (a1 : Int) (r : Int) (w : World) (hr0_1 : Kd.C (Kd.int .i64) w A0_1 l0_1.length l0_1) (hc0_1 : l0_1.length ≤ c0_1) (h : impl_Space_ways.f k a0_0 l0_1 a1 = some r) :
    Calls Try.prog 62 #[.agg #[.int .i64 a0_0, .slice A0_1 l0_1.length c0_1], .int .i64 a1] w fun e w' => e = .returned (.int .i64 r) ∧ Below w.heap.size w w' := by
  have hu := Try.underlying28
  have hmm := @run_makeMap Try.prog
  obtain ⟨all, hall, h⟩ := Option.bind_eq_some_iff.1 h
  obtain ⟨F, hF, h⟩ := Option.bind_eq_some_iff.1 h
  obtain ⟨rr, hr, h⟩ := Option.bind_eq_some_iff.1 h
  obtain rfl := Option.some.inj h
  obtain ⟨hM, rfl⟩ := fam_of hF
  have HR := Aside0.mk hr0_1
  have HC := Aside0.mk hc0_1
  have HALL := Aside0.mk hall
  have HM := Aside0.mk hM
  have HW := Aside0.mk hr
  have HB0 := Aside0.mk (Below.refl w.heap.size w)
  clear hr0_1 hc0_1 hall hF hr h hM
  go_enter Try.func62, Try.ntmps62
  go_wp2_with (first | ((with_reducible refine gate_dst (N := 2) rfl ?_); refine box_event ?hg (N := 2) ?hd (cs := #[.int .i64 a0_0, .slice A0_1 l0_1.length c0_1]) (t := 28) ?hr ?_; (case hd => rfl); (case hg => rfl); (case hr => first | (go_simp; done) | (go_simp; rfl)); intro gs gse W1 gsb W1b; have HB1 := Aside0.mk (below_step (by repeat (first | exact HB0.out | apply pw_below_drewN | apply below_drew1 | apply below_alloc)) W1b); have BK1 := Aside0.mk gsb; have GE1 := Aside0.mk ((by rw [gse]; exact below_size (by repeat (first | exact HB0.out | apply pw_below_drewN | apply below_drew1 | apply below_alloc))) : w.heap.size ≤ gs); have q1 : W1.cell? ⟨gs, 0, none⟩ = some (.int .i64 a0_0) := (blk_cell BK1.out 0).trans rfl; have q2 : W1.cell? ⟨gs, 1, none⟩ = some (.slice A0_1 l0_1.length c0_1) := (blk_cell BK1.out 1).trans rfl; clear W1b gsb gse) | (go_at_call 102; (with_reducible refine (impl_Space_family.walk a0_0 A0_1 c0_1 l0_1 _ ?sa ?sb HM.out).mono ?_); (case sa => exact Kd.C_below HR.out HB1.out); (case sb => exact HC.out); rintro e W3 ⟨bf, rfl, hf, hfb, hb3⟩; obtain ⟨hS3, hX3⟩ := ways_start (all := all) (below_step HB1.out hb3) (blk_below BK1.out hb3) hf; have HS3 := Aside0.mk hS3; have q9 : (((((W3.alloc (.map #[] 0)).alloc (.cells #[.pointer (some ⟨bf, 0, none⟩)] 105)).alloc (.cells #[.map (some W3.heap.size)] 112)).alloc (.cells #[.func (.func 108) #[] #[.pointer (some ⟨gs, 0, none⟩), .pointer (some ⟨W3.heap.size + 1 + 1, 0, none⟩), .pointer (some ⟨W3.heap.size + 1, 0, none⟩), .pointer (some ⟨W3.heap.size + 1 + 1 + 1, 0, none⟩)]] 73))).cell? ⟨W3.heap.size + 1 + 1 + 1, 0, none⟩ = some (.func (.func 108) #[] #[.pointer (some ⟨gs, 0, none⟩), .pointer (some ⟨W3.heap.size + 1 + 1, 0, none⟩), .pointer (some ⟨W3.heap.size + 1, 0, none⟩), .pointer (some ⟨W3.heap.size + 1 + 1 + 1, 0, none⟩)]) := (blk_cell hS3.b4 0).trans rfl; clear hf hfb hb3 hS3 hX3 q1 q2) | (go_at_call 108; (refine (impl_Space_ways_1.calls gs _ _ _ _ bf a0_0 A0_1 c0_1 l0_1 (famOf l0_1) all w HR.out HC.out HALL.out k a1 rr _ _ HS3.out HW.out).mono ?_); rintro e W7 ⟨rfl, D', hS7, hK7⟩; have HB7 := Aside0.mk hS7.bel; clear hS7 hK7))
  go_ret
  exact ⟨rfl, HB7.out⟩

-- HAND slices_Clone_int_int: function 65
def slices_Clone_int_int.f (l0 : List Int) : Option (List Int) := if l0.length < 17592186044416 then some l0 else none
set_option maxHeartbeats 8000000 in
set_option maxRecDepth 100000 in
theorem slices_Clone_int_int.calls (A0 : Option Addr) (c0 : Nat) (l0 : List Int) (r : List Int) (w : World) (hr0 : Kd.C (Kd.int .i64) w A0 l0.length l0) (hc0 : l0.length ≤ c0) (h : slices_Clone_int_int.f l0 = some r) :
    Calls Try.prog 65 #[.slice A0 l0.length c0] w fun e w' => ∃ v0_ : Value, e = .returned (v0_) ∧ Kd.R (Kd.int .i64) 3 w' w.heap.size (fun _ => True) v0_ r ∧ Below w.heap.size w w' := by
  unfold slices_Clone_int_int.f at h
  split at h
  · rename_i hlt
    obtain rfl := Option.some.inj h
    have LM := Aside0.mk hlt
    clear h hlt
    have he : ∀ (w : World) (A : Option Addr) (n c : Nat), (binOp .eql 22 (.slice A n c) (.slice none 0 0)).run Try.prog w = .ok (.bool A.isNone) w := fun w A n c => Go.Lib.run_eql_slice_nil w 22 3 A n c 0 0 Try.underlying22
    cases A0 with
    | none =>
      have hl : l0 = [] := by
        rcases Nat.eq_zero_or_pos l0.length with e | e
        · exact List.eq_nil_of_length_eq_zero e
        · obtain ⟨ad, he, _⟩ := hr0.2.2 e
          cases he
      subst hl
      clear hr0 hc0 LM
      have he0 : ∀ (w : World) (n c : Nat), (binOp .eql 22 (.slice none n c) (.slice none 0 0)).run Try.prog w = .ok (.bool true) w := fun w n c => he w none n c
      clear he
      go_enter Try.func65, Try.ntmps65
      go_wp2
      go_ret
      exact ⟨_, rfl, Kd.R_nil _ _ _ _ _, Below.refl _ _⟩
    | some ad =>
      have HR0 := Aside0.mk hr0
      have HC0 := Aside0.mk hc0
      clear hr0 hc0
      have he0 : ∀ (w : World) (n c : Nat), (binOp .eql 22 (.slice (some ad) n c) (.slice none 0 0)).run Try.prog w = .ok (.bool false) w := fun w n c => he w (some ad) n c
      clear he
      have HB := Aside0.mk (Below.refl w.heap.size w)
      go_enter Try.func65, Try.ntmps65
      go_wp2_with (first | ((with_reducible refine gate_dst (N := 5) rfl ?_); refine Kd.R_lit (Kd.int .i64) _ 3 ?hg (N := 5) ?hd (xs := ([] : List Int)) (inner := []) (ok := fun _ => True) (okp := fun _ => True) ?hr ?hp (fun _ hk => hk) trivial (Below.refl _ _) (Nat.le_refl _) (by simp) ?_; (case hd => rfl); (case hg => rfl); (case hr => first | (go_simp; done) | (go_simp; rfl)); (case hp => exact (Reps.none _ _)); intro v102 w3 ho4 hb hg_ hnew_; clear hg_ hnew_; have n0_ := Aside0.mk (Kd.R_lower ho4 (below_size (by repeat (first | (with_reducible first | exact HB.out | apply below_alloc | apply pw_below_drewN | apply below_drew1) | exact HB.out)))); have n1_ := Aside0.mk (below_step (by repeat (first | (with_reducible first | exact HB.out | apply below_alloc | apply pw_below_drewN | apply below_drew1) | exact HB.out)) hb); clear HB; have HO103 := n0_; have HB := n1_; clear n0_ n1_; clear hb ho4) | ((with_reducible refine gate_builtin (b := .append) (xs := #[.tmp 5, .tmp 6]) rfl ?_); at_builtin; refine Kd.R_append_rows (Kd.int .i64) (w0 := w) w.heap.size rfl (.tmp 5) (.tmp 6) 22 3 (.int .i64 0) 8 rfl Try.underlying22 info3 rfl (by decide) (by omega) v102 ([] : List Int) l0 _ _ _ (fun _ => True) (fun _ => False) rfl rfl ?aO ?aR (fun _ _ h => h) (fun _ h => h.elim) ?aF ?aB ?aS ?aL ?_; (case aR => repeat (first | exact (Kd.C_below HR0.out HB.out) | (with_reducible refine Kd.C_alloc ?_ _) | (with_reducible refine Kd.C_drewN ?_ _) | (with_reducible refine Kd.C_drew ?_))); (case aB => exact (by repeat (first | (with_reducible first | exact HB.out | apply below_alloc | apply pw_below_drewN | apply below_drew1) | exact HB.out))); (case aF => exact (fun _ _ => trivial)); (case aO => exact (by (with_reducible repeat (first | apply Kd.R_alloc | apply Kd.R_drewN | apply Kd.R_drew)); exact HO103.out)); (case aS => exact (below_size (by repeat (first | (with_reducible first | exact HB.out | apply below_alloc | apply pw_below_drewN | apply below_drew1) | exact HB.out)))); (case aL => have := LM.out; simp; omega); intro v105 w5 ho hb hg hat; have n0_ := Aside0.mk (hb); have n1_ := Aside0.mk (ho); clear HB; clear HO103; have HB := n0_; have HO106 := n1_; clear n0_ n1_; clear ho hb hg hat))
      go_ret
      exact ⟨_, rfl, by (with_reducible repeat (first | apply Kd.R_alloc | apply Kd.R_drewN | apply Kd.R_drew)); exact HO106.out, by repeat (first | (with_reducible first | exact HB.out | apply below_alloc | apply pw_below_drewN | apply below_drew1) | exact HB.out)⟩
  · cases h

-- HAND impl_Space_words_1: function 111
/-- What is left of some items, each put at the end of a word. -/
def loopF {σ : Type} (rec_ : σ → Bool → List Int → Int → Option (σ × Bool)) (ws : List Int) (set : Int) : List Int → σ → Bool → Option (σ × Bool)
 | [], st, g => some (st, g)
 | i :: I, st, g => if g = true then (if 0 ≤ i ∧ ws.length < 17592186044416 then (rec_ st g (ws ++ [i]) (Go.bits .or .i64 set (shl .i64 1 i))).bind fun r => loopF rec_ ws set I r.1 r.2 else none) else some (st, g)
/-- A visit to all words that go on. (Fuel; what the visitor keeps; whether it goes on; a word; its set.) -/
def wordsW {σ : Type} (all : Int) (F : List Bool) (D : σ → List Int → Option (σ × Bool)) : Nat → σ → Bool → List Int → Int → Option (σ × Bool)
 | 0, _, _, _, _ => none
 | k + 1, st, g, ws, set => if set = all then D st ws else (impl_family_outer.f F set).bind fun m => (impl_items.f k m).bind fun I => loopF (fun st g ws set => wordsW all F D k st g ws set) ws set I st g
theorem loopF_mono {σ : Type} {r1 r2 : σ → Bool → List Int → Int → Option (σ × Bool)} (h : ∀ st g ws set, LeO (r1 st g ws set) (r2 st g ws set)) (ws : List Int) (set : Int) : ∀ (I : List Int) (st : σ) (g : Bool), LeO (loopF r1 ws set I st g) (loopF r2 ws set I st g)
 | [], _, _ => LeO.refl _
 | i :: I, st, g => by
  unfold loopF
  exact LeO.ite (LeO.ite (LeO.bind (h _ _ _ _) fun r => loopF_mono h ws set I r.1 r.2) (LeO.refl _)) (LeO.refl _)
theorem wordsW_mono {σ : Type} {all : Int} {F : List Bool} {D1 D2 : σ → List Int → Option (σ × Bool)} (hD : ∀ s ws, LeO (D1 s ws) (D2 s ws)) : ∀ (k : Nat) (st : σ) (g : Bool) (ws : List Int) (set : Int), LeO (wordsW all F D1 k st g ws set) (wordsW all F D2 (k + 1) st g ws set)
 | 0, _, _, _, _ => LeO.none _
 | k + 1, st, g, ws, set => by
  show LeO (if set = all then D1 st ws else (impl_family_outer.f F set).bind fun m => (impl_items.f k m).bind fun I => loopF (fun st g ws set => wordsW all F D1 k st g ws set) ws set I st g) (if set = all then D2 st ws else (impl_family_outer.f F set).bind fun m => (impl_items.f (k + 1) m).bind fun I => loopF (fun st g ws set => wordsW all F D2 (k + 1) st g ws set) ws set I st g)
  exact LeO.ite (hD _ _) (LeO.bind (LeO.refl _) fun m => LeO.bind (impl_items.mono _ k) fun I => loopF_mono (wordsW_mono hD k) _ _ I _ _)
/-- A visitor: what it keeps, what it answers. -/
structure CBok {σ : Type} (I : World → (Nat → Prop) → σ → Prop) (D : σ → List Int → Option (σ × Bool)) (fd : Nat) (cd : Array Value) (wb : World) : Prop where
 bound : ∀ W C st, I W C st → ∀ k, C k → k < W.heap.size
 stay : ∀ W W' C st, I W C st → (∀ k, k < W.heap.size → C k → W'.heap[k]? = W.heap[k]?) → W.heap.size ≤ W'.heap.size → I W' C st
 enter : ∀ args w, (callFunc fd args).run Try.prog w = .ok (.enter fd args) w
 run : ∀ W C st A c xs r, I W C st → Below wb.heap.size wb W → Kd.C (Kd.int .i64) W A xs.length xs → xs.length ≤ c → D st xs = some r → Calls Try.prog fd (#[.slice A xs.length c] ++ cd) W fun e W' => e = .returned (.bool r.2) ∧ ∃ C', I W' C' r.1 ∧ (∀ k, C' k → C k ∨ W.heap.size ≤ k) ∧ Kept W W' C ∧ Below wb.heap.size wb W'
theorem kept_blk {w w' : World} {S : Nat → Prop} {g : Nat} {o : Obj} (h : w.heap[g]? = some o) (hK : Kept w w' S) (hg : ¬ S g) : w'.heap[g]? = some o := (hK.2 g (blk_lt h) hg).trans h
/-- The variables in memory of a visit. -/
structure WdS {σ : Type} (I : World → (Nat → Prop) → σ → Prop) (wb w : World) (C : Nat → Prop) (gs gd gw gg gf gn bf : Nat) (n : Int) (A : Option Addr) (c : Nat) (l : List Int) (vd : Value) (F : List Bool) (g : Bool) (u v : Value) (ws : List Int) (st : σ) : Prop where
 bel : Below wb.heap.size wb w
 b1 : w.heap[gs]? = some (.cells #[.int .i64 n, .slice A l.length c] 28 (0, 0))
 b2 : w.heap[gd]? = some (.cells #[vd] 75 (0, 0))
 b3 : w.heap[gw]? = some (.cells #[u] 22 (0, 0))
 b4 : w.heap[gg]? = some (.cells #[.bool g] 4 (0, 0))
 b5 : w.heap[gf]? = some (.cells #[.pointer (some ⟨bf, 0, none⟩)] 105 (0, 0))
 b6 : w.heap[gn]? = some (.cells #[.func (.func 111) #[] #[.pointer (some ⟨gs, 0, none⟩), .pointer (some ⟨gd, 0, none⟩), .pointer (some ⟨gw, 0, none⟩), .pointer (some ⟨gg, 0, none⟩), .pointer (some ⟨gf, 0, none⟩), .pointer (some ⟨gn, 0, none⟩)]] 114 (0, 0))
 fam : FamAt w bf F
 row : Kd.R (Kd.int .i64) 3 w wb.heap.size (fun k => ¬ C k) v ws
 n1 : ¬ C gs
 n2 : ¬ C gd
 n3 : ¬ C gw
 n4 : ¬ C gg
 n5 : ¬ C gf
 n6 : ¬ C gn
 nf : ¬ C bf
 w3 : wb.heap.size ≤ gw
 w4 : wb.heap.size ≤ gg
 inv : I w C st
section
variable {σ : Type} {I : World → (Nat → Prop) → σ → Prop} {D : σ → List Int → Option (σ × Bool)} {fd : Nat} {cd : Array Value} {wb w w' : World} {C C' S : Nat → Prop} {gs gd gw gg gf gn bf : Nat} {n : Int} {A : Option Addr} {c : Nat} {l : List Int} {vd : Value} {F : List Bool} {g : Bool} {u v : Value} {ws : List Int} {st st' : σ}
theorem WdS.move (h : WdS I wb w C gs gd gw gg gf gn bf n A c l vd F g u v ws st) (hb : Below wb.heap.size wb w') (hK : Kept w w' S) (hS : ∀ k, S k → C k) (hC' : ∀ k, C' k → C k ∨ w.heap.size ≤ k) (hi : I w' C' st') : WdS I wb w' C' gs gd gw gg gf gn bf n A c l vd F g u v ws st' := by
 have nn : ∀ {k : Nat} {o : Obj}, w.heap[k]? = some o → ¬ C k → ¬ C' k := fun hk hn hc => by
  rcases hC' _ hc with h1 | h1
  ·
   exact hn h1
  ·
   have := blk_lt hk; omega
 have kb : ∀ {k : Nat} {o : Obj}, w.heap[k]? = some o → ¬ C k → w'.heap[k]? = some o := fun hk hn => kept_blk hk hK (fun hs => hn (hS _ hs))
 have hr := Kd.R_mono (Kd.R_bound h.row) (ok' := fun k => ¬ C k ∧ k < w.heap.size) (fun k hk => ⟨hk.1, hk.2.2.1⟩)
 exact ⟨hb, kb h.b1 h.n1, kb h.b2 h.n2, kb h.b3 h.n3, kb h.b4 h.n4, kb h.b5 h.n5, kb h.b6 h.n6, ⟨h.fam.len, kb h.fam.blk h.nf⟩, Kd.R_mono (Kd.R_step hr (fun k hk hlt => hK.2 k hlt (fun hs => hk.1 (hS _ hs)))) (fun k hk hc => by
  rcases hC' _ hc with h1 | h1
  ·
   exact hk.1 h1
  ·
   have := hk.2; omega), nn h.b1 h.n1, nn h.b2 h.n2, nn h.b3 h.n3, nn h.b4 h.n4, nn h.b5 h.n5, nn h.b6 h.n6, nn h.fam.blk h.nf, h.w3, h.w4, hi⟩
theorem WdS.below (hD : CBok I D fd cd wb) (h : WdS I wb w C gs gd gw gg gf gn bf n A c l vd F g u v ws st) (hb : Below w.heap.size w w') : WdS I wb w' C gs gd gw gg gf gn bf n A c l vd F g u v ws st :=
 h.move (S := fun _ => False) (below_step h.bel hb) (Kept.of_below hb _) (fun _ hk => hk.elim) (fun _ hk => .inl hk) (hD.stay _ _ _ _ h.inv (fun k hk _ => hb.block k hk) hb.size)
theorem WdS.drewN (hD : CBok I D fd cd wb) (h : WdS I wb w C gs gd gw gg gf gn bf n A c l vd F g u v ws st) (m : Nat) : WdS I wb (w.drewN m) C gs gd gw gg gf gn bf n A c l vd F g u v ws st := h.below hD (pw_below_drewN (Below.refl _ _) m)
theorem WdS.grown (hD : CBok I D fd cd wb) (h : WdS I wb w C gs gd gw gg gf gn bf n A c l vd F g u v ws st) {v1 : Value} {ws1 : List Int} (hb : Below wb.heap.size wb w') (hg : w.grownBy w' v.ownBlock) (ho : Kd.R (Kd.int .i64) 3 w' wb.heap.size (fun k => ¬ C k) v1 ws1) : WdS I wb w' C gs gd gw gg gf gn bf n A c l vd F g u v1 ws1 st := by
 have hf : some bf ≠ v.ownBlock := Kd.R_ne h.row h.fam.blk (by decide)
 refine ⟨hb, blk_grown h.b1 hg (Kd.R_ne h.row h.b1 (by decide)), blk_grown h.b2 hg (Kd.R_ne h.row h.b2 (by decide)), blk_grown h.b3 hg (Kd.R_ne h.row h.b3 (by decide)), blk_grown h.b4 hg (Kd.R_ne h.row h.b4 (by decide)), blk_grown h.b5 hg (Kd.R_ne h.row h.b5 (by decide)), blk_grown h.b6 hg (Kd.R_ne h.row h.b6 (by decide)), ⟨h.fam.len, blk_grown h.fam.blk hg hf⟩, ho, h.n1, h.n2, h.n3, h.n4, h.n5, h.n6, h.nf, h.w3, h.w4, ?_⟩
 exact hD.stay _ _ _ _ h.inv (fun k hk hc => hg.block k hk (fun e => h.row.1 k e.symm hc)) hg.size
theorem WdS.setW (hD : CBok I D fd cd wb) (h : WdS I wb w C gs gd gw gg gf gn bf n A c l vd F g u v ws st) (x : Value) : WdS I wb (w.setCell ⟨gw, 0, none⟩ x) C gs gd gw gg gf gn bf n A c l vd F g x v ws st :=
 ⟨h.bel.setCell h.w3 _, blk_far h.b1 (p := ⟨gw, 0, none⟩) (blk_ne h.b1 h.b3 (by decide)) _, blk_far h.b2 (p := ⟨gw, 0, none⟩) (blk_ne h.b2 h.b3 (by decide)) _, blk_put h.b3 0 x rfl, blk_far h.b4 (p := ⟨gw, 0, none⟩) (blk_ne h.b4 h.b3 (by decide)) _, blk_far h.b5 (p := ⟨gw, 0, none⟩) (blk_ne h.b5 h.b3 (by decide)) _, blk_far h.b6 (p := ⟨gw, 0, none⟩) (blk_ne h.b6 h.b3 (by decide)) _, h.fam.far (p := ⟨gw, 0, none⟩) (blk_ne h.fam.blk h.b3 (by decide)) _, Kd.R_set h.row h.b3 (by decide) 0 x, h.n1, h.n2, h.n3, h.n4, h.n5, h.n6, h.nf, h.w3, h.w4,
  hD.stay _ _ _ _ h.inv (fun k hk hc => Below.heap_setCell w ⟨gw, 0, none⟩ x k (fun e => h.n3 (show C gw from (show k = gw from e) ▸ hc))) (by rw [World.size_setCell]; exact Nat.le_refl _)⟩
theorem WdS.setG (hD : CBok I D fd cd wb) (h : WdS I wb w C gs gd gw gg gf gn bf n A c l vd F g u v ws st) (x : Bool) : WdS I wb (w.setCell ⟨gg, 0, none⟩ (.bool x)) C gs gd gw gg gf gn bf n A c l vd F x u v ws st :=
 ⟨h.bel.setCell h.w4 _, blk_far h.b1 (p := ⟨gg, 0, none⟩) (blk_ne h.b1 h.b4 (by decide)) _, blk_far h.b2 (p := ⟨gg, 0, none⟩) (blk_ne h.b2 h.b4 (by decide)) _, blk_far h.b3 (p := ⟨gg, 0, none⟩) (blk_ne h.b3 h.b4 (by decide)) _, blk_put h.b4 0 (.bool x) rfl, blk_far h.b5 (p := ⟨gg, 0, none⟩) (blk_ne h.b5 h.b4 (by decide)) _, blk_far h.b6 (p := ⟨gg, 0, none⟩) (blk_ne h.b6 h.b4 (by decide)) _, h.fam.far (p := ⟨gg, 0, none⟩) (blk_ne h.fam.blk h.b4 (by decide)) _, Kd.R_set h.row h.b4 (by decide) 0 (.bool x), h.n1, h.n2, h.n3, h.n4, h.n5, h.n6, h.nf, h.w3, h.w4,
  hD.stay _ _ _ _ h.inv (fun k hk hc => Below.heap_setCell w ⟨gg, 0, none⟩ (.bool x) k (fun e => h.n4 (show C gg from (show k = gg from e) ▸ hc))) (by rw [World.size_setCell]; exact Nat.le_refl _)⟩
theorem WdS.take (h : WdS I wb w C gs gd gw gg gf gn bf n A c l vd F g u v ws st) {v1 : Value} {ws1 : List Int} (ho : Kd.R (Kd.int .i64) 3 w wb.heap.size (fun k => ¬ C k) v1 ws1) : WdS I wb w C gs gd gw gg gf gn bf n A c l vd F g u v1 ws1 st :=
 ⟨h.bel, h.b1, h.b2, h.b3, h.b4, h.b5, h.b6, h.fam, ho, h.n1, h.n2, h.n3, h.n4, h.n5, h.n6, h.nf, h.w3, h.w4, h.inv⟩
end
set_option maxHeartbeats 4000000 in
set_option maxRecDepth 100000 in
theorem impl_Space_words_1.calls {σ : Type} (I : World → (Nat → Prop) → σ → Prop) (D : σ → List Int → Option (σ × Bool)) (fd : Nat) (cd : Array Value) (wb : World) (hD : CBok I D fd cd wb) (gs gd gw gg gf gn bf : Nat) (n : Int) (A : Option Addr) (c : Nat) (l : List Int) (F : List Bool) (all : Int) (hl : Kd.C (Kd.int .i64) wb A l.length l) (hc : l.length ≤ c) (hall : impl_Space_all.f n l = some all) :
  ∀ (k : Nat) (st : σ) (g : Bool) (ws : List Int) (set : Int) (r : σ × Bool) (C : Nat → Prop) (v : Value) (w : World) (hS : WdS I wb w C gs gd gw gg gf gn bf n A c l (.func (.func fd) #[] cd) F g v v ws st) (h : wordsW all F D k st g ws set = some r),
  Calls Try.prog 111 #[.int .i64 set, .pointer (some ⟨gs, 0, none⟩), .pointer (some ⟨gd, 0, none⟩), .pointer (some ⟨gw, 0, none⟩), .pointer (some ⟨gg, 0, none⟩), .pointer (some ⟨gf, 0, none⟩), .pointer (some ⟨gn, 0, none⟩)] w fun e w' => e = .returned (.tuple #[]) ∧ ∃ (C' : Nat → Prop) (v' : Value), WdS I wb w' C' gs gd gw gg gf gn bf n A c l (.func (.func fd) #[] cd) F r.2 v' v' ws r.1 ∧ Kept w w' (fun k => C k ∨ k = gw ∨ k = gg ∨ some k = v.ownBlock) ∧ (∀ k, C' k → C k ∨ w.heap.size ≤ k) ∧ (v'.ownBlock = v.ownBlock ∨ ∃ b, v'.ownBlock = some b ∧ w.heap.size ≤ b) := by
 have hu := Try.underlying28
 have HL := asd hl
 have HC := asd hc
 have HAL := asd hall
 have HD := asd hD
 have eg := hD.enter
 clear hl hc hall hD
 intro k
 induction k with
 | zero =>
  intro st g ws set r C v w hS h
  cases h
 | succ k ih =>
  intro st g ws set r C v w hS h
  have IH := asd ih
  have HS := asd hS
  obtain ⟨Av, cv, rfl⟩ := Kd.R_slice hS.row
  have q1 : w.cell? ⟨gs, 0, none⟩ = some (.int .i64 n) := (blk_cell hS.b1 0).trans rfl
  have q2 : w.cell? ⟨gs, 1, none⟩ = some (.slice A l.length c) := (blk_cell hS.b1 1).trans rfl
  clear ih hS
  unfold wordsW at h
  by_cases c1 : set = all
  ·
   rw [if_pos c1] at h
   have H := asd h
   have c1b : (set == all) = true := beq_iff_eq.mpr c1
   clear h c1
   go_enter Try.func111, Try.ntmps111
   go_wp2_with (first | (go_at_call 103; (with_reducible refine (impl_Space_all.calls n _ _ l all _ ?sa ?sb HAL.out).mono ?_); (case sa => exact Kd.C_below HL.out HS.out.bel); (case sb => exact HC.out); rintro e W3 ⟨rfl, hb3⟩; have HS3 := asd (HS.out.below HD.out hb3); have HB3 := asd hb3; have q4 : W3.cell? ⟨gd, 0, none⟩ = some (.func (.func fd) #[] cd) := (blk_cell HS3.out.b2 0).trans rfl; have q5 : W3.cell? ⟨gw, 0, none⟩ = some (.slice Av ws.length cv) := (blk_cell HS3.out.b3 0).trans rfl; clear q1 q2 hb3) | (go_at_fn fd; refine (HD.out.run _ C st Av cv ws r HS3.out.inv HS3.out.bel (Kd.R_reads' HS3.out.row).2.2 (Kd.R_reads' HS3.out.row).2.1 H.out).mono ?_; rintro e W4 ⟨rfl, C', hi, hC', hK, hB4⟩; have HS4 := asd (HS3.out.move hB4 hK (fun _ hk => hk) hC' hi); have HK4 := asd hK; have HC4 := asd hC'; have q6 : W4.cell? ⟨gg, 0, none⟩ = some (.bool g) := (blk_cell HS4.out.b4 0).trans rfl; have f6 := blk_frozen HS4.out.b4 0; clear hi hK hC' hB4))
   ((try simp only [Exit.inBlock, Exit.then]); first | refine bodyPost_ret (results_none rfl _ _ _) rfl ?_ | refine bodyPost_end (results_none rfl _ _ _) rfl ?_)
   refine ⟨rfl, C', _, HS4.out.setG HD.out r.2, ?_, fun k hk => ?_, .inl rfl⟩
   ·
    exact (((Kept.of_below HB3.out (fun k => C k ∨ k = gw ∨ k = gg ∨ some k = (Value.slice Av ws.length cv).ownBlock)).then_ HK4.out (fun _ hk => .inl (.inl hk))).setCell (p := ⟨gg, 0, none⟩) (.inl (.inr (.inr (.inl rfl)))) _)
   ·
    rcases HC4.out k hk with h1 | h1
    ·
     exact .inl h1
    ·
     exact .inr (Nat.le_trans HB3.out.size h1)
  ·
   rw [if_neg c1] at h
   obtain ⟨m, hm, h⟩ := Option.bind_eq_some_iff.1 h
   obtain ⟨L, hL, h⟩ := Option.bind_eq_some_iff.1 h
   have H' := asd h
   have HM := asd hm
   have HI := asd hL
   have c1b : (set == all) = false := beq_eq_false_iff_ne.mpr c1
   clear h c1 hm hL
   go_enter Try.func111, Try.ntmps111
   go_wp2_with (first | (go_at_call 103; (with_reducible refine (impl_Space_all.calls n _ _ l all _ ?sa ?sb HAL.out).mono ?_); (case sa => exact Kd.C_below HL.out HS.out.bel); (case sb => exact HC.out); rintro e W3 ⟨rfl, hb3⟩; have HS3 := asd (HS.out.below HD.out hb3); have HB3 := asd hb3; have q4 : W3.cell? ⟨gf, 0, none⟩ = some (.pointer (some ⟨bf, 0, none⟩)) := (blk_cell HS3.out.b5 0).trans rfl; clear q1 q2 hb3) | (go_at_call 110; (with_reducible refine (impl_family_outer.calls (some ⟨bf, 0, none⟩) 128 F set m _ ?sc ?sd HM.out).mono ?_); (case sc => exact (Kd.R_reads' (HS3.out.fam.own (Nat.zero_le _))).2.2); (case sd => exact (Kd.R_reads' (HS3.out.fam.own (Nat.zero_le _))).2.1); rintro e W4 ⟨rfl, ⟨nd, rfl⟩⟩; have HS4 := asd (HS3.out.drewN HD.out nd); have HB4 : Aside0 (Below w.heap.size w (World.drewN W3 nd)) := ⟨pw_below_drewN HB3.out nd⟩; generalize World.drewN W3 nd = W4 at *; clear q4) | (go_at_call 109; (with_reducible refine (impl_items.calls k m L _ HI.out).mono ?_); rintro e W5 ⟨vI, rfl, hR, hb5⟩; have HS5 := asd (HS4.out.below HD.out hb5); have HB5 := asd (below_step HB4.out hb5); obtain ⟨AI, cI, rfl⟩ := Kd.R_slice hR; have HIT := asd (Kd.R_tight rfl hR); have HIB := asd (Kd.R_base hR); clear hR hb5))
   have HNI : Aside0 (∀ k, some k = (Value.slice AI L.length cI).ownBlock → ¬ (C k ∨ k = gw ∨ k = gg ∨ some k = (Value.slice Av ws.length cv).ownBlock)) := ⟨fun k hk hh => by
    have h1 := HIB.out k hk.symm
    rcases hh with hh | hh | hh | hh
    ·
     have := HD.out.bound _ _ _ HS4.out.inv k hh; omega
    ·
     have := blk_lt HS4.out.b3; omega
    ·
     have := blk_lt HS4.out.b4; omega
    ·
     have := Kd.R_lt HS4.out.row k hh.symm; omega⟩
   clear HS3 HB3 HS4 HB4 HIB
   go_loopg [22] L.length (fun kq v22 wr => ∃ (j : Nat) (g1 : Bool) (st1 : σ) (C1 : Nat → Prop) (v1 : Value), v22 = .int .i64 j ∧ Aside0 (j ≤ L.length ∧ L.length - j ≤ kq) ∧ Aside0 (loopF (fun st g ws set => wordsW all F D k st g ws set) ws set (L.drop j) st1 g1 = some r) ∧ Aside0 (WdS I wb wr C1 gs gd gw gg gf gn bf n A c l (.func (.func fd) #[] cd) F g1 v1 v1 ws st1) ∧ Aside0 (Kept W5 wr (fun k => C k ∨ k = gw ∨ k = gg ∨ some k = (Value.slice Av ws.length cv).ownBlock)) ∧ Aside0 (∀ k, C1 k → C k ∨ W5.heap.size ≤ k) ∧ Aside0 (v1.ownBlock = (Value.slice Av ws.length cv).ownBlock ∨ ∃ b, v1.ownBlock = some b ∧ W5.heap.size ≤ b))
   case atStart => exact ⟨0, g, st, C, _, rfl, ⟨Nat.zero_le _, Nat.le_refl _⟩, ⟨H'.out⟩, HS5, ⟨Kept.refl _ _⟩, ⟨fun k hk => .inl hk⟩, ⟨.inl rfl⟩⟩
   case round =>
    clear H' HS5 HS
    obtain ⟨j, g1, st1, C1, v1, rfl, hj, HA, HS, HK, HC1, HV⟩ := hrel
    obtain ⟨hjl, hgg⟩ := hj.out
    clear hj
    obtain ⟨A1, cc1, rfl⟩ := Kd.R_slice HS.out.row
    have HIR := asd (Kd.R_reads' (Kd.R_step HIT.out (fun k hk hlt => HK.out.2 k hlt (HNI.out k hk)))).2.2
    have hmx := Kd.C_max HIR.out
    by_cases hlt : j < L.length
    ·
     have hltz : (j : Int) < (L.length : Int) := by omega
     have H := HA.out
     clear HA
     rw [List.drop_eq_getElem_cons hlt, ← rd_get hlt] at H
     obtain ⟨ad, e, hcx⟩ := Kd.at_int HIR.out (j : Int) (by omega) hltz
     cases e
     rw [Int.toNat_natCast] at hcx
     generalize rd L (j : Int) = x at *
     unfold loopF at H
     have q4 : wr.cell? ⟨gg, 0, none⟩ = some (.bool g1) := (blk_cell HS.out.b4 0).trans rfl
     cases g1 with
     | false =>
      rw [if_neg (by decide)] at H
      obtain rfl := Option.some.inj H
      clear H
      go_wp2
      ((try simp only [Exit.inBlock, Exit.then]); first | refine bodyPost_ret (results_none rfl _ _ _) rfl ?_ | refine bodyPost_end (results_none rfl _ _ _) rfl ?_)
      refine ⟨rfl, C1, _, HS.out, (Kept.of_below HB5.out _).then_ HK.out (fun _ hk => .inl hk), fun k hk => ?_, ?_⟩
      ·
       rcases HC1.out k hk with h1 | h1
       ·
        exact .inl h1
       ·
        exact .inr (Nat.le_trans HB5.out.size h1)
      ·
       rcases HV.out with h1 | ⟨b, h1, h2⟩
       ·
        exact .inl h1
       ·
        exact .inr ⟨b, h1, Nat.le_trans HB5.out.size h2⟩
     | true =>
      rw [if_pos rfl] at H
      by_cases hx : 0 ≤ x ∧ ws.length < 17592186044416
      ·
       rw [if_pos hx] at H
       obtain ⟨hx0, hwl⟩ := hx
       obtain ⟨r1, hrec, H⟩ := Option.bind_eq_some_iff.1 H
       have HREC := asd hrec
       have HH := asd H
       have HWL := asd hwl
       have hx0b : decide (0 ≤ x) = true := decide_eq_true hx0
       obtain ⟨ws2, hws2⟩ : ∃ y, y = ws ++ [x] := ⟨_, rfl⟩
       have HN : Aside0 (ws2.length = ws.length + 1) := ⟨by rw [hws2, List.length_append, List.length_singleton]⟩
       have HTK : Aside0 (ws2.take ws.length = ws) := ⟨by rw [hws2, List.take_left' rfl]⟩
       have HW2 := asd hws2
       obtain ⟨sx, hsx⟩ : ∃ y, y = shl .i64 1 x := ⟨_, rfl⟩
       have sA : IntKind.i64.wrap (1 * 2 ^ min x.toNat 64) = sx := hsx.symm
       have sB : IntKind.i64.wrap (2 ^ min x.toNat 64) = sx := by rw [← sA, Int.one_mul]
       have sC : wrap64 (1 * 2 ^ min x.toNat 64) = sx := (i64_w _).symm.trans sA
       have sD : wrap64 (2 ^ min x.toNat 64) = sx := (i64_w _).symm.trans sB
       have HREC : Aside0 (wordsW all F D k st1 true ws2 (Go.bits .or .i64 set sx) = some r1) := ⟨by rw [HW2.out, hsx]; exact HREC.out⟩
       clear hsx
       clear H hrec hwl hws2
       have q5 : wr.cell? ⟨gw, 0, none⟩ = some (.slice A1 ws.length cc1) := (blk_cell HS.out.b3 0).trans rfl
       have f5 := blk_frozen HS.out.b3 0
       go_wp2_with (first | ((with_reducible refine gate_builtin (b := .append) (xs := #[.tmp 28, .tmp 30]) rfl ?_); at_builtin; refine Kd.R_append (Kd.int .i64) (w0 := wb) wb.heap.size rfl (.tmp 28) (.tmp 30) 22 3 (.int .i64 0) 8 rfl Try.underlying22 info3 rfl (by decide) (by omega) (.slice A1 ws.length cc1) ws x [.int .i64 x] (fun k => ¬ C1 k) (fun _ => False) rfl rfl ?aP (fun _ hk => hk.elim) ?aF ?aO ?aB ?aS ?aL ?_; (case aP => exact rfl); (case aB => exact below_step HS.out.bel (by repeat (first | exact Below.refl _ _ | apply below_alloc | apply pw_below_drewN | apply below_drew1))); (case aF => exact (fun k hk hc => by have h1 := HD.out.bound _ _ _ HS.out.inv k hc; have h2 : wr.heap.size ≤ _ := (show Below wr.heap.size wr _ from by repeat (first | exact Below.refl _ _ | apply below_alloc | apply pw_below_drewN | apply below_drew1)).size; exact absurd (Nat.lt_of_lt_of_le h1 (Nat.le_trans h2 hk)) (Nat.lt_irrefl _))); (case aO => exact (upR <| HS.out.row)); (case aS => exact below_size (below_step HS.out.bel (by repeat (first | exact Below.refl _ _ | apply below_alloc | apply pw_below_drewN | apply below_drew1)))); (case aL => have := HWL.out; omega); intro v2 w12 ho hb hg hat; rw [← HW2.out] at ho; obtain ⟨A2, cc2, e2⟩ := Kd.R_slice ho; subst e2; have HB6 := asd (show Below wr.heap.size wr _ from by repeat (first | exact Below.refl _ _ | apply below_alloc | apply pw_below_drewN | apply below_drew1)); have HS2 := asd ((HS.out.below HD.out HB6.out).grown HD.out hb hg ho); have HG := asd hg; have HAT := asd hat; clear q5 f5 q4; have q5 : w12.cell? ⟨gw, 0, none⟩ = some (.slice A1 ws.length cc1) := (blk_cell HS2.out.b3 0).trans rfl; have f5 := blk_frozen HS2.out.b3 0; clear ho hb hg hat))
       have HS3 := asd (HS2.out.setW HD.out (.slice A2 ws2.length cc2))
       have HK6 := asd ((Kept.of_grown HG.out (Kept.of_below HB6.out (fun k => C1 k ∨ k = gw ∨ k = gg ∨ some k = (Value.slice A1 ws.length cc1).ownBlock)) (fun k hk => .inl (.inr (.inr (.inr hk.symm))))).setCell (p := ⟨gw, 0, none⟩) (.inl (.inr (.inl rfl))) (.slice A2 ws2.length cc2))
       have HAT : Aside0 ((Value.slice A2 ws2.length cc2).ownBlock = (Value.slice A1 ws.length cc1).ownBlock ∨ ∃ b, (Value.slice A2 ws2.length cc2).ownBlock = some b ∧ wr.heap.size ≤ b) := ⟨HAT.out.imp id (fun ⟨b, h1, h2⟩ => ⟨b, h1, Nat.le_trans HB6.out.size h2⟩)⟩
       clear HS2 HG HB6 q5 f5
       generalize World.setCell w12 ⟨gw, 0, none⟩ (.slice A2 ws2.length cc2) = W13 at *
       have q6 : W13.cell? ⟨gn, 0, none⟩ = some (.func (.func 111) #[] #[.pointer (some ⟨gs, 0, none⟩), .pointer (some ⟨gd, 0, none⟩), .pointer (some ⟨gw, 0, none⟩), .pointer (some ⟨gg, 0, none⟩), .pointer (some ⟨gf, 0, none⟩), .pointer (some ⟨gn, 0, none⟩)]) := (blk_cell HS3.out.b6 0).trans rfl
       go_still_tail 5, (by kernel_rfl)
       change wpList _ _ _ _ _ W13.drew
       have HS4 : Aside0 (WdS I wb W13.drew C1 gs gd gw gg gf gn bf n A c l (.func (.func fd) #[] cd) F true (.slice A2 ws2.length cc2) (.slice A2 ws2.length cc2) ws2 st1) := ⟨HS3.out.below HD.out (below_drew (Below.refl _ _))⟩
       have HK7 : Aside0 (Kept wr W13.drew (fun k => C1 k ∨ k = gw ∨ k = gg ∨ some k = (Value.slice A1 ws.length cc1).ownBlock)) := ⟨HK6.out.drew⟩
       clear HS3 HK6
       generalize World.drew W13 = W14 at *
       go_wp2_with (go_at_call 111; (refine (IH.out st1 true ws2 _ r1 C1 _ _ HS4.out HREC.out).mono ?_); rintro e W15 ⟨rfl, C2, v3, hS5, hK5, hC5, hv5⟩; obtain ⟨A3, cc3, e3⟩ := Kd.R_slice hS5.row; subst e3; have HS5 := asd hS5; have HK5 := asd hK5; have HC5 := asd hC5; have HV5 := asd hv5; have q7 : W15.cell? ⟨gw, 0, none⟩ = some (.slice A3 ws2.length cc3) := (blk_cell hS5.b3 0).trans rfl; have f7 := blk_frozen hS5.b3 0; have hJ : IntKind.i64.wrap ((ws2.length : Int) - 1) = (ws.length : Int) := (i64_w _).trans (by rw [wrap_in (by have := HN.out; have := HWL.out; omega) (by have := HN.out; have := HWL.out; omega)]; have := HN.out; omega); obtain ⟨i0, hi0, _, hsz, _⟩ := info_parts info3; have hcut := cut_to (P := Try.prog) 22 3 .i64 Try.underlying22 hi0 A3 ws2.length cc3 (ws.length : Int) (by omega) (by have := HN.out; omega) (Kd.R_reads' hS5.row).2.1; rw [Int.toNat_natCast] at hcut; clear hS5 hK5 hC5 hv5 hi0 hsz)
       go_roundg (L.length - (j + 1))
       case measure => omega
       case rel =>
        have hrow := Kd.R_take (m := ws.length) HS5.out.row (by have := HN.out; omega)
        rw [HTK.out] at hrow
        refine ⟨j + 1, r1.2, r1.1, C2, .slice A3 ws.length cc3, by go_num, ⟨by omega, Nat.le_refl _⟩, ⟨HH.out⟩, ⟨(HS5.out.take hrow).setW HD.out _⟩, ⟨?_⟩, ⟨fun k hk => ?_⟩, ⟨?_⟩⟩
        ·
         refine HK.out.then_ (((HK7.out.then_ HK5.out (fun k hk => ?_)).setCell (p := ⟨gw, 0, none⟩) (.inl (.inr (.inl rfl))) _)) (fun k hk => ?_)
         ·
          rcases hk with hk | hk | hk | hk
          ·
           exact .inl (.inl hk)
          ·
           exact .inl (.inr (.inl hk))
          ·
           exact .inl (.inr (.inr (.inl hk)))
          ·
           rcases HAT.out with h1 | ⟨b, h1, h2⟩
           ·
            exact .inl (.inr (.inr (.inr (hk.trans h1))))
           ·
            rw [h1] at hk
            obtain rfl := Option.some.inj hk
            exact .inr h2
         ·
          rcases hk with hk | hk | hk | hk
          ·
           rcases HC1.out k hk with h1 | h1
           ·
            exact .inl (.inl h1)
           ·
            exact .inr h1
          ·
           exact .inl (.inr (.inl hk))
          ·
           exact .inl (.inr (.inr (.inl hk)))
          ·
           rcases HV.out with h1 | ⟨b, h1, h2⟩
           ·
            exact .inl (.inr (.inr (.inr (hk.trans h1))))
           ·
            rw [h1] at hk
            obtain rfl := Option.some.inj hk
            exact .inr h2
        ·
         rcases HC5.out k hk with h1 | h1
         ·
          exact HC1.out k h1
         ·
          exact .inr (Nat.le_trans HK.out.1 (Nat.le_trans HK7.out.1 h1))
        ·
         have hown : (Value.slice A3 ws.length cc3).ownBlock = (Value.slice A3 ws2.length cc3).ownBlock := by cases A3 <;> rfl
         rw [hown]
         rcases HV5.out with h1 | ⟨b, h1, h2⟩
         ·
          rw [h1]
          rcases HAT.out with h3 | ⟨b, h3, h4⟩
          ·
           rw [h3]
           exact HV.out
          ·
           exact .inr ⟨b, h3, Nat.le_trans HK.out.1 h4⟩
         ·
          exact .inr ⟨b, h1, Nat.le_trans HK.out.1 (Nat.le_trans HK7.out.1 h2)⟩
      ·
       rw [if_neg hx] at H
       cases H
    ·
     obtain rfl : j = L.length := by omega
     have hltz : ¬ (L.length : Int) < (L.length : Int) := by omega
     have H := HA.out
     clear HA
     rw [List.drop_of_length_le (Nat.le_refl _)] at H
     unfold loopF at H
     obtain rfl := Option.some.inj H
     clear H
     go_wp2
     ((try simp only [Exit.inBlock, Exit.then]); first | refine bodyPost_ret (results_none rfl _ _ _) rfl ?_ | refine bodyPost_end (results_none rfl _ _ _) rfl ?_)
     refine ⟨rfl, C1, _, HS.out, (Kept.of_below HB5.out _).then_ HK.out (fun _ hk => .inl hk), fun k hk => ?_, ?_⟩
     ·
      rcases HC1.out k hk with h1 | h1
      ·
       exact .inl h1
      ·
       exact .inr (Nat.le_trans HB5.out.size h1)
     ·
      rcases HV.out with h1 | ⟨b, h1, h2⟩
      ·
       exact .inl h1
      ·
       exact .inr ⟨b, h1, Nat.le_trans HB5.out.size h2⟩

end Go.Proofs.Ytkepeflplmkcmaa.Q
