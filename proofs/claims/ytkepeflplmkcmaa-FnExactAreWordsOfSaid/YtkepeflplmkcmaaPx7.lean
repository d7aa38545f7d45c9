/- Contracts of functions that the laws reach: a call returns what the plain Lean function of the same name tells. Conditions: those of each theorem. Made by gen.py, a program of this session, over the print of the translation. -/
import Derived.Test.YtkepeflplmkcmaaPx0
import Derived.Test.YtkepeflplmkcmaaPx1
import Derived.Test.YtkepeflplmkcmaaPx2
import Derived.Test.YtkepeflplmkcmaaPx3
import Derived.Test.YtkepeflplmkcmaaPx4
import Derived.Test.YtkepeflplmkcmaaPx6
namespace Go.Proofs.Ytkepeflplmkcmaa.Q
open Go.RowKit Go.Proofs.YtkepeflplmkcmaaW.PrintWords Go.Proofs.YtkepeflplmkcmaaW.PrintLast Go.Proofs.YtkepeflplmkcmaaW.PrintMore
attribute [local go_sem] max2_int min2_int max_two min_two max_three min_three max_four min_four   -- for this text's walks alone
set_option linter.unusedVariables false
set_option linter.unusedSimpArgs false

-- HAND impl_IsSpace: function 47
def impl_IsSpace.f (a0_0 : Int) (l0_1 : List Int) : Option (Bool) := some (isSpaceB a0_0 l0_1)
set_option maxHeartbeats 8000000 in
set_option maxRecDepth 100000 in
theorem impl_IsSpace.early (n : Int) (A : Option Addr) (c : Nat) (l : List Int) (w : World) (hr : Kd.C (Kd.int .i64) w A l.length l) (hn : (decide (1 ≤ n) && decide (n ≤ 7) && decide ((l.length : Int) ≤ 2 ^ n.toNat)) = false) :
  Calls Try.prog 47 #[.agg #[.int .i64 n, .slice A l.length c]] w fun e w' => e = .returned (.bool false) ∧ Below w.heap.size w w' := by
 have hu := Try.underlying28
 have HS := asd (isSize_ok n)
 have hm := Kd.C_max hr
 by_cases h1 : (decide (1 ≤ n) && decide (n ≤ 7)) = true
 ·
  rw [h1] at hn HS
  simp only [Bool.true_and, decide_eq_false_iff_not] at hn
  simp only [Bool.and_eq_true, decide_eq_true_eq] at h1
  obtain ⟨n0, n7⟩ := h1
  have hp := pow128 (n := n) (by omega) n7
  obtain ⟨j, hj⟩ : ∃ j, j = shl .i64 1 n := ⟨_, rfl⟩
  have hj' := shl_nat (i := n) (by omega) (by omega)
  obtain ⟨s1, s2, s3, s4, s5, s6, s7, s8⟩ := shl_ways hj.symm (by omega)
  have c1 : decide (j < (l.length : Int)) = true := decide_eq_true (by rw [hj, hj']; push_cast; omega)
  have c0 : (0 : Int) ≤ n := by omega
  clear hj hj' hn hp
  go_enter Try.func47, Try.ntmps47
  go_wp2_with ((with_reducible refine gate_dst (N := 1) rfl ?_); refine box_event ?hg (N := 1) ?hd (cs := #[.int .i64 n, .slice A l.length c]) (t := 28) ?hr ?_; (case hd => rfl); (case hg => rfl); (case hr => first | (go_simp; done) | (go_simp; rfl)); intro g ge W gb Wb; have HXg := asd (SpBox.mk_ ge gb Wb); have gz0 := HXg.out.c0; have gz1 := HXg.out.c1; clear ge gb Wb)
  go_quiet (first | (go_at_call 100; (with_reducible refine (impl_isSize.calls _ _ _ HS.out).mono ?_); rintro e w' ⟨rfl, ⟨nd, rfl⟩⟩; (try first | exact ⟨rfl, _, World.drewN_drewN _ _ _⟩ | exact ⟨rfl, _, Eq.trans (World.drewN_drewN _ _ _) (congrArg (World.drewN _) (Nat.add_assoc _ _ _))⟩)))
  go_wp2
  go_ret
  exact ⟨rfl, by repeat (first | exact HXg.out.bel | apply pw_below_drewN | apply below_drew1)⟩
 ·
  have h1' : (decide (1 ≤ n) && decide (n ≤ 7)) = false := by simpa using h1
  rw [h1'] at HS
  clear h1 h1' hn
  go_enter Try.func47, Try.ntmps47
  go_wp2_with ((with_reducible refine gate_dst (N := 1) rfl ?_); refine box_event ?hg (N := 1) ?hd (cs := #[.int .i64 n, .slice A l.length c]) (t := 28) ?hr ?_; (case hd => rfl); (case hg => rfl); (case hr => first | (go_simp; done) | (go_simp; rfl)); intro g ge W gb Wb; have HXg := asd (SpBox.mk_ ge gb Wb); have gz0 := HXg.out.c0; have gz1 := HXg.out.c1; clear ge gb Wb)
  go_quiet (first | (go_at_call 100; (with_reducible refine (impl_isSize.calls _ _ _ HS.out).mono ?_); rintro e w' ⟨rfl, ⟨nd, rfl⟩⟩; (try first | exact ⟨rfl, _, World.drewN_drewN _ _ _⟩ | exact ⟨rfl, _, Eq.trans (World.drewN_drewN _ _ _) (congrArg (World.drewN _) (Nat.add_assoc _ _ _))⟩)))
  go_wp2
  go_ret
  exact ⟨rfl, by repeat (first | exact HXg.out.bel | apply pw_below_drewN | apply below_drew1)⟩
/-- What the first loop has seen. -/
def risen (n : Int) (l : List Int) (k : Nat) : Bool := (List.range k).all fun (i : Nat) => okAt n l i
theorem risen_succ (n : Int) (l : List Int) (k : Nat) : risen n l (k + 1) = (risen n l k && okAt n l k) := by simp [risen, List.range_succ]
theorem risen_not {n : Int} {l : List Int} {i : Int} (h0 : 0 ≤ i) (h : i < l.length) (hb : okAt n l i = false) : risingB n l = false := by
 rw [Bool.eq_false_iff]
 intro hc
 simp only [risingB, List.all_eq_true, List.mem_range] at hc
 have := hc i.toNat (by omega)
 rw [show ((i.toNat : Nat) : Int) = i by omega, hb] at this
 cases this
set_option maxHeartbeats 8000000 in
set_option maxRecDepth 100000 in
theorem impl_IsSpace.main (n : Int) (A : Option Addr) (c : Nat) (l : List Int) (w : World) (hr : Kd.C (Kd.int .i64) w A l.length l) (hc : l.length ≤ c) (hn : (decide (1 ≤ n) && decide (n ≤ 7) && decide ((l.length : Int) ≤ 2 ^ n.toNat)) = true) :
  Calls Try.prog 47 #[.agg #[.int .i64 n, .slice A l.length c]] w fun e w' => e = .returned (.bool (isSpaceB n l)) ∧ Below w.heap.size w w' := by
 have hu := Try.underlying28
 have HS := asd (isSize_ok n)
 have hm := Kd.C_max hr
 have HR := asd hr
 have HC := asd hc
 have HE : Aside0 (isSpaceB n l = (risingB n l && (famOf l).getD 0 false && (famOf l).getD (2 ^ n.toNat - 1) false && unionsB (famOf l) l)) := ⟨by unfold isSpaceB; rw [hn]; simp⟩
 simp only [Bool.and_eq_true, decide_eq_true_eq] at hn
 obtain ⟨⟨n0, n7⟩, hlen⟩ := hn
 rw [show (decide (1 ≤ n) && decide (n ≤ 7)) = true by simp [n0, n7]] at HS
 have hp := pow128 (n := n) (by omega) n7
 obtain ⟨j, hj⟩ : ∃ j, j = shl .i64 1 n := ⟨_, rfl⟩
 have hj' := shl_nat (i := n) (by omega) (by omega)
 obtain ⟨s1, s2, s3, s4, s5, s6, s7, s8⟩ := shl_ways hj.symm (by omega)
 have c1 : decide (j < (l.length : Int)) = false := decide_eq_false (by rw [hj, hj']; push_cast; omega)
 have c0 : (0 : Int) ≤ n := by omega
 have HP := asd hp
 clear hj hj' hr hc hp hlen
 go_enter Try.func47, Try.ntmps47
 go_wp2_with ((with_reducible refine gate_dst (N := 1) rfl ?_); refine box_event ?hg (N := 1) ?hd (cs := #[.int .i64 n, .slice A l.length c]) (t := 28) ?hr ?_; (case hd => rfl); (case hg => rfl); (case hr => first | (go_simp; done) | (go_simp; rfl)); intro g ge W gb Wb; have HXg := asd (SpBox.mk_ ge gb Wb); have gz0 := HXg.out.c0; have gz1 := HXg.out.c1; clear ge gb Wb)
 go_quiet (first | (go_at_call 100; (with_reducible refine (impl_isSize.calls _ _ _ HS.out).mono ?_); rintro e w' ⟨rfl, ⟨nd, rfl⟩⟩; (try first | exact ⟨rfl, _, World.drewN_drewN _ _ _⟩ | exact ⟨rfl, _, Eq.trans (World.drewN_drewN _ _ _) (congrArg (World.drewN _) (Nat.add_assoc _ _ _))⟩)))
 go_wp2
 go_loopw [26] (fun v26 wr => ∃ i : Int, Aside0 (0 ≤ i ∧ i ≤ l.length) ∧ v26 = .int .i64 i ∧ Aside0 (risen n l i.toNat = true) ∧ Drawn0 W wr) (fun v26 _ => l.length - (intOf v26).toNat)
 case atStart => exact ⟨0, ⟨by omega⟩, rfl, ⟨rfl⟩, by repeat (first | exact Drawn0.refl _ | apply Drawn0.step)⟩
 case round =>
  obtain ⟨i, hi, rfl, hz, ⟨nd, rfl⟩⟩ := hrel
  by_cases hlt : i < l.length
  ·
   have i0 := hi.out.1
   have HT := asd (isSet_ok n (rd l i) c0 n7)
   have HN : Aside0 (risen n l (i + 1).toNat = okAt n l i) := ⟨by rw [show (i + 1).toNat = i.toNat + 1 by omega, risen_succ, hz.out, show ((i.toNat : Nat) : Int) = i by omega, Bool.true_and]⟩
   have HF : Aside0 (okAt n l i = false → isSpaceB n l = false) := ⟨fun h => by rw [HE.out, risen_not i0 hlt h]; rfl⟩
   have HO : Aside0 (okAt n l i = ((decide (0 ≤ rd l i) && decide (rd l i < 2 ^ n.toNat)) && (decide (i = 0) || decide (rd l (i - 1) < rd l i)))) := ⟨rfl⟩
   obtain ⟨ad, e, hcell⟩ := Kd.at_int (Kd.C_below HR.out HXg.out.bel) i i0 hlt
   have hcellp : 0 < i → W.cell? (ad.add (i - 1).toNat) = some (.int .i64 (rd l (i - 1))) := fun hpos => by
    obtain ⟨ad', e', hcell'⟩ := Kd.at_int (Kd.C_below HR.out HXg.out.bel) (i - 1) (by omega) (by omega)
    rw [e] at e'
    cases e'
    exact hcell'
   cases e
   generalize rd l i = x at *
   generalize rd l (i - 1) = y at *
   by_cases hin : (decide (0 ≤ x) && decide (x < 2 ^ n.toNat)) = true
   ·
    rw [hin] at HT HO
    clear hin
    by_cases hpos : 0 < i
    ·
     have hcp := hcellp hpos
     rw [show (i - 1).toNat = i.toNat - 1 by omega] at hcp
     have hi1 : (0 : Int) ≤ i - 1 := by omega
     have hi2 : i - 1 < l.length := by omega
     have b1 : decide (0 < i) = true := decide_eq_true hpos
     clear hcellp
     by_cases hyx : x ≤ y
     ·
      have HB := asd (HF.out (HO.out.trans (by simp; omega)))
      have b2 : decide (x ≤ y) = true := decide_eq_true hyx
      go_wp2_with (first | (go_at_call 101; (with_reducible refine (impl_isSet.calls _ _ _ _ HT.out).mono ?_); rintro e w' ⟨rfl, ⟨nd, rfl⟩⟩; (try first | exact ⟨rfl, _, World.drewN_drewN _ _ _⟩ | exact ⟨rfl, _, Eq.trans (World.drewN_drewN _ _ _) (congrArg (World.drewN _) (Nat.add_assoc _ _ _))⟩)))
      go_ret
      exact ⟨by rw [HB.out]; rfl, by repeat (first | exact HXg.out.bel | apply pw_below_drewN | apply below_drew1)⟩
     ·
      have HB := asd (HO.out.trans (show _ = true by simp; omega))
      have b2 : decide (x ≤ y) = false := decide_eq_false hyx
      go_wp2_with (first | (go_at_call 101; (with_reducible refine (impl_isSet.calls _ _ _ _ HT.out).mono ?_); rintro e w' ⟨rfl, ⟨nd, rfl⟩⟩; (try first | exact ⟨rfl, _, World.drewN_drewN _ _ _⟩ | exact ⟨rfl, _, Eq.trans (World.drewN_drewN _ _ _) (congrArg (World.drewN _) (Nat.add_assoc _ _ _))⟩)))
      go_roundw
      case rel => exact ⟨i + 1, ⟨by omega⟩, by first | rfl | go_num, ⟨by rw [HN.out, HB.out]⟩, by repeat (first | exact Drawn0.refl _ | apply Drawn0.step)⟩
      case measure => simp [intOf]; omega
    ·
     have hi0 : i = 0 := by have := hi.out; omega
     have HB := asd (HO.out.trans (show _ = true by simp [hi0]))
     have b1 : decide (0 < i) = false := decide_eq_false hpos
     clear hcellp hi0
     go_wp2_with (first | (go_at_call 101; (with_reducible refine (impl_isSet.calls _ _ _ _ HT.out).mono ?_); rintro e w' ⟨rfl, ⟨nd, rfl⟩⟩; (try first | exact ⟨rfl, _, World.drewN_drewN _ _ _⟩ | exact ⟨rfl, _, Eq.trans (World.drewN_drewN _ _ _) (congrArg (World.drewN _) (Nat.add_assoc _ _ _))⟩)))
     go_roundw
     case rel => exact ⟨i + 1, ⟨by omega⟩, by first | rfl | go_num, ⟨by rw [HN.out, HB.out]⟩, by repeat (first | exact Drawn0.refl _ | apply Drawn0.step)⟩
     case measure => simp [intOf]; omega
   ·
    have hin' : (decide (0 ≤ x) && decide (x < 2 ^ n.toNat)) = false := by simpa using hin
    rw [hin'] at HT HO
    have HB := asd (HF.out (HO.out.trans rfl))
    clear hin hin' hcellp
    go_wp2_with (first | (go_at_call 101; (with_reducible refine (impl_isSet.calls _ _ _ _ HT.out).mono ?_); rintro e w' ⟨rfl, ⟨nd, rfl⟩⟩; (try first | exact ⟨rfl, _, World.drewN_drewN _ _ _⟩ | exact ⟨rfl, _, Eq.trans (World.drewN_drewN _ _ _) (congrArg (World.drewN _) (Nat.add_assoc _ _ _))⟩)))
    go_ret
    exact ⟨by rw [HB.out]; rfl, by repeat (first | exact HXg.out.bel | apply pw_below_drewN | apply below_drew1)⟩
  ·
   have HA : Aside0 (risingB n l = true) := ⟨by have := hz.out; rwa [show i.toNat = l.length by have := hi.out; omega] at this⟩
   have HI := asd (show i = l.length by have := hi.out; omega)
   clear hz
   have HM : Aside0 (∀ x ∈ l, 0 ≤ x ∧ x < 128) := ⟨fun x hx => by have := risingB_mem HA.out hx; have := HP.out; omega⟩
   go_wp2_with (first | (go_at_call 102; (with_reducible refine (impl_Space_family.walk n _ _ l _ (Kd.C_drewN (Kd.C_below HR.out HXg.out.bel) _) HC.out HM.out).mono ?_); rintro e W2 ⟨b, rfl, HF, hbg, hbel⟩; have HX2 := asd (HXg.out.next ((pw_below_drewN (Below.refl _ _) _).trans (hbel.mono (Nat.le_refl _)))); have HF := asd HF; have k0 := HX2.out.c0; have k1 := HX2.out.c1; clear hbg hbel))
   have f0 := HF.out.at_ 0 (by decide) (by decide)
   rw [show (0 : Int).toNat = 0 from rfl] at f0
   obtain ⟨v0, hv0⟩ : ∃ v, v = (famOf l).getD 0 false := ⟨_, rfl⟩
   rw [← hv0] at f0
   have HV0 := asd hv0
   clear hv0
   cases v0
   ·
    have HB : Aside0 (isSpaceB n l = false) := ⟨by rw [HE.out, HA.out, ← HV0.out]; rfl⟩
    go_quiet (fail)
    go_wp2
    go_ret
    exact ⟨by rw [HB.out]; rfl, by repeat (first | exact HX2.out.bel | apply pw_below_drewN | apply below_drew1)⟩
   ·
    have HAL := asd (all_ok n l c0 n7)
    obtain ⟨m, hm2⟩ : ∃ m : Int, m = 2 ^ n.toNat - 1 := ⟨_, rfl⟩
    have m0 : 0 ≤ m := by have := HP.out; omega
    have m1 : m < 128 := by have := HP.out; omega
    have f1 := HF.out.at_ m m0 m1
    rw [← hm2] at HAL
    obtain ⟨v1, hv1⟩ : ∃ v, v = (famOf l).getD m.toNat false := ⟨_, rfl⟩
    rw [← hv1] at f1
    have HV1 := asd hv1
    have HM2 := asd hm2
    clear hv1 hm2
    have HK : Aside0 (∀ w', Below W2.heap.size W2 w' → Aside0 (Below W2.heap.size W2 w') ∧ w'.cell? ⟨g, 0, none⟩ = some (.int .i64 n) ∧ w'.cell? ⟨g, 1, none⟩ = some (.slice A l.length c) ∧ w'.cell? ⟨b, 0, none⟩ = some (.bool true) ∧ w'.cell? ⟨b, m.toNat, none⟩ = some (.bool v1)) :=
     ⟨fun w' hb => ⟨⟨hb⟩, pw_cell_below hb k0, pw_cell_below hb k1, pw_cell_below hb f0, pw_cell_below hb f1⟩⟩
    go_region_held3 (fun w' => Aside0 (Below W2.heap.size W2 w') ∧ w'.cell? ⟨g, 0, none⟩ = some (.int .i64 n) ∧ w'.cell? ⟨g, 1, none⟩ = some (.slice A l.length c) ∧ w'.cell? ⟨b, 0, none⟩ = some (.bool true) ∧ w'.cell? ⟨b, m.toNat, none⟩ = some (.bool v1)) (first | exact HK.out _ (below_drew1 (Below.refl _ _)) | exact HK.out _ (below_step (‹Aside0 (Below W2.heap.size W2 _) ∧ _›).1.out (by assumption))) (first | (go_at_call 103; (with_reducible refine (impl_Space_all.calls n _ _ l m _ ?sa ?sb HAL.out).mono ?_); (case sa => exact Kd.C_below (Kd.C_below HR.out HX2.out.bel) (‹Aside0 (Below W2.heap.size W2 _) ∧ _›).1.out); (case sb => exact HC.out); rintro e W3 ⟨rfl, hb3⟩))
    have HB3 := (‹Aside0 (Below W2.heap.size W2 _) ∧ _›).1
    have HX3 := asd (HX2.out.next HB3.out)
    have HF3 := asd (HF.out.below HB3.out)
    have q0 := HX3.out.c0
    have q1 := HX3.out.c1
    clear HK hb3 k0 k1 f0 f1
    cases v1
    ·
     have HB : Aside0 (isSpaceB n l = false) := ⟨by rw [HE.out, HA.out, ← HV0.out, toNat_pow HM2.out, ← HV1.out]; rfl⟩
     go_wp2
     go_ret
     exact ⟨by rw [HB.out]; rfl, HX3.out.bel⟩
    ·
     have HG : Aside0 (isSpaceB n l = unionsB (famOf l) l) := ⟨by rw [HE.out, HA.out, ← HV0.out, toNat_pow HM2.out, ← HV1.out]; rfl⟩
     clear HE HV0 HV1 HM2 m0 m1 HAL HS HX2 HF HXg gz0 gz1 s1 s2 s3 s4 s5 s6 s7 s8 HB3
     go_wp2
     go_loopw [70] (fun v70 wr => ∃ i : Int, Aside0 (0 ≤ i ∧ i ≤ l.length) ∧ v70 = .int .i64 i ∧ Aside0 (allTo (unionItem (famOf l) l) l i = true) ∧ Aside0 (Below W3.heap.size W3 wr)) (fun v70 _ => l.length - (intOf v70).toNat)
     case atStart => exact ⟨0, ⟨by omega⟩, rfl, ⟨rfl⟩, ⟨by repeat (first | exact Below.refl _ _ | apply pw_below_drewN | apply below_drew1)⟩⟩
     case round =>
      obtain ⟨k, hk, rfl, hz, HBr⟩ := hrel
      by_cases hlt : k < l.length
      ·
       have k0 := hk.out.1
       have HZ := asd (allTo_succ (unionItem (famOf l) l) l k k0 hlt)
       have HMEM := asd (rd_mem k0 hlt)
       have HNOT : Aside0 (unionItem (famOf l) l (rd l k) = false → isSpaceB n l = false) := ⟨fun h => HG.out.trans (all_not HMEM.out h)⟩
       have hx := HM.out _ HMEM.out
       have HRA := asd (Kd.C_below (Kd.C_below HR.out HX3.out.bel) HBr.out)
       have HXr := asd (HX3.out.next HBr.out)
       have HFr := asd (HF3.out.below HBr.out)
       obtain ⟨ad, e, hcell⟩ := Kd.at_int HRA.out k k0 hlt
       cases e
       clear q0 q1
       have q0 := HXr.out.c0
       have q1 := HXr.out.c1
       have hUI : unionItem (famOf l) l (rd l k) = ((decide (rd l k = 0) || !decide (innerF (famOf l) (rd l k).toNat = 0)) && unionRow (famOf l) l (rd l k)) := rfl
       generalize rd l k = x at *
       have HUI := asd hUI
       clear hUI
       obtain ⟨x0, x1⟩ := hx
       by_cases hx0 : x = 0
       ·
        have bx1 : (x == 0) = true := by simpa using hx0
        have bx2 : (x != 0) = false := by simpa using hx0
        have HX0 := asd hx0
        clear hx0
        go_wp2
        go_loopw [85] (fun v85 w5 => ∃ i : Int, Aside0 (0 ≤ i ∧ i ≤ l.length) ∧ v85 = .int .i64 i ∧ Aside0 (allTo (fun y => (famOf l).getD (x.toNat ||| y.toNat) false) l i = true) ∧ Drawn0 wr w5) (fun v85 _ => l.length - (intOf v85).toNat)
        case atStart => exact ⟨0, ⟨by omega⟩, rfl, ⟨rfl⟩, by repeat (first | exact Drawn0.refl _ | apply Drawn0.step)⟩
        case round =>
         obtain ⟨i, hi, rfl, hz5, ⟨nd5, rfl⟩⟩ := hrel
         by_cases hlt5 : i < l.length
         ·
          have i0 := hi.out.1
          have HZ5 := asd (allTo_succ (fun y => (famOf l).getD (x.toNat ||| y.toNat) false) l i i0 hlt5)
          have HMEM5 := asd (rd_mem i0 hlt5)
          have HNOT5 : Aside0 ((famOf l).getD (x.toNat ||| (rd l i).toNat) false = false → isSpaceB n l = false) := ⟨fun h => HNOT.out (HUI.out.trans (by rw [show unionRow (famOf l) l x = false from all_not HMEM5.out h, Bool.and_false]))⟩
          have hy := HM.out _ HMEM5.out
          obtain ⟨ad5, e5, hcell5⟩ := Kd.at_int HRA.out i i0 hlt5
          cases e5
          have hbo := bits_or x.toNat (rd l i).toNat (by omega) (by omega)
          have hbl : x.toNat ||| (rd l i).toNat < 128 := Nat.or_lt_two_pow (n := 7) (by omega) (by omega)
          rw [show ((x.toNat : Nat) : Int) = x by omega, show (((rd l i).toNat : Nat) : Int) = rd l i by omega] at hbo
          generalize rd l i = y at *
          obtain ⟨z, hz⟩ : ∃ z : Int, z = ((x.toNat ||| y.toNat : Nat) : Int) := ⟨_, rfl⟩
          have z0 : 0 ≤ z := by omega
          have z1 : z < 128 := by omega
          have hzn : x.toNat ||| y.toNat = z.toNat := by omega
          rw [← hz] at hbo
          rw [hzn] at HZ5 HNOT5
          clear hz hzn hbl hy
          have hfc := HFr.out.at_ z z0 z1
          obtain ⟨v, hv⟩ : ∃ v, v = (famOf l).getD z.toNat false := ⟨_, rfl⟩
          rw [← hv] at hfc HZ5 HNOT5
          clear hv
          cases v
          ·
           have HB := asd (HNOT5.out rfl)
           go_wp2
           go_ret
           exact ⟨by rw [HB.out]; rfl, by repeat (first | exact HXr.out.bel | apply pw_below_drewN | apply below_drew1)⟩
          ·
           go_wp2
           go_roundw
           case rel => exact ⟨i + 1, ⟨by omega⟩, by first | rfl | go_num, ⟨by rw [HZ5.out, hz5.out]; rfl⟩, by repeat (first | exact Drawn0.refl _ | apply Drawn0.step)⟩
           case measure => simp [intOf]; omega
         ·
          have HROW : Aside0 (unionRow (famOf l) l x = true) := ⟨by have := hz5.out; rw [allTo_end _ _ _ (by have := hi.out; omega)] at this; exact this⟩
          have HDONE : Aside0 (unionItem (famOf l) l x = true) := ⟨HUI.out.trans (by rw [HROW.out]; simp [HX0.out])⟩
          clear hz5
          go_wp2
          go_roundw
          case rel => exact ⟨k + 1, ⟨by omega⟩, by first | rfl | go_num, ⟨by rw [HZ.out, hz.out, HDONE.out]; rfl⟩, ⟨by repeat (first | exact HBr.out | apply pw_below_drewN | apply below_drew1)⟩⟩
          case measure => simp [intOf]; omega
       ·
        have bx1 : (x == 0) = false := by simpa using hx0
        have bx2 : (x != 0) = true := by simpa using hx0
        by_cases hin : innerF (famOf l) x.toNat = 0
        ·
         have HB := asd (HNOT.out (HUI.out.trans (by simp [hx0, hin])))
         have bi : (((innerF (famOf l) x.toNat : Nat) : Int) == 0) = true := by simp [hin]
         clear hin hx0
         go_wp2_with (first | (go_at_call 104; (with_reducible refine (impl_family_inner.walk b (famOf l) x _ HFr.out x0 x1).mono ?_); rintro e W4 ⟨rfl, hb4⟩))
         go_ret
         exact ⟨by rw [HB.out]; rfl, by repeat (first | exact (HXr.out.next hb4).bel | apply pw_below_drewN | apply below_drew1)⟩
        ·
         have bi : (((innerF (famOf l) x.toNat : Nat) : Int) == 0) = false := by simpa using hin
         go_wp2_with (first | (go_at_call 104; (with_reducible refine (impl_family_inner.walk b (famOf l) x _ HFr.out x0 x1).mono ?_); rintro e W4 ⟨rfl, hb4⟩; have HB4 := asd hb4; clear hb4 q0 q1; have HX4 := asd (HXr.out.next HB4.out); have q0 := HX4.out.c0; have q1 := HX4.out.c1))
         have HR4 := asd (Kd.C_below HRA.out HB4.out)
         have HF4 := asd (HFr.out.below HB4.out)
         have HIN := asd hin
         clear hin hx0
         go_loopw [85] (fun v85 w5 => ∃ i : Int, Aside0 (0 ≤ i ∧ i ≤ l.length) ∧ v85 = .int .i64 i ∧ Aside0 (allTo (fun y => (famOf l).getD (x.toNat ||| y.toNat) false) l i = true) ∧ Drawn0 W4 w5) (fun v85 _ => l.length - (intOf v85).toNat)
         case atStart => exact ⟨0, ⟨by omega⟩, rfl, ⟨rfl⟩, by repeat (first | exact Drawn0.refl _ | apply Drawn0.step)⟩
         case round =>
          obtain ⟨i, hi, rfl, hz5, ⟨nd5, rfl⟩⟩ := hrel
          by_cases hlt5 : i < l.length
          ·
           have i0 := hi.out.1
           have HZ5 := asd (allTo_succ (fun y => (famOf l).getD (x.toNat ||| y.toNat) false) l i i0 hlt5)
           have HMEM5 := asd (rd_mem i0 hlt5)
           have HNOT5 : Aside0 ((famOf l).getD (x.toNat ||| (rd l i).toNat) false = false → isSpaceB n l = false) := ⟨fun h => HNOT.out (HUI.out.trans (by rw [show unionRow (famOf l) l x = false from all_not HMEM5.out h, Bool.and_false]))⟩
           have hy := HM.out _ HMEM5.out
           obtain ⟨ad5, e5, hcell5⟩ := Kd.at_int HR4.out i i0 hlt5
           cases e5
           have hbo := bits_or x.toNat (rd l i).toNat (by omega) (by omega)
           have hbl : x.toNat ||| (rd l i).toNat < 128 := Nat.or_lt_two_pow (n := 7) (by omega) (by omega)
           rw [show ((x.toNat : Nat) : Int) = x by omega, show (((rd l i).toNat : Nat) : Int) = rd l i by omega] at hbo
           generalize rd l i = y at *
           obtain ⟨z, hz⟩ : ∃ z : Int, z = ((x.toNat ||| y.toNat : Nat) : Int) := ⟨_, rfl⟩
           have z0 : 0 ≤ z := by omega
           have z1 : z < 128 := by omega
           have hzn : x.toNat ||| y.toNat = z.toNat := by omega
           rw [← hz] at hbo
           rw [hzn] at HZ5 HNOT5
           clear hz hzn hbl hy
           have hfc := HF4.out.at_ z z0 z1
           obtain ⟨v, hv⟩ : ∃ v, v = (famOf l).getD z.toNat false := ⟨_, rfl⟩
           rw [← hv] at hfc HZ5 HNOT5
           clear hv
           cases v
           ·
            have HB := asd (HNOT5.out rfl)
            go_wp2
            go_ret
            exact ⟨by rw [HB.out]; rfl, by repeat (first | exact HX4.out.bel | apply pw_below_drewN | apply below_drew1)⟩
           ·
            go_wp2
            go_roundw
            case rel => exact ⟨i + 1, ⟨by omega⟩, by first | rfl | go_num, ⟨by rw [HZ5.out, hz5.out]; rfl⟩, by repeat (first | exact Drawn0.refl _ | apply Drawn0.step)⟩
            case measure => simp [intOf]; omega
          ·
           have HROW : Aside0 (unionRow (famOf l) l x = true) := ⟨by have := hz5.out; rw [allTo_end _ _ _ (by have := hi.out; omega)] at this; exact this⟩
           have HDONE : Aside0 (unionItem (famOf l) l x = true) := ⟨HUI.out.trans (by rw [HROW.out]; simp [HIN.out])⟩
           clear hz5
           go_wp2
           go_roundw
           case rel =>
            ((repeat apply Exists.intro); exact ⟨⟨k + 1, ⟨by omega⟩, by first | rfl | go_num, ⟨by rw [HZ.out, hz.out, HDONE.out]; rfl⟩, ⟨by repeat (first | exact (below_step HBr.out HB4.out) | apply pw_below_drewN | apply below_drew1)⟩⟩, rfl, rfl, rfl, rfl⟩)
           case measure => simp [intOf]; omega
      ·
       have HB : Aside0 (isSpaceB n l = true) := ⟨by have := hz.out; rw [allTo_end _ _ _ (by have := hk.out; omega)] at this; exact HG.out.trans this⟩
       clear hz
       go_wp2
       go_ret
       exact ⟨by rw [HB.out]; rfl, by repeat (first | exact (HX3.out.next HBr.out).bel | apply pw_below_drewN | apply below_drew1)⟩

theorem impl_IsSpace.calls (a0_0 : Int) (A0_1 : Option Addr) (c0_1 : Nat) (l0_1 : List Int) (r : Bool) (w : World) (hr0_1 : Kd.C (Kd.int .i64) w A0_1 l0_1.length l0_1) (hc0_1 : l0_1.length ≤ c0_1) (h : impl_IsSpace.f a0_0 l0_1 = some r) :
  Calls Try.prog 47 #[.agg #[.int .i64 a0_0, .slice A0_1 l0_1.length c0_1]] w fun e w' => e = .returned (.bool r) ∧ Below w.heap.size w w' := by
 obtain rfl := Option.some.inj h
 by_cases hn : (decide (1 ≤ a0_0) && decide (a0_0 ≤ 7) && decide ((l0_1.length : Int) ≤ 2 ^ a0_0.toNat)) = true
 ·
  exact impl_IsSpace.main a0_0 A0_1 c0_1 l0_1 w hr0_1 hc0_1 hn
 ·
  have hn' : (decide (1 ≤ a0_0) && decide (a0_0 ≤ 7) && decide ((l0_1.length : Int) ≤ 2 ^ a0_0.toNat)) = false := by simpa using hn
  rw [show isSpaceB a0_0 l0_1 = false by unfold isSpaceB; rw [hn']; rfl]
  exact impl_IsSpace.early a0_0 A0_1 c0_1 l0_1 w hr0_1 hn'

/-! ### impl_Space_setOf: function 112 -/
def impl_Space_setOf.l0 : Nat → List Bool → Int → List Int → Int → Int → Int → List Int → Option (Int × Bool)
 | 0, _, _, _, _, _, _, _ => none
 | k + 1, x6, x7, x12, x13, x14, x102000, x102001 => if x14 < x13 then (if 0 ≤ x14 then (if x14 < (x12.length : Int) then ((impl_within.f (rd x12 x14) 0 (wrap64 (x102000 - 1))).bind fun t106 => (if t106 = true then (if 0 ≤ (rd x12 x14) then (if (Go.bits .and .i64 (shr .i64 x7 (rd x12 x14)) 1) = 1 then (some (0, false)) else (if 0 ≤ (Go.bits .or .i64 x7 (shl .i64 1 (rd x12 x14))) then (if (Go.bits .or .i64 x7 (shl .i64 1 (rd x12 x14))) < 128 then (if (rdOf false x6 (Go.bits .or .i64 x7 (shl .i64 1 (rd x12 x14))) = true) then (impl_Space_setOf.l0 k x6 (Go.bits .or .i64 x7 (shl .i64 1 (rd x12 x14))) x12 x13 (wrap64 (x14 + 1)) x102000 x102001) else (some (0, false))) else (none)) else (none))) else (none)) else (some (0, false)))) else (none)) else (none)) else (some (x7, true))
def impl_Space_setOf.f (k : Nat) (a0_0 : Int) (l0_1 : List Int) (l1 : List Int) : Option (Int × Bool) := (impl_Space_family.f a0_0 l0_1).bind fun t102 => (impl_Space_setOf.l0 k t102 0 l1 (l1.length : Int) 0 a0_0 l0_1)
theorem impl_Space_setOf.mono_l : ∀ k, (∀ y0 y1 y2 y3 y4 y5 y6, LeO (impl_Space_setOf.l0 k y0 y1 y2 y3 y4 y5 y6) (impl_Space_setOf.l0 (k + 1) y0 y1 y2 y3 y4 y5 y6))
 | 0 => fun _ _ _ _ _ _ _ r h => by simp [impl_Space_setOf.l0] at h
 | k + 1 => by
  have ih0 := impl_Space_setOf.mono_l k
  ·
   intro y0 y1 y2 y3 y4 y5 y6
   unfold impl_Space_setOf.l0
   repeat' first
   | (with_reducible exact ih0 _ _ _ _ _ _ _)
   | (with_reducible exact LeO.refl _)
   | (with_reducible exact LeO.none _)
   | (with_reducible refine LeO.ite ?_ ?_)
   | (with_reducible refine LeO.bind ?_ (fun _ => ?_))
   | exact ih0 _ _ _ _ _ _ _
   | exact LeO.none _
   | refine LeO.ite ?_ ?_
   | refine LeO.bind ?_ (fun _ => ?_)
theorem impl_Space_setOf.mono : ∀ a0 a1 a2 k, LeO (impl_Space_setOf.f k a0 a1 a2) (impl_Space_setOf.f (k + 1) a0 a1 a2) := by
 intro a0 a1 a2 k
 have ih0 := impl_Space_setOf.mono_l k
 unfold impl_Space_setOf.f
 repeat' first
   | (with_reducible exact ih0 _ _ _ _ _ _ _)
   | (with_reducible exact LeO.refl _)
   | (with_reducible exact LeO.none _)
   | (with_reducible refine LeO.ite ?_ ?_)
   | (with_reducible refine LeO.bind ?_ (fun _ => ?_))
   | exact ih0 _ _ _ _ _ _ _
   | exact LeO.none _
   | refine LeO.ite ?_ ?_
   | refine LeO.bind ?_ (fun _ => ?_)
set_option maxHeartbeats 8000000 in
set_option maxRecDepth 100000 in
theorem impl_Space_setOf.calls (k : Nat) (a0_0 : Int) (A0_1 : Option Addr) (c0_1 : Nat) (l0_1 : List Int) (A1 : Option Addr) (c1 : Nat) (l1 : List Int) (r1 : Int) (r2 : Bool) (w : World) (hr0_1 : Kd.C (Kd.int .i64) w A0_1 l0_1.length l0_1) (hc0_1 : l0_1.length ≤ c0_1) (hr1 : Kd.C (Kd.int .i64) w A1 l1.length l1) (hc1 : l1.length ≤ c1) (h : impl_Space_setOf.f k a0_0 l0_1 l1 = some (r1, r2)) :
  Calls Try.prog 112 #[.agg #[.int .i64 a0_0, .slice A0_1 l0_1.length c0_1], .slice A1 l1.length c1] w fun e w' => e = .returned (.tuple #[.int .i64 r1, .bool r2]) ∧ Below w.heap.size w w' := by
 have hu28 := Try.underlying28
 have HR0_1 := asd hr0_1
 have HC0_1 := asd hc0_1
 clear hr0_1 hc0_1
 have HR1 := asd hr1
 have HC1 := asd hc1
 clear hr1 hc1
 have HB := asd (Below.refl w.heap.size w)
 have H : ((impl_Space_family.f a0_0 l0_1).bind fun t102 => (impl_Space_setOf.l0 k t102 0 l1 (l1.length : Int) 0 a0_0 l0_1)) = some (r1, r2) := h
 clear h
 replace H := Option.bind_eq_some_iff.mp H
 obtain ⟨t102, A30, H⟩ := H
 replace H : (impl_Space_setOf.l0 k t102 0 l1 (l1.length : Int) 0 a0_0 l0_1) = some (r1, r2) := H
 have A3 := asd A30
 clear A30
 have HLt102 := asd (impl_Space_family.len A3.out)
 have H' := asd H
 clear H
 go_enter Try.func112, Try.ntmps112
 go_wp2_with (first | ((with_reducible refine gate_dst (N := 2) rfl ?_); refine box_event ?hg (N := 2) ?hd (cs := #[.int .i64 a0_0, .slice A0_1 l0_1.length c0_1]) (t := 28) ?hr ?_; (case hd => rfl); (case hg => rfl); (case hr => first | (go_simp; done) | (go_simp; rfl)); intro gb101 hg w4 hbox hb; have n0_ := asd (below_step (by repeat (first | (with_reducible first | exact HB.out | apply below_alloc | apply pw_below_drewN | apply below_drew1) | exact HB.out)) hb); have n1_ := asd (hbox); have n2_ := asd ((by rw [hg]; exact (below_size (by repeat (first | (with_reducible first | exact HB.out | apply below_alloc | apply pw_below_drewN | apply below_drew1) | exact HB.out))) : w.heap.size ≤ gb101)); have n3_ := asd ((by rw [hg]; exact (below_size (by repeat (first | (with_reducible first | exact HB.out | apply below_alloc | apply pw_below_drewN | apply below_drew1) | exact HB.out))) : w.heap.size ≤ gb101)); clear HB; have HB := n0_; have BK101 := n1_; have GW101 := n2_; have GE101 := n3_; clear n0_ n1_ n2_ n3_; clear hb hbox hg; have hcz5_0 : w4.cell? ⟨gb101, 0, none⟩ = some (.int .i64 a0_0) := (blk_cell BK101.out 0).trans rfl; have hcz5_1 : w4.cell? ⟨gb101, 1, none⟩ = some (.slice A0_1 l0_1.length c0_1) := (blk_cell BK101.out 1).trans rfl; have hfz5_0 := blk_frozen BK101.out 0; have hfz5_1 := blk_frozen BK101.out 1) | (go_at_call 102; (with_reducible refine (impl_Space_family.calls a0_0 _ _ l0_1 t102 _ ?side1 ?side2 A3.out).mono ?_); (case side1 => repeat (first | exact (Kd.C_below HR0_1.out HB.out) | (with_reducible refine Kd.C_alloc ?_ _) | (with_reducible refine Kd.C_drewN ?_ _) | (with_reducible refine Kd.C_drew ?_))); (case side2 => exact HC0_1.out); rintro e w6 ⟨v103, rfl, ho0, hb⟩; have n0_ := asd (Kd.R_lower ho0 (below_size (by repeat (first | (with_reducible first | exact HB.out | apply below_alloc | apply pw_below_drewN | apply below_drew1 | refine below_set ?_ GE101.out) | exact HB.out)))); have n1_ := asd (blk_below (upB BK101.out) hb); have n2_ := asd (below_step (by repeat (first | (with_reducible first | exact HB.out | apply below_alloc | apply pw_below_drewN | apply below_drew1 | refine below_set ?_ GE101.out) | exact HB.out)) hb); clear BK101; clear HB; have HO104 := n0_; have BK101 := n1_; have HB := n2_; clear n0_ n1_ n2_; (try clear hb); (try clear hb2); (try clear hk); (try clear hi); (try clear ho0)))
 repeat (go_quiet (first | ((with_reducible refine gate_dst (N := 2) rfl ?_); refine box_event ?hg (N := 2) ?hd (cs := #[.int .i64 a0_0, .slice A0_1 l0_1.length c0_1]) (t := 28) ?hr ?_; (case hd => rfl); (case hg => rfl); (case hr => first | (go_simp; done) | (go_simp; rfl)); intro gb101 hg w4 hbox hb; have n0_ := asd (below_step (by repeat (first | (with_reducible first | exact HB.out | apply below_alloc | apply pw_below_drewN | apply below_drew1) | exact HB.out)) hb); have n1_ := asd (hbox); have n2_ := asd ((by rw [hg]; exact (below_size (by repeat (first | (with_reducible first | exact HB.out | apply below_alloc | apply pw_below_drewN | apply below_drew1) | exact HB.out))) : w.heap.size ≤ gb101)); have n3_ := asd ((by rw [hg]; exact (below_size (by repeat (first | (with_reducible first | exact HB.out | apply below_alloc | apply pw_below_drewN | apply below_drew1) | exact HB.out))) : w.heap.size ≤ gb101)); clear HB; have HB := n0_; have BK101 := n1_; have GW101 := n2_; have GE101 := n3_; clear n0_ n1_ n2_ n3_; clear hb hbox hg; have hcz5_0 : w4.cell? ⟨gb101, 0, none⟩ = some (.int .i64 a0_0) := (blk_cell BK101.out 0).trans rfl; have hcz5_1 : w4.cell? ⟨gb101, 1, none⟩ = some (.slice A0_1 l0_1.length c0_1) := (blk_cell BK101.out 1).trans rfl; have hfz5_0 := blk_frozen BK101.out 0; have hfz5_1 := blk_frozen BK101.out 1) | (go_at_call 102; (with_reducible refine (impl_Space_family.calls a0_0 _ _ l0_1 t102 _ ?side1 ?side2 A3.out).mono ?_); (case side1 => repeat (first | exact (Kd.C_below HR0_1.out HB.out) | (with_reducible refine Kd.C_alloc ?_ _) | (with_reducible refine Kd.C_drewN ?_ _) | (with_reducible refine Kd.C_drew ?_))); (case side2 => exact HC0_1.out); rintro e w6 ⟨v103, rfl, ho0, hb⟩; have n0_ := asd (Kd.R_lower ho0 (below_size (by repeat (first | (with_reducible first | exact HB.out | apply below_alloc | apply pw_below_drewN | apply below_drew1 | refine below_set ?_ GE101.out) | exact HB.out)))); have n1_ := asd (blk_below (upB BK101.out) hb); have n2_ := asd (below_step (by repeat (first | (with_reducible first | exact HB.out | apply below_alloc | apply pw_below_drewN | apply below_drew1 | refine below_set ?_ GE101.out) | exact HB.out)) hb); clear BK101; clear HB; have HO104 := n0_; have BK101 := n1_; have HB := n2_; clear n0_ n1_ n2_; (try clear hb); (try clear hb2); (try clear hk); (try clear hi); (try clear ho0))); try go_wp2_with (first | ((with_reducible refine gate_dst (N := 2) rfl ?_); refine box_event ?hg (N := 2) ?hd (cs := #[.int .i64 a0_0, .slice A0_1 l0_1.length c0_1]) (t := 28) ?hr ?_; (case hd => rfl); (case hg => rfl); (case hr => first | (go_simp; done) | (go_simp; rfl)); intro gb101 hg w4 hbox hb; have n0_ := asd (below_step (by repeat (first | (with_reducible first | exact HB.out | apply below_alloc | apply pw_below_drewN | apply below_drew1) | exact HB.out)) hb); have n1_ := asd (hbox); have n2_ := asd ((by rw [hg]; exact (below_size (by repeat (first | (with_reducible first | exact HB.out | apply below_alloc | apply pw_below_drewN | apply below_drew1) | exact HB.out))) : w.heap.size ≤ gb101)); have n3_ := asd ((by rw [hg]; exact (below_size (by repeat (first | (with_reducible first | exact HB.out | apply below_alloc | apply pw_below_drewN | apply below_drew1) | exact HB.out))) : w.heap.size ≤ gb101)); clear HB; have HB := n0_; have BK101 := n1_; have GW101 := n2_; have GE101 := n3_; clear n0_ n1_ n2_ n3_; clear hb hbox hg; have hcz5_0 : w4.cell? ⟨gb101, 0, none⟩ = some (.int .i64 a0_0) := (blk_cell BK101.out 0).trans rfl; have hcz5_1 : w4.cell? ⟨gb101, 1, none⟩ = some (.slice A0_1 l0_1.length c0_1) := (blk_cell BK101.out 1).trans rfl; have hfz5_0 := blk_frozen BK101.out 0; have hfz5_1 := blk_frozen BK101.out 1) | (go_at_call 102; (with_reducible refine (impl_Space_family.calls a0_0 _ _ l0_1 t102 _ ?side1 ?side2 A3.out).mono ?_); (case side1 => repeat (first | exact (Kd.C_below HR0_1.out HB.out) | (with_reducible refine Kd.C_alloc ?_ _) | (with_reducible refine Kd.C_drewN ?_ _) | (with_reducible refine Kd.C_drew ?_))); (case side2 => exact HC0_1.out); rintro e w6 ⟨v103, rfl, ho0, hb⟩; have n0_ := asd (Kd.R_lower ho0 (below_size (by repeat (first | (with_reducible first | exact HB.out | apply below_alloc | apply pw_below_drewN | apply below_drew1 | refine below_set ?_ GE101.out) | exact HB.out)))); have n1_ := asd (blk_below (upB BK101.out) hb); have n2_ := asd (below_step (by repeat (first | (with_reducible first | exact HB.out | apply below_alloc | apply pw_below_drewN | apply below_drew1 | refine below_set ?_ GE101.out) | exact HB.out)) hb); clear BK101; clear HB; have HO104 := n0_; have BK101 := n1_; have HB := n2_; clear n0_ n1_ n2_; (try clear hb); (try clear hb2); (try clear hk); (try clear hi); (try clear ho0))))
 go_loopg [7, 14] k (fun kq v7 v14 w' => ∃ (x7_1 : Int) (x14_1 : Int), v7 = .int .i64 x7_1 ∧ v14 = .int .i64 x14_1 ∧ Aside0 (impl_Space_setOf.l0 kq t102 x7_1 l1 (l1.length : Int) x14_1 a0_0 l0_1 = some (r1, r2)) ∧ Aside0 (kq ≤ k) ∧ Aside0 (Kd.R Kd.bool 126 w' w.heap.size (fun _ => True) v103 t102) ∧ Aside0 (w'.heap[gb101]? = some (.cells #[.int .i64 a0_0, (.slice A0_1 l0_1.length c0_1)] 28 (0, 0))) ∧ Aside0 (Below w.heap.size w w'))
 case atStart => exact ⟨(0), (0), (by first | rfl | (simp; done) | (simp [*]; done)), (by first | rfl | (simp; done) | (simp [*]; done)), H', ⟨Nat.le_refl _⟩, ⟨by (with_reducible repeat (first | apply Kd.R_alloc | apply Kd.R_drewN | apply Kd.R_drew)); exact HO104.out⟩, ⟨by (with_reducible repeat (first | refine blk_drewN ?_ _ | refine blk_drew ?_ | refine blk_alloc ?_ _)); exact BK101.out⟩, ⟨by repeat (first | (with_reducible first | exact HB.out | apply below_alloc | apply pw_below_drewN | apply below_drew1 | refine below_set ?_ GE101.out) | exact HB.out)⟩⟩
 case round =>
  clear H'
  try clear c1
  try clear p2
  try clear hcz5_0
  try clear hcz5_1
  try clear hfz5_0
  try clear hfz5_1
  try clear HO_6; skip
  obtain ⟨x7_1, x14_1, rfl, rfl, HA, HK1, HO_6, BK101, HB⟩ := hrel
  cases gk with
  | zero => exact absurd HA.out (by simp [impl_Space_setOf.l0])
  | succ k1 =>
   have H := HA.out
   clear HA
   simp only [impl_Space_setOf.l0] at H
   by_cases c7 : x14_1 < (l1.length : Int)
   ·
    rw [if_pos c7] at H
    have c7b0 : decide (x14_1 < (l1.length : Int)) = true := decide_eq_true c7
    clear c7
    by_cases c8 : 0 ≤ x14_1
    ·
     rw [if_pos c8] at H
     have c8b0 : decide (0 ≤ x14_1) = true := decide_eq_true c8
     clear c8
     by_cases c9 : x14_1 < (l1.length : Int)
     ·
      rw [if_pos c9] at H
      have c9b0 : decide (x14_1 < (l1.length : Int)) = true := decide_eq_true c9
      clear c9
      replace H := Option.bind_eq_some_iff.mp H
      obtain ⟨t106, A100, H⟩ := H
      replace H : (if t106 = true then (if 0 ≤ (rd l1 x14_1) then (if (Go.bits .and .i64 (shr .i64 x7_1 (rd l1 x14_1)) 1) = 1 then (some (0, false)) else (if 0 ≤ (Go.bits .or .i64 x7_1 (shl .i64 1 (rd l1 x14_1))) then (if (Go.bits .or .i64 x7_1 (shl .i64 1 (rd l1 x14_1))) < 128 then (if (rdOf false t102 (Go.bits .or .i64 x7_1 (shl .i64 1 (rd l1 x14_1))) = true) then (impl_Space_setOf.l0 k1 t102 (Go.bits .or .i64 x7_1 (shl .i64 1 (rd l1 x14_1))) l1 (l1.length : Int) (wrap64 (x14_1 + 1)) a0_0 l0_1) else (some (0, false))) else (none)) else (none))) else (none)) else (some (0, false))) = some (r1, r2) := H
      have A10 := asd A100
      clear A100
      by_cases c11 : t106 = true
      ·
       subst c11
       have H1 : (if 0 ≤ (rd l1 x14_1) then (if (Go.bits .and .i64 (shr .i64 x7_1 (rd l1 x14_1)) 1) = 1 then (some (0, false)) else (if 0 ≤ (Go.bits .or .i64 x7_1 (shl .i64 1 (rd l1 x14_1))) then (if (Go.bits .or .i64 x7_1 (shl .i64 1 (rd l1 x14_1))) < 128 then (if (rdOf false t102 (Go.bits .or .i64 x7_1 (shl .i64 1 (rd l1 x14_1))) = true) then (impl_Space_setOf.l0 k1 t102 (Go.bits .or .i64 x7_1 (shl .i64 1 (rd l1 x14_1))) l1 (l1.length : Int) (wrap64 (x14_1 + 1)) a0_0 l0_1) else (some (0, false))) else (none)) else (none))) else (none)) = some (r1, r2) := by rw [if_pos rfl] at H; exact H
       clear H
       have H := H1
       clear H1
       by_cases c12 : 0 ≤ (rd l1 x14_1)
       ·
        rw [if_pos c12] at H
        have c12b0 := eq_true c12
        have c12b1 : decide (0 ≤ (rd l1 x14_1)) = true := decide_eq_true c12
        clear c12
        obtain ⟨ji13, hji13⟩ : ∃ j_ : Int, (shr .i64 x7_1 (rd l1 x14_1)) = j_ := ⟨_, rfl⟩
        replace H : (if (Go.bits .and .i64 (ji13) 1) = 1 then (some (0, false)) else (if 0 ≤ (Go.bits .or .i64 x7_1 (shl .i64 1 (rd l1 x14_1))) then (if (Go.bits .or .i64 x7_1 (shl .i64 1 (rd l1 x14_1))) < 128 then (if (rdOf false t102 (Go.bits .or .i64 x7_1 (shl .i64 1 (rd l1 x14_1))) = true) then (impl_Space_setOf.l0 k1 t102 (Go.bits .or .i64 x7_1 (shl .i64 1 (rd l1 x14_1))) l1 (l1.length : Int) (wrap64 (x14_1 + 1)) a0_0 l0_1) else (some (0, false))) else (none)) else (none))) = some (r1, r2) := by first | (rw [hji13] at H; exact H) | (simp only [hji13] at H ⊢; exact H)
        (try rw [hji13] at A10)
        have hji13_ : (x7_1 / 2 ^ min (rd l1 x14_1).toNat 64) = ji13 := hji13
        have hji13z : (rd l1 x14_1) ≤ 64 → (x7_1 / 2 ^ (rd l1 x14_1).toNat) = ji13 := shr_small hji13
        by_cases c14 : (Go.bits .and .i64 (ji13) 1) = 1
        ·
         rw [if_pos c14] at H
         have c14b0 : ((Go.bits .and .i64 (ji13) 1) == 1) = true := beq_iff_eq.mpr c14
         have c14b1 : ((Go.bits .and .i64 (ji13) 1) != 1) = false := bne_eq_false_iff_eq.mpr c14
         clear c14
         simp only [Option.some.injEq, Prod.mk.injEq] at H
         obtain ⟨rfl, rfl⟩ := H
         have p105 : 0 ≤ (x14_1 : Int) := of_decide_eq_true (by first | (with_reducible assumption) | assumption)
         have q105 : x14_1 < (l1.length : Int) := of_decide_eq_true (by first | (with_reducible assumption) | assumption)
         obtain ⟨ad105, e105, hx105_0⟩ := Kd.at_int HR1.out x14_1 p105 q105
         cases e105
         replace hx105_0 := (HB.out.cell (World.block_lt_of_cell? w _ hx105_0)).trans hx105_0
         replace p105 := eq_true p105
         replace q105 := eq_true q105
         have hcz15_0 : wr.cell? ⟨gb101, 0, none⟩ = some (.int .i64 a0_0) := (blk_cell BK101.out 0).trans rfl
         have hcz15_1 : wr.cell? ⟨gb101, 1, none⟩ = some (.slice A0_1 l0_1.length c0_1) := (blk_cell BK101.out 1).trans rfl
         have hfz15_0 := blk_frozen BK101.out 0
         have hfz15_1 := blk_frozen BK101.out 1
         go_wp2_with (first | (go_at_call 61; (with_reducible refine (impl_within.calls (rd l1 x14_1) 0 (wrap64 (a0_0 - 1)) true _ A10.out).mono ?_); rintro e w' ⟨rfl, ⟨nd, rfl⟩⟩; (try first | exact ⟨rfl, _, World.drewN_drewN _ _ _⟩ | exact ⟨rfl, _, Eq.trans (World.drewN_drewN _ _ _) (congrArg (World.drewN _) (Nat.add_assoc _ _ _))⟩)))
         repeat (go_quiet (first | (go_at_call 61; (first | (with_reducible refine (impl_within.calls (rd l1 x14_1) 0 (wrap64 (a0_0 - 1)) true _ A10.out).mono ?_) | (with_reducible refine (impl_within.calls (rd l1 x14_1) 0 (IntKind.i64.wrap (a0_0 - 1)) true _ (by first | exact A10.out | (with_unfolding_all exact A10.out))).mono ?_)); rintro e w' ⟨rfl, ⟨nd, rfl⟩⟩; (try first | exact ⟨rfl, _, World.drewN_drewN _ _ _⟩ | exact ⟨rfl, _, Eq.trans (World.drewN_drewN _ _ _) (congrArg (World.drewN _) (Nat.add_assoc _ _ _))⟩))); try go_wp2_with (first | (go_at_call 61; (first | (with_reducible refine (impl_within.calls (rd l1 x14_1) 0 (wrap64 (a0_0 - 1)) true _ A10.out).mono ?_) | (with_reducible refine (impl_within.calls (rd l1 x14_1) 0 (IntKind.i64.wrap (a0_0 - 1)) true _ (by first | exact A10.out | (with_unfolding_all exact A10.out))).mono ?_)); rintro e w' ⟨rfl, ⟨nd, rfl⟩⟩; (try first | exact ⟨rfl, _, World.drewN_drewN _ _ _⟩ | exact ⟨rfl, _, Eq.trans (World.drewN_drewN _ _ _) (congrArg (World.drewN _) (Nat.add_assoc _ _ _))⟩))))
         go_ret2
         exact ⟨by first | rfl | (simp [errW_none, errW_some] <;> rfl) | (simp only [← hji13]; first | rfl | (simp [errW_none, errW_some] <;> rfl)) | (simp [*, errW_none, errW_some] <;> rfl), by repeat (first | (with_reducible first | exact HB.out | apply below_alloc | apply pw_below_drewN | apply below_drew1 | refine below_set ?_ GE101.out) | exact HB.out)⟩
        ·
         rw [if_neg c14] at H
         have c14b0 : ((Go.bits .and .i64 (ji13) 1) == 1) = false := beq_eq_false_iff_ne.mpr c14
         have c14b1 : ((Go.bits .and .i64 (ji13) 1) != 1) = true := bne_iff_ne.mpr c14
         have c16b0 := eq_true (of_decide_eq_true (by first | (with_reducible assumption) | assumption) : 0 ≤ (rd l1 x14_1))
         obtain ⟨ji17, hji17⟩ : ∃ j_ : Int, (shl .i64 1 (rd l1 x14_1)) = j_ := ⟨_, rfl⟩
         replace H : (if 0 ≤ (Go.bits .or .i64 x7_1 (ji17)) then (if (Go.bits .or .i64 x7_1 (ji17)) < 128 then (if (rdOf false t102 (Go.bits .or .i64 x7_1 (ji17)) = true) then (impl_Space_setOf.l0 k1 t102 (Go.bits .or .i64 x7_1 (ji17)) l1 (l1.length : Int) (wrap64 (x14_1 + 1)) a0_0 l0_1) else (some (0, false))) else (none)) else (none)) = some (r1, r2) := by first | (rw [hji17] at H; exact H) | (simp only [hji17] at H ⊢; exact H)
         (try rw [hji17] at A10)
         have hji17_ : (IntKind.i64.wrap (1 * 2 ^ min (rd l1 x14_1).toNat 64)) = ji17 := hji17
         have hji17z : (rd l1 x14_1) ≤ 64 → (IntKind.i64.wrap (1 * 2 ^ (rd l1 x14_1).toNat)) = ji17 := shl_small hji17
         have hji17u : (IntKind.i64.wrap (2 ^ min (rd l1 x14_1).toNat 64)) = ji17 := by have h_ := hji17_; rw [Int.one_mul] at h_; exact h_
         have hji17v : (rd l1 x14_1) ≤ 64 → (IntKind.i64.wrap (2 ^ (rd l1 x14_1).toNat)) = ji17 := fun hle_ => by have h_ := hji17z hle_; rw [Int.one_mul] at h_; exact h_
         have hji17y : (wrap64 (1 * 2 ^ min (rd l1 x14_1).toNat 64)) = ji17 := (i64_w _).symm.trans hji17_
         have hji17x : (rd l1 x14_1) ≤ 64 → (wrap64 (1 * 2 ^ (rd l1 x14_1).toNat)) = ji17 := fun h_ => (i64_w _).symm.trans (hji17z h_)
         by_cases c18 : 0 ≤ (Go.bits .or .i64 x7_1 (ji17))
         ·
          rw [if_pos c18] at H
          have c18b0 : decide (0 ≤ (Go.bits .or .i64 x7_1 (ji17))) = true := decide_eq_true c18
          clear c18
          by_cases c19 : (Go.bits .or .i64 x7_1 (ji17)) < 128
          ·
           rw [if_pos c19] at H
           have c19b0 : decide ((Go.bits .or .i64 x7_1 (ji17)) < 128) = true := decide_eq_true c19
           clear c19
           obtain ⟨bq20, hbq20⟩ : ∃ b_ : Bool, b_ = (rdOf false t102 (Go.bits .or .i64 x7_1 (ji17))) := ⟨_, rfl⟩
           replace H : (if (bq20 = true) then (impl_Space_setOf.l0 k1 t102 (Go.bits .or .i64 x7_1 (ji17)) l1 (l1.length : Int) (wrap64 (x14_1 + 1)) a0_0 l0_1) else (some (0, false))) = some (r1, r2) := by rw [← hbq20] at H; exact H
           have Nbq20 := asd hbq20
           clear hbq20
           by_cases c21 : (bq20 = true)
           ·
            subst c21
            have H1 : (impl_Space_setOf.l0 k1 t102 (Go.bits .or .i64 x7_1 (ji17)) l1 (l1.length : Int) (wrap64 (x14_1 + 1)) a0_0 l0_1) = some (r1, r2) := by rw [if_pos rfl] at H; exact H
            clear H
            have H := H1
            clear H1
            have c22b0 := eq_true (of_decide_eq_true (by first | (with_reducible assumption) | assumption) : 0 ≤ (rd l1 x14_1))
            have H' := asd H
            clear H
            have p105 : 0 ≤ (x14_1 : Int) := of_decide_eq_true (by first | (with_reducible assumption) | assumption)
            have q105 : x14_1 < (l1.length : Int) := of_decide_eq_true (by first | (with_reducible assumption) | assumption)
            obtain ⟨ad105, e105, hx105_0⟩ := Kd.at_int HR1.out x14_1 p105 q105
            cases e105
            replace hx105_0 := (HB.out.cell (World.block_lt_of_cell? w _ hx105_0)).trans hx105_0
            replace p105 := eq_true p105
            replace q105 := eq_true q105
            have hcz23_0 : wr.cell? ⟨gb101, 0, none⟩ = some (.int .i64 a0_0) := (blk_cell BK101.out 0).trans rfl
            have hcz23_1 : wr.cell? ⟨gb101, 1, none⟩ = some (.slice A0_1 l0_1.length c0_1) := (blk_cell BK101.out 1).trans rfl
            have hfz23_0 := blk_frozen BK101.out 0
            have hfz23_1 := blk_frozen BK101.out 1
            go_wp2_with (first | (go_at_call 61; (with_reducible refine (impl_within.calls (rd l1 x14_1) 0 (wrap64 (a0_0 - 1)) true _ A10.out).mono ?_); rintro e w' ⟨rfl, ⟨nd, rfl⟩⟩; (try first | exact ⟨rfl, _, World.drewN_drewN _ _ _⟩ | exact ⟨rfl, _, Eq.trans (World.drewN_drewN _ _ _) (congrArg (World.drewN _) (Nat.add_assoc _ _ _))⟩); obtain ⟨Ao24, co24, eo24⟩ := Kd.R_slice HO_6.out; subst eo24; (try simp only [ptrOf_slice]); have p107 : 0 ≤ ((Go.bits .or .i64 x7_1 (ji17)) : Int) := of_decide_eq_true (by first | (with_reducible assumption) | assumption); have q107 : (Go.bits .or .i64 x7_1 (ji17)) < (t102.length : Int) := (by have h_ : ((Go.bits .or .i64 x7_1 (ji17)) : Int) < (128 : Int) := of_decide_eq_true (by first | (with_reducible assumption) | assumption); (try have e_ := (Kd.R_reads' HO_6.out).1); (try have e0_ := HLt102.out); omega); have ql107 : (((Go.bits .or .i64 x7_1 (ji17)) : Int) < (128 : Int)) = True := eq_true (of_decide_eq_true (by first | (with_reducible assumption) | assumption)); obtain ⟨ad107, e107, hx107_0⟩ := Kd.at_bool (Kd.R_reads' HO_6.out).2.2 (Go.bits .or .i64 x7_1 (ji17)) p107 q107; (try rw [← Nbq20.out] at hx107_0); cases e107; replace p107 := eq_true p107; replace q107 := eq_true q107))
            try (obtain ⟨Ao24, co24, eo24⟩ := Kd.R_slice HO_6.out; subst eo24; (try simp only [ptrOf_slice]); have p107 : 0 ≤ ((Go.bits .or .i64 x7_1 (ji17)) : Int) := of_decide_eq_true (by first | (with_reducible assumption) | assumption); have q107 : (Go.bits .or .i64 x7_1 (ji17)) < (t102.length : Int) := (by have h_ : ((Go.bits .or .i64 x7_1 (ji17)) : Int) < (128 : Int) := of_decide_eq_true (by first | (with_reducible assumption) | assumption); (try have e_ := (Kd.R_reads' HO_6.out).1); (try have e0_ := HLt102.out); omega); have ql107 : (((Go.bits .or .i64 x7_1 (ji17)) : Int) < (128 : Int)) = True := eq_true (of_decide_eq_true (by first | (with_reducible assumption) | assumption)); obtain ⟨ad107, e107, hx107_0⟩ := Kd.at_bool (Kd.R_reads' HO_6.out).2.2 (Go.bits .or .i64 x7_1 (ji17)) p107 q107; (try rw [← Nbq20.out] at hx107_0); cases e107; replace p107 := eq_true p107; replace q107 := eq_true q107)
            repeat (go_quiet (first | (go_at_call 61; (first | (with_reducible refine (impl_within.calls (rd l1 x14_1) 0 (wrap64 (a0_0 - 1)) true _ A10.out).mono ?_) | (with_reducible refine (impl_within.calls (rd l1 x14_1) 0 (IntKind.i64.wrap (a0_0 - 1)) true _ (by first | exact A10.out | (with_unfolding_all exact A10.out))).mono ?_)); rintro e w' ⟨rfl, ⟨nd, rfl⟩⟩; (try first | exact ⟨rfl, _, World.drewN_drewN _ _ _⟩ | exact ⟨rfl, _, Eq.trans (World.drewN_drewN _ _ _) (congrArg (World.drewN _) (Nat.add_assoc _ _ _))⟩) <;> (obtain ⟨Ao24, co24, eo24⟩ := Kd.R_slice HO_6.out; subst eo24; (try simp only [ptrOf_slice]); have p107 : 0 ≤ ((Go.bits .or .i64 x7_1 (ji17)) : Int) := of_decide_eq_true (by first | (with_reducible assumption) | assumption); have q107 : (Go.bits .or .i64 x7_1 (ji17)) < (t102.length : Int) := (by have h_ : ((Go.bits .or .i64 x7_1 (ji17)) : Int) < (128 : Int) := of_decide_eq_true (by first | (with_reducible assumption) | assumption); (try have e_ := (Kd.R_reads' HO_6.out).1); (try have e0_ := HLt102.out); omega); have ql107 : (((Go.bits .or .i64 x7_1 (ji17)) : Int) < (128 : Int)) = True := eq_true (of_decide_eq_true (by first | (with_reducible assumption) | assumption)); obtain ⟨ad107, e107, hx107_0⟩ := Kd.at_bool (Kd.R_reads' HO_6.out).2.2 (Go.bits .or .i64 x7_1 (ji17)) p107 q107; (try rw [← Nbq20.out] at hx107_0); cases e107; replace p107 := eq_true p107; replace q107 := eq_true q107))); try go_wp2_with (first | (go_at_call 61; (first | (with_reducible refine (impl_within.calls (rd l1 x14_1) 0 (wrap64 (a0_0 - 1)) true _ A10.out).mono ?_) | (with_reducible refine (impl_within.calls (rd l1 x14_1) 0 (IntKind.i64.wrap (a0_0 - 1)) true _ (by first | exact A10.out | (with_unfolding_all exact A10.out))).mono ?_)); rintro e w' ⟨rfl, ⟨nd, rfl⟩⟩; (try first | exact ⟨rfl, _, World.drewN_drewN _ _ _⟩ | exact ⟨rfl, _, Eq.trans (World.drewN_drewN _ _ _) (congrArg (World.drewN _) (Nat.add_assoc _ _ _))⟩) <;> (obtain ⟨Ao24, co24, eo24⟩ := Kd.R_slice HO_6.out; subst eo24; (try simp only [ptrOf_slice]); have p107 : 0 ≤ ((Go.bits .or .i64 x7_1 (ji17)) : Int) := of_decide_eq_true (by first | (with_reducible assumption) | assumption); have q107 : (Go.bits .or .i64 x7_1 (ji17)) < (t102.length : Int) := (by have h_ : ((Go.bits .or .i64 x7_1 (ji17)) : Int) < (128 : Int) := of_decide_eq_true (by first | (with_reducible assumption) | assumption); (try have e_ := (Kd.R_reads' HO_6.out).1); (try have e0_ := HLt102.out); omega); have ql107 : (((Go.bits .or .i64 x7_1 (ji17)) : Int) < (128 : Int)) = True := eq_true (of_decide_eq_true (by first | (with_reducible assumption) | assumption)); obtain ⟨ad107, e107, hx107_0⟩ := Kd.at_bool (Kd.R_reads' HO_6.out).2.2 (Go.bits .or .i64 x7_1 (ji17)) p107 q107; (try rw [← Nbq20.out] at hx107_0); cases e107; replace p107 := eq_true p107; replace q107 := eq_true q107))))
            go_roundg k1
            case measure => have := HK1.out; omega
            case rel => exact ⟨(Go.bits .or .i64 x7_1 (ji17)), (wrap64 (x14_1 + 1)), (by first | rfl | (simp; done) | (simp only [← hji17] <;> (first | rfl | simp)) | (simp [*]; done)), (by first | rfl | (simp; done) | (simp [*]; done)), H', ⟨by have := HK1.out; omega⟩, ⟨by (with_reducible repeat (first | apply Kd.R_alloc | apply Kd.R_drewN | apply Kd.R_drew)); exact HO_6.out⟩, ⟨by (with_reducible repeat (first | refine blk_drewN ?_ _ | refine blk_drew ?_ | refine blk_alloc ?_ _)); exact BK101.out⟩, ⟨by repeat (first | (with_reducible first | exact HB.out | apply below_alloc | apply pw_below_drewN | apply below_drew1 | refine below_set ?_ GE101.out) | exact HB.out)⟩⟩
           ·
            replace c21 := Bool.eq_false_iff.mpr c21
            subst c21
            have H1 : (some (0, false)) = some (r1, r2) := by rw [if_neg (show ¬ (false = true) by decide)] at H; exact H
            clear H
            have H := H1
            clear H1
            simp only [Option.some.injEq, Prod.mk.injEq] at H
            obtain ⟨rfl, rfl⟩ := H
            have p105 : 0 ≤ (x14_1 : Int) := of_decide_eq_true (by first | (with_reducible assumption) | assumption)
            have q105 : x14_1 < (l1.length : Int) := of_decide_eq_true (by first | (with_reducible assumption) | assumption)
            obtain ⟨ad105, e105, hx105_0⟩ := Kd.at_int HR1.out x14_1 p105 q105
            cases e105
            replace hx105_0 := (HB.out.cell (World.block_lt_of_cell? w _ hx105_0)).trans hx105_0
            replace p105 := eq_true p105
            replace q105 := eq_true q105
            have hcz25_0 : wr.cell? ⟨gb101, 0, none⟩ = some (.int .i64 a0_0) := (blk_cell BK101.out 0).trans rfl
            have hcz25_1 : wr.cell? ⟨gb101, 1, none⟩ = some (.slice A0_1 l0_1.length c0_1) := (blk_cell BK101.out 1).trans rfl
            have hfz25_0 := blk_frozen BK101.out 0
            have hfz25_1 := blk_frozen BK101.out 1
            go_wp2_with (first | (go_at_call 61; (with_reducible refine (impl_within.calls (rd l1 x14_1) 0 (wrap64 (a0_0 - 1)) true _ A10.out).mono ?_); rintro e w' ⟨rfl, ⟨nd, rfl⟩⟩; (try first | exact ⟨rfl, _, World.drewN_drewN _ _ _⟩ | exact ⟨rfl, _, Eq.trans (World.drewN_drewN _ _ _) (congrArg (World.drewN _) (Nat.add_assoc _ _ _))⟩); obtain ⟨Ao26, co26, eo26⟩ := Kd.R_slice HO_6.out; subst eo26; (try simp only [ptrOf_slice]); have p107 : 0 ≤ ((Go.bits .or .i64 x7_1 (ji17)) : Int) := of_decide_eq_true (by first | (with_reducible assumption) | assumption); have q107 : (Go.bits .or .i64 x7_1 (ji17)) < (t102.length : Int) := (by have h_ : ((Go.bits .or .i64 x7_1 (ji17)) : Int) < (128 : Int) := of_decide_eq_true (by first | (with_reducible assumption) | assumption); (try have e_ := (Kd.R_reads' HO_6.out).1); (try have e0_ := HLt102.out); omega); have ql107 : (((Go.bits .or .i64 x7_1 (ji17)) : Int) < (128 : Int)) = True := eq_true (of_decide_eq_true (by first | (with_reducible assumption) | assumption)); obtain ⟨ad107, e107, hx107_0⟩ := Kd.at_bool (Kd.R_reads' HO_6.out).2.2 (Go.bits .or .i64 x7_1 (ji17)) p107 q107; (try rw [← Nbq20.out] at hx107_0); cases e107; replace p107 := eq_true p107; replace q107 := eq_true q107))
            try (obtain ⟨Ao26, co26, eo26⟩ := Kd.R_slice HO_6.out; subst eo26; (try simp only [ptrOf_slice]); have p107 : 0 ≤ ((Go.bits .or .i64 x7_1 (ji17)) : Int) := of_decide_eq_true (by first | (with_reducible assumption) | assumption); have q107 : (Go.bits .or .i64 x7_1 (ji17)) < (t102.length : Int) := (by have h_ : ((Go.bits .or .i64 x7_1 (ji17)) : Int) < (128 : Int) := of_decide_eq_true (by first | (with_reducible assumption) | assumption); (try have e_ := (Kd.R_reads' HO_6.out).1); (try have e0_ := HLt102.out); omega); have ql107 : (((Go.bits .or .i64 x7_1 (ji17)) : Int) < (128 : Int)) = True := eq_true (of_decide_eq_true (by first | (with_reducible assumption) | assumption)); obtain ⟨ad107, e107, hx107_0⟩ := Kd.at_bool (Kd.R_reads' HO_6.out).2.2 (Go.bits .or .i64 x7_1 (ji17)) p107 q107; (try rw [← Nbq20.out] at hx107_0); cases e107; replace p107 := eq_true p107; replace q107 := eq_true q107)
            repeat (go_quiet (first | (go_at_call 61; (first | (with_reducible refine (impl_within.calls (rd l1 x14_1) 0 (wrap64 (a0_0 - 1)) true _ A10.out).mono ?_) | (with_reducible refine (impl_within.calls (rd l1 x14_1) 0 (IntKind.i64.wrap (a0_0 - 1)) true _ (by first | exact A10.out | (with_unfolding_all exact A10.out))).mono ?_)); rintro e w' ⟨rfl, ⟨nd, rfl⟩⟩; (try first | exact ⟨rfl, _, World.drewN_drewN _ _ _⟩ | exact ⟨rfl, _, Eq.trans (World.drewN_drewN _ _ _) (congrArg (World.drewN _) (Nat.add_assoc _ _ _))⟩) <;> (obtain ⟨Ao26, co26, eo26⟩ := Kd.R_slice HO_6.out; subst eo26; (try simp only [ptrOf_slice]); have p107 : 0 ≤ ((Go.bits .or .i64 x7_1 (ji17)) : Int) := of_decide_eq_true (by first | (with_reducible assumption) | assumption); have q107 : (Go.bits .or .i64 x7_1 (ji17)) < (t102.length : Int) := (by have h_ : ((Go.bits .or .i64 x7_1 (ji17)) : Int) < (128 : Int) := of_decide_eq_true (by first | (with_reducible assumption) | assumption); (try have e_ := (Kd.R_reads' HO_6.out).1); (try have e0_ := HLt102.out); omega); have ql107 : (((Go.bits .or .i64 x7_1 (ji17)) : Int) < (128 : Int)) = True := eq_true (of_decide_eq_true (by first | (with_reducible assumption) | assumption)); obtain ⟨ad107, e107, hx107_0⟩ := Kd.at_bool (Kd.R_reads' HO_6.out).2.2 (Go.bits .or .i64 x7_1 (ji17)) p107 q107; (try rw [← Nbq20.out] at hx107_0); cases e107; replace p107 := eq_true p107; replace q107 := eq_true q107))); try go_wp2_with (first | (go_at_call 61; (first | (with_reducible refine (impl_within.calls (rd l1 x14_1) 0 (wrap64 (a0_0 - 1)) true _ A10.out).mono ?_) | (with_reducible refine (impl_within.calls (rd l1 x14_1) 0 (IntKind.i64.wrap (a0_0 - 1)) true _ (by first | exact A10.out | (with_unfolding_all exact A10.out))).mono ?_)); rintro e w' ⟨rfl, ⟨nd, rfl⟩⟩; (try first | exact ⟨rfl, _, World.drewN_drewN _ _ _⟩ | exact ⟨rfl, _, Eq.trans (World.drewN_drewN _ _ _) (congrArg (World.drewN _) (Nat.add_assoc _ _ _))⟩) <;> (obtain ⟨Ao26, co26, eo26⟩ := Kd.R_slice HO_6.out; subst eo26; (try simp only [ptrOf_slice]); have p107 : 0 ≤ ((Go.bits .or .i64 x7_1 (ji17)) : Int) := of_decide_eq_true (by first | (with_reducible assumption) | assumption); have q107 : (Go.bits .or .i64 x7_1 (ji17)) < (t102.length : Int) := (by have h_ : ((Go.bits .or .i64 x7_1 (ji17)) : Int) < (128 : Int) := of_decide_eq_true (by first | (with_reducible assumption) | assumption); (try have e_ := (Kd.R_reads' HO_6.out).1); (try have e0_ := HLt102.out); omega); have ql107 : (((Go.bits .or .i64 x7_1 (ji17)) : Int) < (128 : Int)) = True := eq_true (of_decide_eq_true (by first | (with_reducible assumption) | assumption)); obtain ⟨ad107, e107, hx107_0⟩ := Kd.at_bool (Kd.R_reads' HO_6.out).2.2 (Go.bits .or .i64 x7_1 (ji17)) p107 q107; (try rw [← Nbq20.out] at hx107_0); cases e107; replace p107 := eq_true p107; replace q107 := eq_true q107))))
            go_ret2
            exact ⟨by first | rfl | (simp [errW_none, errW_some] <;> rfl) | (simp only [← hji13, ← hji17]; first | rfl | (simp [errW_none, errW_some] <;> rfl)) | (simp [*, errW_none, errW_some] <;> rfl), by repeat (first | (with_reducible first | exact HB.out | apply below_alloc | apply pw_below_drewN | apply below_drew1 | refine below_set ?_ GE101.out) | exact HB.out)⟩
          ·
           rw [if_neg c19] at H
           exact absurd H (by simp)
         ·
          rw [if_neg c18] at H
          exact absurd H (by simp)
       ·
        rw [if_neg c12] at H
        exact absurd H (by simp)
      ·
       replace c11 := Bool.eq_false_iff.mpr c11
       subst c11
       have H1 : (some (0, false)) = some (r1, r2) := by rw [if_neg (show ¬ (false = true) by decide)] at H; exact H
       clear H
       have H := H1
       clear H1
       simp only [Option.some.injEq, Prod.mk.injEq] at H
       obtain ⟨rfl, rfl⟩ := H
       have p105 : 0 ≤ (x14_1 : Int) := of_decide_eq_true (by first | (with_reducible assumption) | assumption)
       have q105 : x14_1 < (l1.length : Int) := of_decide_eq_true (by first | (with_reducible assumption) | assumption)
       obtain ⟨ad105, e105, hx105_0⟩ := Kd.at_int HR1.out x14_1 p105 q105
       cases e105
       replace hx105_0 := (HB.out.cell (World.block_lt_of_cell? w _ hx105_0)).trans hx105_0
       replace p105 := eq_true p105
       replace q105 := eq_true q105
       have hcz27_0 : wr.cell? ⟨gb101, 0, none⟩ = some (.int .i64 a0_0) := (blk_cell BK101.out 0).trans rfl
       have hcz27_1 : wr.cell? ⟨gb101, 1, none⟩ = some (.slice A0_1 l0_1.length c0_1) := (blk_cell BK101.out 1).trans rfl
       have hfz27_0 := blk_frozen BK101.out 0
       have hfz27_1 := blk_frozen BK101.out 1
       go_wp2_with (first | (go_at_call 61; (with_reducible refine (impl_within.calls (rd l1 x14_1) 0 (wrap64 (a0_0 - 1)) false _ A10.out).mono ?_); rintro e w' ⟨rfl, ⟨nd, rfl⟩⟩; (try first | exact ⟨rfl, _, World.drewN_drewN _ _ _⟩ | exact ⟨rfl, _, Eq.trans (World.drewN_drewN _ _ _) (congrArg (World.drewN _) (Nat.add_assoc _ _ _))⟩)))
       repeat (go_quiet (first | (go_at_call 61; (first | (with_reducible refine (impl_within.calls (rd l1 x14_1) 0 (wrap64 (a0_0 - 1)) false _ A10.out).mono ?_) | (with_reducible refine (impl_within.calls (rd l1 x14_1) 0 (IntKind.i64.wrap (a0_0 - 1)) false _ (by first | exact A10.out | (with_unfolding_all exact A10.out))).mono ?_)); rintro e w' ⟨rfl, ⟨nd, rfl⟩⟩; (try first | exact ⟨rfl, _, World.drewN_drewN _ _ _⟩ | exact ⟨rfl, _, Eq.trans (World.drewN_drewN _ _ _) (congrArg (World.drewN _) (Nat.add_assoc _ _ _))⟩))); try go_wp2_with (first | (go_at_call 61; (first | (with_reducible refine (impl_within.calls (rd l1 x14_1) 0 (wrap64 (a0_0 - 1)) false _ A10.out).mono ?_) | (with_reducible refine (impl_within.calls (rd l1 x14_1) 0 (IntKind.i64.wrap (a0_0 - 1)) false _ (by first | exact A10.out | (with_unfolding_all exact A10.out))).mono ?_)); rintro e w' ⟨rfl, ⟨nd, rfl⟩⟩; (try first | exact ⟨rfl, _, World.drewN_drewN _ _ _⟩ | exact ⟨rfl, _, Eq.trans (World.drewN_drewN _ _ _) (congrArg (World.drewN _) (Nat.add_assoc _ _ _))⟩))))
       go_ret2
       exact ⟨by first | rfl | (simp [errW_none, errW_some] <;> rfl) | (simp [*, errW_none, errW_some] <;> rfl), by repeat (first | (with_reducible first | exact HB.out | apply below_alloc | apply pw_below_drewN | apply below_drew1 | refine below_set ?_ GE101.out) | exact HB.out)⟩
     ·
      rw [if_neg c9] at H
      exact absurd H (by simp)
    ·
     rw [if_neg c8] at H
     exact absurd H (by simp)
   ·
    rw [if_neg c7] at H
    have c7b0 : decide (x14_1 < (l1.length : Int)) = false := decide_eq_false c7
    clear c7
    simp only [Option.some.injEq, Prod.mk.injEq] at H
    obtain ⟨rfl, rfl⟩ := H
    go_wp2
    repeat (go_quiet (fail); try go_wp2)
    go_ret2
    exact ⟨by first | rfl | (simp [errW_none, errW_some] <;> rfl) | (simp [*, errW_none, errW_some] <;> rfl), by repeat (first | (with_reducible first | exact HB.out | apply below_alloc | apply pw_below_drewN | apply below_drew1 | refine below_set ?_ GE101.out) | exact HB.out)⟩

/-! ### impl_isWord: function 126 -/
def impl_isWord.f (k : Nat) (a0_0 : Int) (l0_1 : List Int) (l1 : List Int) : Option (Bool) := (impl_IsSpace.f a0_0 l0_1).bind fun t102 => (if t102 = true then ((impl_Space_setOf.f k a0_0 l0_1 l1).bind fun bt103 => (some bt103.2)) else (some false))
theorem impl_isWord.mono : ∀ a0 a1 a2 k, LeO (impl_isWord.f k a0 a1 a2) (impl_isWord.f (k + 1) a0 a1 a2) := by
 intro a0 a1 a2 k
 unfold impl_isWord.f
 repeat' first
   | (with_reducible exact impl_Space_setOf.mono _ _ _ _)
   | (with_reducible exact LeO.refl _)
   | (with_reducible exact LeO.none _)
   | (with_reducible refine LeO.ite ?_ ?_)
   | (with_reducible refine LeO.bind ?_ (fun _ => ?_))
   | exact impl_Space_setOf.mono _ _ _ _
   | exact LeO.none _
   | refine LeO.ite ?_ ?_
   | refine LeO.bind ?_ (fun _ => ?_)
set_option maxHeartbeats 8000000 in
set_option maxRecDepth 100000 in
theorem impl_isWord.calls (k : Nat) (a0_0 : Int) (A0_1 : Option Addr) (c0_1 : Nat) (l0_1 : List Int) (A1 : Option Addr) (c1 : Nat) (l1 : List Int) (r : Bool) (w : World) (hr0_1 : Kd.C (Kd.int .i64) w A0_1 l0_1.length l0_1) (hc0_1 : l0_1.length ≤ c0_1) (hr1 : Kd.C (Kd.int .i64) w A1 l1.length l1) (hc1 : l1.length ≤ c1) (h : impl_isWord.f k a0_0 l0_1 l1 = some r) :
  Calls Try.prog 126 #[.agg #[.int .i64 a0_0, .slice A0_1 l0_1.length c0_1], .slice A1 l1.length c1] w fun e w' => e = .returned (.bool r) ∧ Below w.heap.size w w' := by
 have hu28 := Try.underlying28
 have HR0_1 := asd hr0_1
 have HC0_1 := asd hc0_1
 clear hr0_1 hc0_1
 have HR1 := asd hr1
 have HC1 := asd hc1
 clear hr1 hc1
 have HB := asd (Below.refl w.heap.size w)
 have H : ((impl_IsSpace.f a0_0 l0_1).bind fun t102 => (if t102 = true then ((impl_Space_setOf.f k a0_0 l0_1 l1).bind fun bt103 => (some bt103.2)) else (some false))) = some r := h
 clear h
 replace H := Option.bind_eq_some_iff.mp H
 obtain ⟨t102, A30, H⟩ := H
 replace H : (if t102 = true then ((impl_Space_setOf.f k a0_0 l0_1 l1).bind fun bt103 => (some bt103.2)) else (some false)) = some r := H
 have A3 := asd A30
 clear A30
 by_cases c4 : t102 = true
 ·
  subst c4
  have H1 : ((impl_Space_setOf.f k a0_0 l0_1 l1).bind fun bt103 => (some bt103.2)) = some r := by rw [if_pos rfl] at H; exact H
  clear H
  have H := H1
  clear H1
  replace H := Option.bind_eq_some_iff.mp H
  obtain ⟨⟨t103, t104⟩, A50, H⟩ := H
  replace H : (some t104) = some r := H
  have A5 := asd A50
  clear A50
  obtain rfl := Option.some.inj H
  go_enter Try.func126, Try.ntmps126
  go_wp2_with (first | ((with_reducible refine gate_dst (N := 2) rfl ?_); refine box_event ?hg (N := 2) ?hd (cs := #[.int .i64 a0_0, .slice A0_1 l0_1.length c0_1]) (t := 28) ?hr ?_; (case hd => rfl); (case hg => rfl); (case hr => first | (go_simp; done) | (go_simp; rfl)); intro gb101 hg w6 hbox hb; have n0_ := asd (below_step (by repeat (first | (with_reducible first | exact HB.out | apply below_alloc | apply pw_below_drewN | apply below_drew1) | exact HB.out)) hb); have n1_ := asd (hbox); have n2_ := asd ((by rw [hg]; exact (below_size (by repeat (first | (with_reducible first | exact HB.out | apply below_alloc | apply pw_below_drewN | apply below_drew1) | exact HB.out))) : w.heap.size ≤ gb101)); have n3_ := asd ((by rw [hg]; exact (below_size (by repeat (first | (with_reducible first | exact HB.out | apply below_alloc | apply pw_below_drewN | apply below_drew1) | exact HB.out))) : w.heap.size ≤ gb101)); clear HB; have HB := n0_; have BK101 := n1_; have GW101 := n2_; have GE101 := n3_; clear n0_ n1_ n2_ n3_; clear hb hbox hg; have hcz7_0 : w6.cell? ⟨gb101, 0, none⟩ = some (.int .i64 a0_0) := (blk_cell BK101.out 0).trans rfl; have hcz7_1 : w6.cell? ⟨gb101, 1, none⟩ = some (.slice A0_1 l0_1.length c0_1) := (blk_cell BK101.out 1).trans rfl; have hfz7_0 := blk_frozen BK101.out 0; have hfz7_1 := blk_frozen BK101.out 1) | ((with_reducible refine gate_callee (f := 47) rfl ?_); refine goesL_ (some 8) rfl rfl Try.func47 (by kernel_rfl) rfl #[.agg #[.int .i64 a0_0, .slice A0_1 l0_1.length c0_1]] rfl (by (try simp only [List.map_toArray, List.map_cons, List.map_nil]); first | done | rfl | (simp only [List.length_drop, List.length_take]; rfl)) ?_; (with_reducible refine (impl_IsSpace.calls a0_0 _ _ l0_1 true _ ?side1 ?side2 A3.out).mono ?_); (case side1 => repeat (first | exact (Kd.C_below HR0_1.out HB.out) | (with_reducible refine Kd.C_alloc ?_ _) | (with_reducible refine Kd.C_drewN ?_ _) | (with_reducible refine Kd.C_drew ?_))); (case side2 => exact HC0_1.out); rintro e w8 ⟨rfl, hb⟩; refine ⟨_, rfl, ?_⟩; have n0_ := asd (blk_below (upB BK101.out) hb); have n1_ := asd (below_step (by repeat (first | (with_reducible first | exact HB.out | apply below_alloc | apply pw_below_drewN | apply below_drew1 | refine below_set ?_ GE101.out) | exact HB.out)) hb); clear BK101; clear HB; have BK101 := n0_; have HB := n1_; clear n0_ n1_; (try clear hb); (try clear hb2); (try clear hk); (try clear hi); have hcz9_0 : w8.cell? ⟨gb101, 0, none⟩ = some (.int .i64 a0_0) := (blk_cell BK101.out 0).trans rfl; have hcz9_1 : w8.cell? ⟨gb101, 1, none⟩ = some (.slice A0_1 l0_1.length c0_1) := (blk_cell BK101.out 1).trans rfl; have hfz9_0 := blk_frozen BK101.out 0; have hfz9_1 := blk_frozen BK101.out 1) | ((with_reducible refine gate_callee (f := 112) rfl ?_); refine goesL_ (some 13) rfl rfl Try.func112 (by kernel_rfl) rfl #[.agg #[.int .i64 a0_0, .slice A0_1 l0_1.length c0_1], .slice A1 l1.length c1] rfl (by (try simp only [List.map_toArray, List.map_cons, List.map_nil]); first | done | rfl | (simp only [List.length_drop, List.length_take]; rfl)) ?_; (with_reducible refine (impl_Space_setOf.calls k a0_0 _ _ l0_1 _ _ l1 t103 t104 _ ?side1 ?side2 ?side3 ?side4 A5.out).mono ?_); (case side1 => repeat (first | exact (Kd.C_below HR0_1.out HB.out) | (with_reducible refine Kd.C_alloc ?_ _) | (with_reducible refine Kd.C_drewN ?_ _) | (with_reducible refine Kd.C_drew ?_))); (case side2 => exact HC0_1.out); (case side3 => repeat (first | exact (Kd.C_below HR1.out HB.out) | (with_reducible refine Kd.C_alloc ?_ _) | (with_reducible refine Kd.C_drewN ?_ _) | (with_reducible refine Kd.C_drew ?_))); (case side4 => exact HC1.out); rintro e w10 ⟨rfl, hb⟩; refine ⟨_, rfl, ?_⟩; have n0_ := asd (blk_below (upB BK101.out) hb); have n1_ := asd (below_step (by repeat (first | (with_reducible first | exact HB.out | apply below_alloc | apply pw_below_drewN | apply below_drew1 | refine below_set ?_ GE101.out) | exact HB.out)) hb); clear BK101; clear HB; have BK101 := n0_; have HB := n1_; clear n0_ n1_; (try clear hb); (try clear hb2); (try clear hk); (try clear hi)))
  go_ret
  exact ⟨by first | rfl | (simp [errW_none, errW_some] <;> rfl) | (simp [*, errW_none, errW_some] <;> rfl), by repeat (first | (with_reducible first | exact HB.out | apply below_alloc | apply pw_below_drewN | apply below_drew1 | refine below_set ?_ GE101.out) | exact HB.out)⟩
 ·
  replace c4 := Bool.eq_false_iff.mpr c4
  subst c4
  have H1 : (some false) = some r := by rw [if_neg (show ¬ (false = true) by decide)] at H; exact H
  clear H
  have H := H1
  clear H1
  obtain rfl := Option.some.inj H
  go_enter Try.func126, Try.ntmps126
  go_wp2_with (first | ((with_reducible refine gate_dst (N := 2) rfl ?_); refine box_event ?hg (N := 2) ?hd (cs := #[.int .i64 a0_0, .slice A0_1 l0_1.length c0_1]) (t := 28) ?hr ?_; (case hd => rfl); (case hg => rfl); (case hr => first | (go_simp; done) | (go_simp; rfl)); intro gb101 hg w11 hbox hb; have n0_ := asd (below_step (by repeat (first | (with_reducible first | exact HB.out | apply below_alloc | apply pw_below_drewN | apply below_drew1) | exact HB.out)) hb); have n1_ := asd (hbox); have n2_ := asd ((by rw [hg]; exact (below_size (by repeat (first | (with_reducible first | exact HB.out | apply below_alloc | apply pw_below_drewN | apply below_drew1) | exact HB.out))) : w.heap.size ≤ gb101)); have n3_ := asd ((by rw [hg]; exact (below_size (by repeat (first | (with_reducible first | exact HB.out | apply below_alloc | apply pw_below_drewN | apply below_drew1) | exact HB.out))) : w.heap.size ≤ gb101)); clear HB; have HB := n0_; have BK101 := n1_; have GW101 := n2_; have GE101 := n3_; clear n0_ n1_ n2_ n3_; clear hb hbox hg; have hcz12_0 : w11.cell? ⟨gb101, 0, none⟩ = some (.int .i64 a0_0) := (blk_cell BK101.out 0).trans rfl; have hcz12_1 : w11.cell? ⟨gb101, 1, none⟩ = some (.slice A0_1 l0_1.length c0_1) := (blk_cell BK101.out 1).trans rfl; have hfz12_0 := blk_frozen BK101.out 0; have hfz12_1 := blk_frozen BK101.out 1) | ((with_reducible refine gate_callee (f := 47) rfl ?_); refine goesL_ (some 8) rfl rfl Try.func47 (by kernel_rfl) rfl #[.agg #[.int .i64 a0_0, .slice A0_1 l0_1.length c0_1]] rfl (by (try simp only [List.map_toArray, List.map_cons, List.map_nil]); first | done | rfl | (simp only [List.length_drop, List.length_take]; rfl)) ?_; (with_reducible refine (impl_IsSpace.calls a0_0 _ _ l0_1 false _ ?side1 ?side2 A3.out).mono ?_); (case side1 => repeat (first | exact (Kd.C_below HR0_1.out HB.out) | (with_reducible refine Kd.C_alloc ?_ _) | (with_reducible refine Kd.C_drewN ?_ _) | (with_reducible refine Kd.C_drew ?_))); (case side2 => exact HC0_1.out); rintro e w13 ⟨rfl, hb⟩; refine ⟨_, rfl, ?_⟩; have n0_ := asd (blk_below (upB BK101.out) hb); have n1_ := asd (below_step (by repeat (first | (with_reducible first | exact HB.out | apply below_alloc | apply pw_below_drewN | apply below_drew1 | refine below_set ?_ GE101.out) | exact HB.out)) hb); clear BK101; clear HB; have BK101 := n0_; have HB := n1_; clear n0_ n1_; (try clear hb); (try clear hb2); (try clear hk); (try clear hi)))
  go_ret
  exact ⟨by first | rfl | (simp [errW_none, errW_some] <;> rfl) | (simp [*, errW_none, errW_some] <;> rfl), by repeat (first | (with_reducible first | exact HB.out | apply below_alloc | apply pw_below_drewN | apply below_drew1 | refine below_set ?_ GE101.out) | exact HB.out)⟩

/-! ### impl_isFull: function 88 -/
def impl_isFull.f (k : Nat) (a0_0 : Int) (l0_1 : List Int) (l1 : List Int) : Option (Bool) := (impl_isWord.f k a0_0 l0_1 l1).bind fun t102 => (if t102 = true then (some ((l1.length : Int) == a0_0)) else (some false))
theorem impl_isFull.mono : ∀ a0 a1 a2 k, LeO (impl_isFull.f k a0 a1 a2) (impl_isFull.f (k + 1) a0 a1 a2) := by
 intro a0 a1 a2 k
 unfold impl_isFull.f
 repeat' first
   | (with_reducible exact impl_isWord.mono _ _ _ _)
   | (with_reducible exact LeO.refl _)
   | (with_reducible exact LeO.none _)
   | (with_reducible refine LeO.ite ?_ ?_)
   | (with_reducible refine LeO.bind ?_ (fun _ => ?_))
   | exact impl_isWord.mono _ _ _ _
   | exact LeO.none _
   | refine LeO.ite ?_ ?_
   | refine LeO.bind ?_ (fun _ => ?_)
set_option maxHeartbeats 8000000 in
set_option maxRecDepth 100000 in
theorem impl_isFull.calls (k : Nat) (a0_0 : Int) (A0_1 : Option Addr) (c0_1 : Nat) (l0_1 : List Int) (A1 : Option Addr) (c1 : Nat) (l1 : List Int) (r : Bool) (w : World) (hr0_1 : Kd.C (Kd.int .i64) w A0_1 l0_1.length l0_1) (hc0_1 : l0_1.length ≤ c0_1) (hr1 : Kd.C (Kd.int .i64) w A1 l1.length l1) (hc1 : l1.length ≤ c1) (h : impl_isFull.f k a0_0 l0_1 l1 = some r) :
  Calls Try.prog 88 #[.agg #[.int .i64 a0_0, .slice A0_1 l0_1.length c0_1], .slice A1 l1.length c1] w fun e w' => e = .returned (.bool r) ∧ Below w.heap.size w w' := by
 have hu28 := Try.underlying28
 have HR0_1 := asd hr0_1
 have HC0_1 := asd hc0_1
 clear hr0_1 hc0_1
 have HR1 := asd hr1
 have HC1 := asd hc1
 clear hr1 hc1
 have HB := asd (Below.refl w.heap.size w)
 have H : ((impl_isWord.f k a0_0 l0_1 l1).bind fun t102 => (if t102 = true then (some ((l1.length : Int) == a0_0)) else (some false))) = some r := h
 clear h
 replace H := Option.bind_eq_some_iff.mp H
 obtain ⟨t102, A30, H⟩ := H
 replace H : (if t102 = true then (some ((l1.length : Int) == a0_0)) else (some false)) = some r := H
 have A3 := asd A30
 clear A30
 by_cases c4 : t102 = true
 ·
  subst c4
  have H1 : (some ((l1.length : Int) == a0_0)) = some r := by rw [if_pos rfl] at H; exact H
  clear H
  have H := H1
  clear H1
  obtain rfl := Option.some.inj H
  go_enter Try.func88, Try.ntmps88
  go_wp2_with (first | ((with_reducible refine gate_dst (N := 2) rfl ?_); (try (refine gate_guard (by rfl) ?_; dsimp only)); refine box_event ?hg (N := 2) ?hd (cs := #[.int .i64 a0_0, .slice A0_1 l0_1.length c0_1]) (t := 28) ?hr ?_; (case hd => rfl); (case hg => rfl); (case hr => first | (go_simp; done) | (go_simp; rfl)); intro gb101 hg w5 hbox hb; have n0_ := asd (below_step (by repeat (first | (with_reducible first | exact HB.out | apply below_alloc | apply pw_below_drewN | apply below_drew1) | exact HB.out)) hb); have n1_ := asd (hbox); have n2_ := asd ((by rw [hg]; exact (below_size (by repeat (first | (with_reducible first | exact HB.out | apply below_alloc | apply pw_below_drewN | apply below_drew1) | exact HB.out))) : w.heap.size ≤ gb101)); have n3_ := asd ((by rw [hg]; exact (below_size (by repeat (first | (with_reducible first | exact HB.out | apply below_alloc | apply pw_below_drewN | apply below_drew1) | exact HB.out))) : w.heap.size ≤ gb101)); clear HB; have HB := n0_; have BK101 := n1_; have GW101 := n2_; have GE101 := n3_; clear n0_ n1_ n2_ n3_; clear hb hbox hg; have hcz6_0 : w5.cell? ⟨gb101, 0, none⟩ = some (.int .i64 a0_0) := (blk_cell BK101.out 0).trans rfl; have hcz6_1 : w5.cell? ⟨gb101, 1, none⟩ = some (.slice A0_1 l0_1.length c0_1) := (blk_cell BK101.out 1).trans rfl; have hfz6_0 := blk_frozen BK101.out 0; have hfz6_1 := blk_frozen BK101.out 1) | ((with_reducible refine gate_callee (f := 126) rfl ?_); refine goesL_ (some 7) rfl rfl Try.func126 (by kernel_rfl) rfl #[.agg #[.int .i64 a0_0, .slice A0_1 l0_1.length c0_1], .slice A1 l1.length c1] rfl (by (try simp only [List.map_toArray, List.map_cons, List.map_nil]); first | done | rfl | (simp only [List.length_drop, List.length_take]; rfl)) ?_; (with_reducible refine (impl_isWord.calls k a0_0 _ _ l0_1 _ _ l1 true _ ?side1 ?side2 ?side3 ?side4 A3.out).mono ?_); (case side1 => repeat (first | exact (Kd.C_below HR0_1.out HB.out) | (with_reducible refine Kd.C_alloc ?_ _) | (with_reducible refine Kd.C_drewN ?_ _) | (with_reducible refine Kd.C_drew ?_))); (case side2 => exact HC0_1.out); (case side3 => repeat (first | exact (Kd.C_below HR1.out HB.out) | (with_reducible refine Kd.C_alloc ?_ _) | (with_reducible refine Kd.C_drewN ?_ _) | (with_reducible refine Kd.C_drew ?_))); (case side4 => exact HC1.out); rintro e w7 ⟨rfl, hb⟩; refine ⟨_, rfl, ?_⟩; have n0_ := asd (blk_below (upB BK101.out) hb); have n1_ := asd (below_step (by repeat (first | (with_reducible first | exact HB.out | apply below_alloc | apply pw_below_drewN | apply below_drew1 | refine below_set ?_ GE101.out) | exact HB.out)) hb); clear BK101; clear HB; have BK101 := n0_; have HB := n1_; clear n0_ n1_; (try clear hb); (try clear hb2); (try clear hk); (try clear hi); have hcz8_0 : w7.cell? ⟨gb101, 0, none⟩ = some (.int .i64 a0_0) := (blk_cell BK101.out 0).trans rfl; have hcz8_1 : w7.cell? ⟨gb101, 1, none⟩ = some (.slice A0_1 l0_1.length c0_1) := (blk_cell BK101.out 1).trans rfl; have hfz8_0 := blk_frozen BK101.out 0; have hfz8_1 := blk_frozen BK101.out 1))
  go_ret
  exact ⟨by first | rfl | (simp [errW_none, errW_some] <;> rfl) | (simp [*, errW_none, errW_some] <;> rfl), by repeat (first | (with_reducible first | exact HB.out | apply below_alloc | apply pw_below_drewN | apply below_drew1 | refine below_set ?_ GE101.out) | exact HB.out)⟩
 ·
  replace c4 := Bool.eq_false_iff.mpr c4
  subst c4
  have H1 : (some false) = some r := by rw [if_neg (show ¬ (false = true) by decide)] at H; exact H
  clear H
  have H := H1
  clear H1
  obtain rfl := Option.some.inj H
  go_enter Try.func88, Try.ntmps88
  go_wp2_with (first | ((with_reducible refine gate_dst (N := 2) rfl ?_); (try (refine gate_guard (by rfl) ?_; dsimp only)); refine box_event ?hg (N := 2) ?hd (cs := #[.int .i64 a0_0, .slice A0_1 l0_1.length c0_1]) (t := 28) ?hr ?_; (case hd => rfl); (case hg => rfl); (case hr => first | (go_simp; done) | (go_simp; rfl)); intro gb101 hg w9 hbox hb; have n0_ := asd (below_step (by repeat (first | (with_reducible first | exact HB.out | apply below_alloc | apply pw_below_drewN | apply below_drew1) | exact HB.out)) hb); have n1_ := asd (hbox); have n2_ := asd ((by rw [hg]; exact (below_size (by repeat (first | (with_reducible first | exact HB.out | apply below_alloc | apply pw_below_drewN | apply below_drew1) | exact HB.out))) : w.heap.size ≤ gb101)); have n3_ := asd ((by rw [hg]; exact (below_size (by repeat (first | (with_reducible first | exact HB.out | apply below_alloc | apply pw_below_drewN | apply below_drew1) | exact HB.out))) : w.heap.size ≤ gb101)); clear HB; have HB := n0_; have BK101 := n1_; have GW101 := n2_; have GE101 := n3_; clear n0_ n1_ n2_ n3_; clear hb hbox hg; have hcz10_0 : w9.cell? ⟨gb101, 0, none⟩ = some (.int .i64 a0_0) := (blk_cell BK101.out 0).trans rfl; have hcz10_1 : w9.cell? ⟨gb101, 1, none⟩ = some (.slice A0_1 l0_1.length c0_1) := (blk_cell BK101.out 1).trans rfl; have hfz10_0 := blk_frozen BK101.out 0; have hfz10_1 := blk_frozen BK101.out 1) | ((with_reducible refine gate_callee (f := 126) rfl ?_); refine goesL_ (some 7) rfl rfl Try.func126 (by kernel_rfl) rfl #[.agg #[.int .i64 a0_0, .slice A0_1 l0_1.length c0_1], .slice A1 l1.length c1] rfl (by (try simp only [List.map_toArray, List.map_cons, List.map_nil]); first | done | rfl | (simp only [List.length_drop, List.length_take]; rfl)) ?_; (with_reducible refine (impl_isWord.calls k a0_0 _ _ l0_1 _ _ l1 false _ ?side1 ?side2 ?side3 ?side4 A3.out).mono ?_); (case side1 => repeat (first | exact (Kd.C_below HR0_1.out HB.out) | (with_reducible refine Kd.C_alloc ?_ _) | (with_reducible refine Kd.C_drewN ?_ _) | (with_reducible refine Kd.C_drew ?_))); (case side2 => exact HC0_1.out); (case side3 => repeat (first | exact (Kd.C_below HR1.out HB.out) | (with_reducible refine Kd.C_alloc ?_ _) | (with_reducible refine Kd.C_drewN ?_ _) | (with_reducible refine Kd.C_drew ?_))); (case side4 => exact HC1.out); rintro e w11 ⟨rfl, hb⟩; refine ⟨_, rfl, ?_⟩; have n0_ := asd (blk_below (upB BK101.out) hb); have n1_ := asd (below_step (by repeat (first | (with_reducible first | exact HB.out | apply below_alloc | apply pw_below_drewN | apply below_drew1 | refine below_set ?_ GE101.out) | exact HB.out)) hb); clear BK101; clear HB; have BK101 := n0_; have HB := n1_; clear n0_ n1_; (try clear hb); (try clear hb2); (try clear hk); (try clear hi)))
  go_ret
  exact ⟨by first | rfl | (simp [errW_none, errW_some] <;> rfl) | (simp [*, errW_none, errW_some] <;> rfl), by repeat (first | (with_reducible first | exact HB.out | apply below_alloc | apply pw_below_drewN | apply below_drew1 | refine below_set ?_ GE101.out) | exact HB.out)⟩

-- HAND with impl.within
theorem within_ok (x a b : Int) : impl_within.f x a b = some (decide (a ≤ x) && decide (x ≤ b)) := by
  unfold impl_within.f
  by_cases h : a ≤ x
  · rw [if_pos h]; simp [h]
  · rw [if_neg h]; simp [h]

-- HAND with (impl.Space).setOf+impl.isWord+impl.isFull+impl.IsSpace+impl.within+(impl.Space).family
/-- Is a list, behind a set, a word of the space? -/
def wordB (n : Int) (F : List Bool) : Nat → List Int → Bool
  | _, [] => true
  | x, i :: B => (((decide (0 ≤ i) && decide (i ≤ n - 1)) && !x.testBit i.toNat) && F.getD (x ||| 2 ^ i.toNat) false) && wordB n F (x ||| 2 ^ i.toNat) B
theorem setOf_loop {n : Int} {l : List Int} (hS : isSpaceB n l = true) (G : List Int) (hGl : G.length ≤ 9223372036854775807) : ∀ (B A : List Int) (x : Nat), A ++ B = G → x < 128 → ∃ y : Int, Ev (fun k => impl_Space_setOf.l0 k (famOf l) x G G.length A.length n l) (y, wordB n (famOf l) x B)
  | [], A, x, hA, hx => by
    rw [List.append_nil] at hA
    subst hA
    exact ⟨x, show Ev _ ((x : Int), true) from Ev.succ (fun k => by simp only [impl_Space_setOf.l0]; rw [if_neg (by omega)]) (Ev.const rfl)⟩
  | i :: B, A, x, hA, hx => by
    obtain ⟨n1, n7, _⟩ := isSpaceB_parts hS
    have hlt : A.length < G.length := by rw [← hA]; simp
    have hrd : rd G (A.length : Int) = i := by rw [← hA]; exact rd_append A B i
    have hws : wrap64 ((A.length : Int) + 1) = A.length + 1 := wrap_succ (by omega) (by omega)
    have hw : wrap64 (n - 1) = n - 1 := wrap_in (by omega) (by omega)
    by_cases hi : 0 ≤ i ∧ i ≤ n - 1
    · have hin : (decide (0 ≤ i) && decide (i ≤ n - 1)) = true := by simp [hi]
      obtain ⟨i, rfl⟩ := Int.eq_ofNat_of_zero_le hi.1
      have h2i : 2 ^ i < 128 := two_lt128 (by omega)
      have hy : x ||| 2 ^ i < 128 := Nat.or_lt_two_pow (n := 7) hx h2i
      have hbits : Go.bits .or .i64 (x : Int) (shl .i64 1 (i : Int)) = ((x ||| 2 ^ i : Nat) : Int) := by rw [shl_nat (by omega) (by omega), Int.toNat_natCast, bits_or x (2 ^ i) (by omega) (by omega)]
      cases hb : x.testBit i with
      | true =>
        refine ⟨0, ?_⟩
        rw [show wordB n (famOf l) x ((i : Int) :: B) = false by simp [wordB, hb]]
        refine Ev.succ (fun k => by simp only [impl_Space_setOf.l0]; rw [if_pos (by omega), if_pos (by omega), if_pos (by omega), hrd, hw]) ?_
        refine Ev.bindc (within_ok _ _ _) ?_
        exact Ev.to (fun k => by rw [hin, if_pos rfl, if_pos (by omega), shr_nat x i (by omega), bit_and x i (lt63 hx), hb, if_pos (show (if true = true then (1 : Int) else 0) = 1 from rfl)]) (Ev.const rfl)
      | false =>
        have hrf : rdOf false (famOf l) ((x ||| 2 ^ i : Nat) : Int) = (famOf l).getD (x ||| 2 ^ i) false := by
          show (famOf l).getD (((x ||| 2 ^ i : Nat) : Int)).toNat false = _
          rw [Int.toNat_natCast]
        cases hf : (famOf l).getD (x ||| 2 ^ i) false with
        | false =>
          refine ⟨0, ?_⟩
          rw [show wordB n (famOf l) x ((i : Int) :: B) = false by simp only [wordB, Int.toNat_natCast]; rw [hf]; simp]
          refine Ev.succ (fun k => by simp only [impl_Space_setOf.l0]; rw [if_pos (by omega), if_pos (by omega), if_pos (by omega), hrd, hw]) ?_
          refine Ev.bindc (within_ok _ _ _) ?_
          exact Ev.to (fun k => by rw [hin, if_pos rfl, if_pos (by omega), shr_nat x i (by omega), bit_and x i (lt63 hx), hb, if_neg (show ¬ (if false = true then (1 : Int) else 0) = 1 by decide), hbits, if_pos (by omega), if_pos (by omega), hrf, hf, if_neg (by decide)]) (Ev.const rfl)
        | true =>
          obtain ⟨y, h⟩ := setOf_loop hS G hGl B (A ++ [(i : Int)]) (x ||| 2 ^ i) (by rw [List.append_assoc]; exact hA) hy
          rw [List.length_append, List.length_singleton] at h
          push_cast at h
          refine ⟨y, ?_⟩
          rw [show wordB n (famOf l) x ((i : Int) :: B) = wordB n (famOf l) (x ||| 2 ^ i) B by simp only [wordB, Int.toNat_natCast]; rw [hf, hb, hin]; rfl]
          refine Ev.succ (fun k => by simp only [impl_Space_setOf.l0]; rw [if_pos (by omega), if_pos (by omega), if_pos (by omega), hrd, hw, hws]) ?_
          refine Ev.bindc (within_ok _ _ _) ?_
          exact Ev.to (fun k => by rw [hin, if_pos rfl, if_pos (by omega), shr_nat x i (by omega), bit_and x i (lt63 hx), hb, if_neg (show ¬ (if false = true then (1 : Int) else 0) = 1 by decide), hbits, if_pos (by omega), if_pos (by omega), hrf, hf, if_pos rfl]) h
    · have hin : (decide (0 ≤ i) && decide (i ≤ n - 1)) = false := by simp; omega
      refine ⟨0, ?_⟩
      rw [show wordB n (famOf l) x (i :: B) = false by simp only [wordB]; rw [hin]; rfl]
      refine Ev.succ (fun k => by simp only [impl_Space_setOf.l0]; rw [if_pos (by omega), if_pos (by omega), if_pos (by omega), hrd, hw]) ?_
      refine Ev.bindc (within_ok _ _ _) ?_
      exact Ev.to (fun k => by rw [hin, if_neg (by decide)]) (Ev.const rfl)
/-- Is a list a full word? -/
def fullV (n : Int) (l : List Int) (G : List Int) : Bool := if wordB n (famOf l) 0 G = true then ((G.length : Int) == n) else false
theorem isFull_ok {n : Int} {l : List Int} (hS : isSpaceB n l = true) (G : List Int) (hGl : G.length ≤ 9223372036854775807) : Ev (fun k => impl_isFull.f k n l G) (fullV n l G) := by
  obtain ⟨y, hy⟩ := setOf_loop hS G hGl G [] 0 rfl (by decide)
  have hset : Ev (fun k => impl_Space_setOf.f k n l G) (y, wordB n (famOf l) 0 G) := by
    unfold impl_Space_setOf.f
    exact Ev.bindc (family_f hS) hy
  have hword : Ev (fun k => impl_isWord.f k n l G) (wordB n (famOf l) 0 G) := by
    unfold impl_isWord.f
    refine Ev.bindc (show impl_IsSpace.f n l = some (isSpaceB n l) from rfl) ?_
    refine Ev.to (fun k => by rw [hS, if_pos rfl]) ?_
    exact Ev.bind hset (Ev.const rfl)
  unfold impl_isFull.f fullV
  refine Ev.bind hword ?_
  cases wordB n (famOf l) 0 G with
  | true => exact show Ev _ ((G.length : Int) == n) from Ev.to (fun k => by rw [if_pos rfl]) (Ev.const rfl)
  | false => exact show Ev _ false from Ev.to (fun k => by rw [if_neg (by decide)]) (Ev.const rfl)

-- HAND with spec.woFull+spec.woSet+spec.l1In+spec.spIn+spec.spHas+spec.spGood
theorem woSet_loop {n : Int} {l : List Int} (hS : isSpaceB n l = true) (G : List Int) (hGl : G.length < 9223372036854775807) : ∀ (B A : List Int) (x : Nat), A ++ B = G → x < 128 → ∃ y : Int, Ev (fun k => spec_woSet.l0 k x G G.length A.length n l) (y, wordB n (famOf l) x B)
  | [], A, x, hA, hx => by
    rw [List.append_nil] at hA
    subst hA
    exact ⟨x, show Ev _ ((x : Int), true) from Ev.succ (fun k => by simp only [spec_woSet.l0]; rw [if_neg (by omega)]) (Ev.const rfl)⟩
  | i :: B, A, x, hA, hx => by
    obtain ⟨n1, n7, _⟩ := isSpaceB_parts hS
    have hlt : A.length < G.length := by rw [← hA]; simp
    have hrd : rd G (A.length : Int) = i := by rw [← hA]; exact rd_append A B i
    have hws : wrap64 ((A.length : Int) + 1) = A.length + 1 := wrap_succ (by omega) (by omega)
    have hw : wrap64 (n - 1) = n - 1 := wrap_in (by omega) (by omega)
    by_cases hi : 0 ≤ i ∧ i ≤ n - 1
    · have hin : (decide (0 ≤ i) && decide (i ≤ n - 1)) = true := by simp [hi]
      obtain ⟨i, rfl⟩ := Int.eq_ofNat_of_zero_le hi.1
      have h2i : 2 ^ i < 128 := two_lt128 (by omega)
      have hy : x ||| 2 ^ i < 128 := Nat.or_lt_two_pow (n := 7) hx h2i
      have hbits : Go.bits .or .i64 (x : Int) (shl .i64 1 (i : Int)) = ((x ||| 2 ^ i : Nat) : Int) := by rw [shl_nat (by omega) (by omega), Int.toNat_natCast, bits_or x (2 ^ i) (by omega) (by omega)]
      cases hb : x.testBit i with
      | true =>
        refine ⟨0, ?_⟩
        rw [show wordB n (famOf l) x ((i : Int) :: B) = false by simp [wordB, hb]]
        refine Ev.succ (fun k => by simp only [spec_woSet.l0]; rw [if_pos (by omega), if_pos (by omega), if_pos (by omega), hrd, hw]) ?_
        refine Ev.bindc (l1In_ok _ _ _) ?_
        refine Ev.to (fun k => by rw [hin, if_pos rfl]) ?_
        refine Ev.bindc (spIn_ok x i (by omega)) ?_
        exact Ev.to (fun k => by rw [hb, if_pos rfl]) (Ev.const rfl)
      | false =>
        have hhas := spHas_ok (risingB_rise (isSpaceB_parts hS).2.2.2.1) (by have := isSpaceB_len hS; omega) (((x ||| 2 ^ i : Nat) : Int))
        have hmem : decide ((((x ||| 2 ^ i : Nat) : Int)) ∈ l) = (famOf l).getD (x ||| 2 ^ i) false := (famOf_getD l _ hy).symm
        rw [hmem] at hhas
        cases hf : (famOf l).getD (x ||| 2 ^ i) false with
        | false =>
          rw [hf] at hhas
          refine ⟨0, ?_⟩
          rw [show wordB n (famOf l) x ((i : Int) :: B) = false by simp only [wordB, Int.toNat_natCast]; rw [hf]; simp]
          refine Ev.succ (fun k => by simp only [spec_woSet.l0]; rw [if_pos (by omega), if_pos (by omega), if_pos (by omega), hrd, hw]) ?_
          refine Ev.bindc (l1In_ok _ _ _) ?_
          refine Ev.to (fun k => by rw [hin, if_pos rfl]) ?_
          refine Ev.bindc (spIn_ok x i (by omega)) ?_
          refine Ev.to (fun k => by rw [hb, if_neg (by decide), if_pos (by omega), hbits]) ?_
          refine Ev.bind hhas ?_
          exact Ev.to (fun k => by rw [if_neg (by decide)]) (Ev.const rfl)
        | true =>
          rw [hf] at hhas
          obtain ⟨y, h⟩ := woSet_loop hS G hGl B (A ++ [(i : Int)]) (x ||| 2 ^ i) (by rw [List.append_assoc]; exact hA) hy
          rw [List.length_append, List.length_singleton] at h
          push_cast at h
          refine ⟨y, ?_⟩
          rw [show wordB n (famOf l) x ((i : Int) :: B) = wordB n (famOf l) (x ||| 2 ^ i) B by simp only [wordB, Int.toNat_natCast]; rw [hf, hb, hin]; rfl]
          refine Ev.succ (fun k => by simp only [spec_woSet.l0]; rw [if_pos (by omega), if_pos (by omega), if_pos (by omega), hrd, hw, hws]) ?_
          refine Ev.bindc (l1In_ok _ _ _) ?_
          refine Ev.to (fun k => by rw [hin, if_pos rfl]) ?_
          refine Ev.bindc (spIn_ok x i (by omega)) ?_
          refine Ev.to (fun k => by rw [hb, if_neg (by decide), if_pos (by omega), hbits]) ?_
          refine Ev.bind hhas ?_
          exact Ev.to (fun k => by rw [if_pos rfl]) h
    · have hin : (decide (0 ≤ i) && decide (i ≤ n - 1)) = false := by simp; omega
      refine ⟨0, ?_⟩
      rw [show wordB n (famOf l) x (i :: B) = false by simp only [wordB]; rw [hin]; rfl]
      refine Ev.succ (fun k => by simp only [spec_woSet.l0]; rw [if_pos (by omega), if_pos (by omega), if_pos (by omega), hrd, hw]) ?_
      refine Ev.bindc (l1In_ok _ _ _) ?_
      exact Ev.to (fun k => by rw [hin, if_neg (by decide)]) (Ev.const rfl)
theorem woFull_ok {n : Int} {l : List Int} (hS : isSpaceB n l = true) (G : List Int) : Ev (fun k => spec_woFull.f k n l G) (fullV n l G) := by
  have hll := isSpaceB_len hS
  obtain ⟨n1, n7, _⟩ := isSpaceB_parts hS
  unfold spec_woFull.f
  refine Ev.bind (spGood_ok n l (by omega)) ?_
  refine Ev.to (fun k => by rw [hS, if_pos rfl]) ?_
  unfold fullV
  by_cases hn : (G.length : Int) = n
  · obtain ⟨y, hy⟩ := woSet_loop hS G (by omega) G [] 0 rfl (by decide)
    have hset : Ev (fun k => spec_woSet.f k n l G) (y, wordB n (famOf l) 0 G) := hy
    refine Ev.to (fun k => by rw [if_pos hn]) ?_
    refine Ev.bind hset ?_
    refine Ev.const ?_
    cases hw : wordB n (famOf l) 0 G with
    | true => rw [if_pos rfl, beq_iff_eq.mpr hn]
    | false => rw [if_neg (by decide)]
  · refine Ev.val (Ev.to (g := fun _ => some false) (fun k => by rw [if_neg hn]) (Ev.const rfl)) ?_
    split
    · exact (beq_eq_false_iff_ne.mpr hn).symm
    · rfl

/-! ### spec_l1Same: function 84 -/
def spec_l1Same.l0 : Nat → List Int → List Int → Int → Int → Option (Bool)
 | 0, _, _, _, _ => none
 | k + 1, x0, x1, x12, x13 => if x13 < x12 then (if 0 ≤ x13 then (if x13 < (x0.length : Int) then (if x13 < (x1.length : Int) then (if (rd x0 x13) = (rd x1 x13) then (spec_l1Same.l0 k x0 x1 x12 (wrap64 (x13 + 1))) else (some false)) else (none)) else (none)) else (none)) else (some true)
def spec_l1Same.f (k : Nat) (l0 : List Int) (l1 : List Int) : Option (Bool) := if (l0.length : Int) = (l1.length : Int) then (spec_l1Same.l0 k l0 l1 (l0.length : Int) 0) else (some false)
theorem spec_l1Same.mono_l : ∀ k, (∀ y0 y1 y2 y3, LeO (spec_l1Same.l0 k y0 y1 y2 y3) (spec_l1Same.l0 (k + 1) y0 y1 y2 y3))
 | 0 => fun _ _ _ _ r h => by simp [spec_l1Same.l0] at h
 | k + 1 => by
  have ih0 := spec_l1Same.mono_l k
  ·
   intro y0 y1 y2 y3
   unfold spec_l1Same.l0
   repeat' first
   | (with_reducible exact ih0 _ _ _ _)
   | (with_reducible exact LeO.refl _)
   | (with_reducible exact LeO.none _)
   | (with_reducible refine LeO.ite ?_ ?_)
   | (with_reducible refine LeO.bind ?_ (fun _ => ?_))
   | exact ih0 _ _ _ _
   | exact LeO.none _
   | refine LeO.ite ?_ ?_
   | refine LeO.bind ?_ (fun _ => ?_)
theorem spec_l1Same.mono : ∀ a0 a1 k, LeO (spec_l1Same.f k a0 a1) (spec_l1Same.f (k + 1) a0 a1) := by
 intro a0 a1 k
 have ih0 := spec_l1Same.mono_l k
 unfold spec_l1Same.f
 repeat' first
   | (with_reducible exact ih0 _ _ _ _)
   | (with_reducible exact LeO.refl _)
   | (with_reducible exact LeO.none _)
   | (with_reducible refine LeO.ite ?_ ?_)
   | (with_reducible refine LeO.bind ?_ (fun _ => ?_))
   | exact ih0 _ _ _ _
   | exact LeO.none _
   | refine LeO.ite ?_ ?_
   | refine LeO.bind ?_ (fun _ => ?_)
set_option maxHeartbeats 8000000 in
set_option maxRecDepth 100000 in
theorem spec_l1Same.calls (k : Nat) (A0 : Option Addr) (c0 : Nat) (l0 : List Int) (A1 : Option Addr) (c1 : Nat) (l1 : List Int) (r : Bool) (w : World) (hr0 : Kd.C (Kd.int .i64) w A0 l0.length l0) (hc0 : l0.length ≤ c0) (hr1 : Kd.C (Kd.int .i64) w A1 l1.length l1) (hc1 : l1.length ≤ c1) (h : spec_l1Same.f k l0 l1 = some r) :
  Calls Try.prog 84 #[.slice A0 l0.length c0, .slice A1 l1.length c1] w fun e w' => e = .returned (.bool r) ∧ Drawn0 w w' := by
 have HR0 := asd hr0
 have HC0 := asd hc0
 clear hr0 hc0
 have HR1 := asd hr1
 have HC1 := asd hc1
 clear hr1 hc1
 have H : (if (l0.length : Int) = (l1.length : Int) then (spec_l1Same.l0 k l0 l1 (l0.length : Int) 0) else (some false)) = some r := h
 clear h
 by_cases c3 : (l0.length : Int) = (l1.length : Int)
 ·
  rw [if_pos c3] at H
  have c3b0 : ((l0.length : Int) == (l1.length : Int)) = true := beq_iff_eq.mpr c3
  have c3b1 : ((l0.length : Int) != (l1.length : Int)) = false := bne_eq_false_iff_eq.mpr c3
  have c3b2 : (l0.length == l1.length) = true := by first | simpa using c3 | (simp at c3 ⊢; omega)
  clear c3
  have H' := asd H
  clear H
  go_enter Try.func84, Try.ntmps84
  go_wp2
  repeat (go_quiet (fail); try go_wp2)
  go_loopg [13] k (fun kq v13 w' => ∃ (x13_1 : Int), v13 = .int .i64 x13_1 ∧ Aside0 (spec_l1Same.l0 kq l0 l1 (l0.length : Int) x13_1 = some r) ∧ Aside0 (kq ≤ k) ∧ Drawn0 w w')
  case atStart => exact ⟨(0), (by first | rfl | (simp; done) | (simp [*]; done)), H', ⟨Nat.le_refl _⟩, by repeat (first | exact Drawn0.refl _ | apply Drawn0.step)⟩
  case round =>
   clear H'
   try clear c1
   try clear p2
   try clear c3
   try clear c3b0
   try clear c3b1
   try clear c3b2
   skip
   obtain ⟨x13_1, rfl, HA, HK1, ⟨m1, rfl⟩⟩ := hrel
   cases gk with
   | zero => exact absurd HA.out (by simp [spec_l1Same.l0])
   | succ k1 =>
    have H := HA.out
    clear HA
    simp only [spec_l1Same.l0] at H
    by_cases c4 : x13_1 < (l0.length : Int)
    ·
     rw [if_pos c4] at H
     have c4b0 : decide (x13_1 < (l0.length : Int)) = true := decide_eq_true c4
     clear c4
     by_cases c5 : 0 ≤ x13_1
     ·
      rw [if_pos c5] at H
      have c5b0 : decide (0 ≤ x13_1) = true := decide_eq_true c5
      clear c5
      by_cases c6 : x13_1 < (l0.length : Int)
      ·
       rw [if_pos c6] at H
       have c6b0 : decide (x13_1 < (l0.length : Int)) = true := decide_eq_true c6
       clear c6
       by_cases c7 : x13_1 < (l1.length : Int)
       ·
        rw [if_pos c7] at H
        have c7b0 : decide (x13_1 < (l1.length : Int)) = true := decide_eq_true c7
        clear c7
        by_cases c8 : (rd l0 x13_1) = (rd l1 x13_1)
        ·
         rw [if_pos c8] at H
         have c8b0 : ((rd l0 x13_1) == (rd l1 x13_1)) = true := beq_iff_eq.mpr c8
         have c8b1 : ((rd l0 x13_1) != (rd l1 x13_1)) = false := bne_eq_false_iff_eq.mpr c8
         clear c8
         have H' := asd H
         clear H
         have p101 : 0 ≤ (x13_1 : Int) := of_decide_eq_true (by first | (with_reducible assumption) | assumption)
         have q101 : x13_1 < (l0.length : Int) := of_decide_eq_true (by first | (with_reducible assumption) | assumption)
         obtain ⟨ad101, e101, hx101_0⟩ := Kd.at_int HR0.out x13_1 p101 q101
         cases e101
         replace p101 := eq_true p101
         replace q101 := eq_true q101
         have p102 : 0 ≤ (x13_1 : Int) := of_decide_eq_true (by first | (with_reducible assumption) | assumption)
         have q102 : x13_1 < (l1.length : Int) := of_decide_eq_true (by first | (with_reducible assumption) | assumption)
         obtain ⟨ad102, e102, hx102_0⟩ := Kd.at_int HR1.out x13_1 p102 q102
         cases e102
         replace p102 := eq_true p102
         replace q102 := eq_true q102
         go_wp2
         repeat (go_quiet (fail); try go_wp2)
         go_roundg k1
         case measure => have := HK1.out; omega
         case rel => exact ⟨(wrap64 (x13_1 + 1)), (by first | rfl | (simp; done) | (simp [*]; done)), H', ⟨by have := HK1.out; omega⟩, by repeat (first | exact Drawn0.refl _ | apply Drawn0.step)⟩
        ·
         rw [if_neg c8] at H
         have c8b0 : ((rd l0 x13_1) == (rd l1 x13_1)) = false := beq_eq_false_iff_ne.mpr c8
         have c8b1 : ((rd l0 x13_1) != (rd l1 x13_1)) = true := bne_iff_ne.mpr c8
         obtain rfl := Option.some.inj H
         have p101 : 0 ≤ (x13_1 : Int) := of_decide_eq_true (by first | (with_reducible assumption) | assumption)
         have q101 : x13_1 < (l0.length : Int) := of_decide_eq_true (by first | (with_reducible assumption) | assumption)
         obtain ⟨ad101, e101, hx101_0⟩ := Kd.at_int HR0.out x13_1 p101 q101
         cases e101
         replace p101 := eq_true p101
         replace q101 := eq_true q101
         have p102 : 0 ≤ (x13_1 : Int) := of_decide_eq_true (by first | (with_reducible assumption) | assumption)
         have q102 : x13_1 < (l1.length : Int) := of_decide_eq_true (by first | (with_reducible assumption) | assumption)
         obtain ⟨ad102, e102, hx102_0⟩ := Kd.at_int HR1.out x13_1 p102 q102
         cases e102
         replace p102 := eq_true p102
         replace q102 := eq_true q102
         go_wp2
         repeat (go_quiet (fail); try go_wp2)
         go_ret
         exact ⟨by first | rfl | (simp; done) | (simp [*]; done), by repeat (first | exact Drawn0.refl _ | apply Drawn0.step)⟩
       ·
        rw [if_neg c7] at H
        exact absurd H (by simp)
      ·
       rw [if_neg c6] at H
       exact absurd H (by simp)
     ·
      rw [if_neg c5] at H
      exact absurd H (by simp)
    ·
     rw [if_neg c4] at H
     have c4b0 : decide (x13_1 < (l0.length : Int)) = false := decide_eq_false c4
     clear c4
     obtain rfl := Option.some.inj H
     go_wp2
     repeat (go_quiet (fail); try go_wp2)
     go_ret
     exact ⟨by first | rfl | (simp; done) | (simp [*]; done), by repeat (first | exact Drawn0.refl _ | apply Drawn0.step)⟩
 ·
  rw [if_neg c3] at H
  have c3b0 : ((l0.length : Int) == (l1.length : Int)) = false := beq_eq_false_iff_ne.mpr c3
  have c3b1 : ((l0.length : Int) != (l1.length : Int)) = true := bne_iff_ne.mpr c3
  have c3b2 : (l0.length == l1.length) = false := by first | simpa using c3 | (simp at c3 ⊢; omega)
  obtain rfl := Option.some.inj H
  go_enter Try.func84, Try.ntmps84
  go_wp2
  repeat (go_quiet (fail); try go_wp2)
  go_ret
  exact ⟨by first | rfl | (simp; done) | (simp [*]; done), by repeat (first | exact Drawn0.refl _ | apply Drawn0.step)⟩

-- HAND with spec.l1Same
theorem l1Same_loop (a b : List Int) (hlen : a.length < 9223372036854775807) (he : a.length = b.length) : ∀ (d i : Nat), a.length - i = d → i ≤ a.length → (∀ j, j < i → a[j]? = b[j]?) → Ev (fun k => spec_l1Same.l0 k a b a.length i) (decide (a = b)) := by
  intro d
  induction d with
  | zero =>
    intro i hd hi hj
    refine Ev.succ (fun k => by simp only [spec_l1Same.l0]; rw [if_neg (by omega)]) (Ev.const (congrArg some ?_))
    symm
    rw [decide_eq_true_eq]
    apply List.ext_getElem?
    intro j
    rcases Nat.lt_or_ge j i with h | h
    · exact hj j h
    · rw [List.getElem?_eq_none (by omega), List.getElem?_eq_none (by omega)]
  | succ d ih =>
    intro i hd hi hj
    have ha : i < a.length := by omega
    have hb : i < b.length := by omega
    by_cases e : rd a (i : Int) = rd b (i : Int)
    · refine Ev.succ (fun k => by simp only [spec_l1Same.l0]; rw [if_pos (by omega), if_pos (by omega), if_pos (by omega), if_pos (by omega), if_pos e, wrap_succ (by omega) (by omega)]) ?_
      refine ih (i + 1) (by omega) (by omega) (fun j hji => ?_)
      rcases Nat.lt_or_ge j i with h | h
      · exact hj j h
      · obtain rfl : j = i := by omega
        rw [rd_get ha, rd_get hb] at e
        rw [List.getElem?_eq_getElem ha, List.getElem?_eq_getElem hb, e]
    · refine Ev.succ (fun k => by simp only [spec_l1Same.l0]; rw [if_pos (by omega), if_pos (by omega), if_pos (by omega), if_pos (by omega), if_neg e]) (Ev.const (congrArg some ?_))
      symm
      rw [decide_eq_false_iff_not]
      intro h
      exact e (by rw [h])
theorem l1Same_ok (a b : List Int) (hlen : a.length < 9223372036854775807) : Ev (fun k => spec_l1Same.f k a b) (decide (a = b)) := by
  by_cases he : a.length = b.length
  · refine Ev.to (fun k => by unfold spec_l1Same.f; rw [if_pos (by omega)]) ?_
    exact l1Same_loop a b hlen he a.length 0 (by omega) (by omega) (fun j h => absurd h (Nat.not_lt_zero _))
  · refine Ev.to (fun k => by unfold spec_l1Same.f; rw [if_neg (by omega)]) (Ev.const (congrArg some ?_))
    symm
    rw [decide_eq_false_iff_not]
    intro h
    exact he (by rw [h])

-- HAND with (impl.Space).setOf+impl.isWord+impl.isFull+impl.IsSpace+impl.within+(impl.Space).family
/-- What the claim's two sides tell. -/
def wordsV (n : Int) (l : List Int) (ws : List (List Int)) : Option (Bool × Bool) := if isSpaceB n l = true ∧ ws.length ≤ 200 then (if (ws.all fun x => fullV n l x) = true then some (decide (((distL [] ws).length : Int) = (cntW (famOf l) n.toNat 0 : Int)), true) else some (false, true)) else some (false, false)
theorem fullV_lenS {n : Int} {l : List Int} (hS : isSpaceB n l = true) {x : List Int} (h : fullV n l x = true) : x.length ≤ 7 := by
  obtain ⟨n1, n7, _⟩ := isSpaceB_parts hS
  unfold fullV at h
  split at h
  · have := beq_iff_eq.1 h
    omega
  · cases h

end Go.Proofs.Ytkepeflplmkcmaa.Q
