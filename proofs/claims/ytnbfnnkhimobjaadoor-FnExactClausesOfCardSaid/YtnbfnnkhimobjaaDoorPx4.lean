/- Contracts of functions that the laws reach: a call returns what the plain Lean function of the same name tells. Conditions: those of each theorem. Made by gen.py, a program of this session, over the print of the translation. -/
import Derived.Test.YtnbfnnkhimobjaaDoorPx0
import Derived.Test.YtnbfnnkhimobjaaDoorPx1
import Derived.Test.YtnbfnnkhimobjaaDoorPx3
import Derived.Shelf.Abstract
namespace Go.Proofs.YtnbfnnkhimobjaaDoor.Q
open Go.RowKit Go.Proofs.YtnbfnnkhimobjaaDoorW.PrintWords Go.Proofs.YtnbfnnkhimobjaaDoorW.PrintLast Go.Proofs.YtnbfnnkhimobjaaDoorW.PrintMore
attribute [local go_sem] max2_int min2_int max_two min_two max_three min_three max_four min_four   -- for this text's walks alone
set_option linter.unusedVariables false
set_option linter.unusedSimpArgs false

-- HAND impl_family_inner: function 33
def innerStep (F : List Bool) (x a i : Int) : Int := if F.getD (nd x.toNat (2 ^ i.toNat)) false = true then ((a.toNat ||| 2 ^ i.toNat : Nat) : Int) else a
theorem innerStep_fold (F : List Bool) (x : Nat) : ∀ (l : List Nat) (a : Nat), (l.map (fun (i : Nat) => (i : Int))).foldl (innerStep F x) (a : Int) = ((l.foldl (fun a i => if F.getD (nd x (2 ^ i)) false = true then a ||| 2 ^ i else a) a : Nat) : Int)
  | [], a => rfl
  | i :: l, a => by
    rw [List.map_cons, List.foldl_cons, List.foldl_cons]
    have : innerStep F x a i = (((if F.getD (nd x (2 ^ i)) false = true then a ||| 2 ^ i else a) : Nat) : Int) := by
      unfold innerStep
      simp only [Int.toNat_natCast]
      split <;> rfl
    rw [this]
    exact innerStep_fold F x l _
theorem inner_fold (F : List Bool) (x : Nat) : (itemsL (x : Int)).foldl (innerStep F x) 0 = (innerF F x : Int) := by
  have := innerStep_fold F x (itemsN x) 0
  unfold itemsL
  rw [Int.toNat_natCast]
  refine this.trans ?_
  rw [itemsFold]
  rfl
set_option maxHeartbeats 8000000 in
set_option maxRecDepth 100000 in
theorem impl_family_inner.walkC (ad0 : Addr) (F : List Bool) (x : Int) (w : World) (hF : FamC w ad0 F) (h0 : 0 ≤ x) (h1 : x < 128) :
    Calls Tryd.prog 33 #[.pointer (some ad0), .int .i64 x] w fun e w' => e = .returned (.int .i64 (innerF F x.toNat)) ∧ Below w.heap.size w w' := by
  obtain ⟨x, rfl⟩ := Int.eq_ofNat_of_zero_le h0
  have HX := Aside0.mk (show x < 128 by omega)
  have HI := Aside0.mk (items_ok x h0 h1)
  have HF := Aside0.mk hF
  clear h0 h1 hF
  rw [Int.toNat_natCast]
  go_enter Tryd.func33, Tryd.ntmps33
  go_wp2_with (go_at_call 41; refine (impl_items.calls 8 _ _ _ HI.out).mono ?_; rintro e w1 ⟨v0, rfl, hR, hb⟩; obtain ⟨A, c, rfl⟩ := Kd.R_slice hR; have HR := Aside0.mk (Kd.R_reads' hR).2.2; have HB := Aside0.mk hb; clear hR hb)
  have HL := Aside0.mk (fun i => itemsL_mem (x := (x : Int)) (i := i))
  have HE := Aside0.mk (inner_fold F x)
  generalize itemsL (x : Int) = L at *
  go_loopw [5, 11] (fun v5 v11 wr => ∃ (k a : Nat), Aside0 (k ≤ L.length) ∧ v11 = .int .i64 k ∧ Aside0 (a < 128) ∧ v5 = .int .i64 a ∧ Aside0 ((L.take k).foldl (innerStep F x) 0 = a) ∧ Drawn0 w1 wr) (fun _ v11 _ => L.length - (intOf v11).toNat)
  case atStart => exact ⟨0, 0, ⟨Nat.zero_le _⟩, rfl, ⟨by decide⟩, rfl, ⟨rfl⟩, Drawn0.refl _⟩
  case round =>
    obtain ⟨k, a, hk, rfl, ha, rfl, hf, ⟨n, rfl⟩⟩ := hrel
    have hm := Kd.C_max HR.out
    by_cases hlt : k < L.length
    · obtain ⟨ad, e, hcell⟩ := Kd.at_int HR.out (k : Int) (by omega) (by omega)
      have hi := HL.out _ (rd_mem (l := L) (i := (k : Int)) (by omega) (by omega))
      have HT := Aside0.mk (take_rd L k hlt)
      obtain ⟨i, hI⟩ : ∃ i, i = rd L k := ⟨_, rfl⟩
      rw [← hI] at hi hcell HT
      clear hI
      cases e
      rw [Int.toNat_natCast] at hcell
      obtain ⟨i0, i1, ib⟩ := hi
      have hy := bits_nd x (2 ^ i.toNat) (lt63 HX.out) (lt63 (pow_lt128 i0 i1))
      have hylt : nd x (2 ^ i.toNat) < 128 := nd_lt (n := 7) HX.out
      have HO := Aside0.mk (bits_or a (2 ^ i.toNat) (lt63 ha.out) (lt63 (pow_lt128 i0 i1)))
      have HOL := Aside0.mk (Nat.or_lt_two_pow (n := 7) ha.out (pow_lt128 i0 i1))
      have HS := Aside0.mk (show innerStep F x (a : Int) i = if F.getD (nd x (2 ^ i.toNat)) false = true then ((a ||| 2 ^ i.toNat : Nat) : Int) else (a : Int) by unfold innerStep; simp only [Int.toNat_natCast])
      obtain ⟨j, hj⟩ : ∃ j, j = ((2 ^ i.toNat : Nat) : Int) := ⟨_, rfl⟩
      rw [← hj] at hy HO
      obtain ⟨s1, s2, s3, s4, s5, s6, s7, s8⟩ := shl_ways ((shl_nat i0 (by omega)).trans hj.symm) (by omega)
      clear hj
      obtain ⟨y, hY⟩ : ∃ y : Int, y = (nd x (2 ^ i.toNat) : Nat) := ⟨_, rfl⟩
      have y0 : 0 ≤ y := by omega
      have y1 : y < 128 := by omega
      have hYn : nd x (2 ^ i.toNat) = y.toNat := by omega
      rw [← hY] at hy
      rw [hYn] at HS
      clear hY hYn hylt ib
      have hfc := (HF.out.below HB.out).at_ y y0 y1
      obtain ⟨v, hv⟩ : ∃ v, v = F.getD y.toNat false := ⟨_, rfl⟩
      rw [← hv] at hfc HS
      clear hv
      cases v
      all_goals
        go_wp2
        go_quiet (fail)
        try go_wp2
      · go_roundw
        case rel => exact ⟨k + 1, a, ⟨by omega⟩, by go_num, ha, rfl, ⟨by rw [HT.out, List.foldl_append, hf.out]; simpa using HS.out⟩, by repeat (first | exact Drawn0.refl _ | apply Drawn0.step)⟩
        case measure => simp [intOf]; omega
      · go_roundw
        case rel => exact ⟨k + 1, a ||| 2 ^ i.toNat, ⟨by omega⟩, by go_num, HOL, by first | rfl | (rw [← HO.out]), ⟨by rw [HT.out, List.foldl_append, hf.out]; simpa using HS.out⟩, by repeat (first | exact Drawn0.refl _ | apply Drawn0.step)⟩
        case measure => simp [intOf]; omega
    · have hk' := hk.out
      obtain rfl : k = L.length := by omega
      have hm := Kd.C_max HR.out
      have HW := Aside0.mk (show (a : Int) = innerF F x from hf.out.symm.trans (by rw [List.take_length]; exact HE.out))
      clear hf HE
      go_wp2
      go_ret
      exact ⟨by have := HW.out; first | (rw [this]; done) | (simp; omega) | omega, by repeat (first | exact HB.out | apply pw_below_drewN)⟩
theorem impl_family_inner.walk (b : Nat) (F : List Bool) (x : Int) (w : World) (hF : FamAt w b F) (h0 : 0 ≤ x) (h1 : x < 128) :
    Calls Tryd.prog 33 #[.pointer (some ⟨b, 0, none⟩), .int .i64 x] w fun e w' => e = .returned (.int .i64 (innerF F x.toNat)) ∧ Below w.heap.size w w' := impl_family_inner.walkC ⟨b, 0, none⟩ F x w hF.c h0 h1
def impl_family_inner.f (l0 : List Bool) (a1 : Int) : Option Int := if l0.length = 128 ∧ 0 ≤ a1 ∧ a1 < 128 then some (innerF l0 a1.toNat) else none
theorem impl_family_inner.calls (A0 : Option Addr) (c0 : Nat) (l0 : List Bool) (a1 : Int) (r : Int) (w : World) (hr0 : Kd.C Kd.bool w A0 l0.length l0) (hc0 : l0.length ≤ c0) (h : impl_family_inner.f l0 a1 = some r) :
    Calls Tryd.prog 33 #[.pointer A0, .int .i64 a1] w fun e w' => e = .returned (.int .i64 r) ∧ Below w.heap.size w w' := by
  unfold impl_family_inner.f at h
  split at h
  · rename_i hl
    have e := Option.some.inj h
    subst e
    obtain ⟨ad, rfl, HF⟩ := FamC.of_reads hr0 hl.1
    exact impl_family_inner.walkC ad l0 a1 w HF hl.2.1 hl.2.2
  · cases h

-- HAND with (*impl.family).inner
theorem inner_f (F : List Bool) (hF : F.length = 128) (x : Int) (h0 : 0 ≤ x) (h1 : x < 128) : impl_family_inner.f F x = some (innerF F x.toNat : Int) := by
  unfold impl_family_inner.f
  rw [if_pos ⟨hF, h0, h1⟩]

-- HAND impl_IsSpace: function 18
def impl_IsSpace.f (a0_0 : Int) (l0_1 : List Int) : Option (Bool) := some (isSpaceB a0_0 l0_1)
set_option maxHeartbeats 8000000 in
set_option maxRecDepth 100000 in
theorem impl_IsSpace.early (n : Int) (A : Option Addr) (c : Nat) (l : List Int) (w : World) (hr : Kd.C (Kd.int .i64) w A l.length l) (hn : (decide (1 ≤ n) && decide (n ≤ 7) && decide ((l.length : Int) ≤ 2 ^ n.toNat)) = false) :
    Calls Tryd.prog 18 #[.agg #[.int .i64 n, .slice A l.length c]] w fun e w' => e = .returned (.bool false) ∧ Below w.heap.size w w' := by
  have hu := Tryd.underlying29
  have HS := Aside0.mk (isSize_ok n)
  have hm := Kd.C_max hr
  by_cases h1 : (decide (1 ≤ n) && decide (n ≤ 7)) = true
  · rw [h1] at hn HS
    simp only [Bool.true_and, decide_eq_false_iff_not] at hn
    simp only [Bool.and_eq_true, decide_eq_true_eq] at h1
    obtain ⟨n0, n7⟩ := h1
    have hp := pow128 (n := n) (by omega) n7
    obtain ⟨j, hj⟩ : ∃ j, j = shl .i64 1 n := ⟨_, rfl⟩
    have hj' := shl_nat (i := n) (by omega) (by omega)
    obtain ⟨s1, s2, s3, s4, s5, s6, s7, s8⟩ := shl_ways hj.symm (by omega)
    have c1 : decide (j < (l.length : Int)) = true := decide_eq_true (by rw [hj, hj']; push_cast; omega)
    have c0 : (0 : Int) ≤ n := by omega
    clear hj hj' hn hp
    go_enter Tryd.func18, Tryd.ntmps18
    go_wp2_with ((with_reducible refine gate_dst (N := 1) rfl ?_); refine box_event ?hg (N := 1) ?hd (cs := #[.int .i64 n, .slice A l.length c]) (t := 29) ?hr ?_; (case hd => rfl); (case hg => rfl); (case hr => first | (go_simp; done) | (go_simp; rfl)); intro g ge W gb Wb; have HXg := Aside0.mk (SpBox.mk_ ge gb Wb); have gz0 := HXg.out.c0; have gz1 := HXg.out.c1; clear ge gb Wb)
    go_quiet (first | (go_at_call 29; (with_reducible refine (impl_isSize.calls _ _ _ HS.out).mono ?_); rintro e w' ⟨rfl, ⟨nd, rfl⟩⟩; (try first | exact ⟨rfl, _, World.drewN_drewN _ _ _⟩ | exact ⟨rfl, _, Eq.trans (World.drewN_drewN _ _ _) (congrArg (World.drewN _) (Nat.add_assoc _ _ _))⟩)))
    go_wp2
    go_ret
    exact ⟨rfl, by repeat (first | exact HXg.out.bel | apply pw_below_drewN | apply below_drew1)⟩
  · have h1' : (decide (1 ≤ n) && decide (n ≤ 7)) = false := by simpa using h1
    rw [h1'] at HS
    clear h1 h1' hn
    go_enter Tryd.func18, Tryd.ntmps18
    go_wp2_with ((with_reducible refine gate_dst (N := 1) rfl ?_); refine box_event ?hg (N := 1) ?hd (cs := #[.int .i64 n, .slice A l.length c]) (t := 29) ?hr ?_; (case hd => rfl); (case hg => rfl); (case hr => first | (go_simp; done) | (go_simp; rfl)); intro g ge W gb Wb; have HXg := Aside0.mk (SpBox.mk_ ge gb Wb); have gz0 := HXg.out.c0; have gz1 := HXg.out.c1; clear ge gb Wb)
    go_quiet (first | (go_at_call 29; (with_reducible refine (impl_isSize.calls _ _ _ HS.out).mono ?_); rintro e w' ⟨rfl, ⟨nd, rfl⟩⟩; (try first | exact ⟨rfl, _, World.drewN_drewN _ _ _⟩ | exact ⟨rfl, _, Eq.trans (World.drewN_drewN _ _ _) (congrArg (World.drewN _) (Nat.add_assoc _ _ _))⟩)))
    go_wp2
    go_ret
    exact ⟨rfl, by repeat (first | exact HXg.out.bel | apply pw_below_drewN | apply below_drew1)⟩
/-- What the first loop has seen. -/
def risen (n : Int) (l : List Int) (k : Nat) : Bool := (List.range k).all fun (i : Nat) => okAt n l i
theorem risen_succ (n : Int) (l : List Int) (k : Nat) : risen n l (k + 1) = (risen n l k && okAt n l k) := by simp [risen, List.range_succ]
theorem risen_not {n : Int} {l : List Int} {i : Int} (h0 : 0 ≤ i) (h : i < l.length) (hb : okAt n l i = false) : risingB n l = false := by
  rw [Bool.eq_false_iff]
  intro hc
  simp only [risingB, List.all_eq_true, List.mem_range] at hc
  have := hc i.toNat (by omega)
  rw [show ((i.toNat : Nat) : Int) = i by omega, hb] at this
  cases this
set_option maxHeartbeats 8000000 in
set_option maxRecDepth 100000 in
theorem impl_IsSpace.main (n : Int) (A : Option Addr) (c : Nat) (l : List Int) (w : World) (hr : Kd.C (Kd.int .i64) w A l.length l) (hc : l.length ≤ c) (hn : (decide (1 ≤ n) && decide (n ≤ 7) && decide ((l.length : Int) ≤ 2 ^ n.toNat)) = true) :
    Calls Tryd.prog 18 #[.agg #[.int .i64 n, .slice A l.length c]] w fun e w' => e = .returned (.bool (isSpaceB n l)) ∧ Below w.heap.size w w' := by
  have hu := Tryd.underlying29
  have HS := Aside0.mk (isSize_ok n)
  have hm := Kd.C_max hr
  have HR := Aside0.mk hr
  have HC := Aside0.mk hc
  have HE : Aside0 (isSpaceB n l = (risingB n l && (famOf l).getD 0 false && (famOf l).getD (2 ^ n.toNat - 1) false && unionsB (famOf l) l)) := ⟨by unfold isSpaceB; rw [hn]; simp⟩
  simp only [Bool.and_eq_true, decide_eq_true_eq] at hn
  obtain ⟨⟨n0, n7⟩, hlen⟩ := hn
  rw [show (decide (1 ≤ n) && decide (n ≤ 7)) = true by simp [n0, n7]] at HS
  have hp := pow128 (n := n) (by omega) n7
  obtain ⟨j, hj⟩ : ∃ j, j = shl .i64 1 n := ⟨_, rfl⟩
  have hj' := shl_nat (i := n) (by omega) (by omega)
  obtain ⟨s1, s2, s3, s4, s5, s6, s7, s8⟩ := shl_ways hj.symm (by omega)
  have c1 : decide (j < (l.length : Int)) = false := decide_eq_false (by rw [hj, hj']; push_cast; omega)
  have c0 : (0 : Int) ≤ n := by omega
  have HP := Aside0.mk hp
  clear hj hj' hr hc hp hlen
  go_enter Tryd.func18, Tryd.ntmps18
  go_wp2_with ((with_reducible refine gate_dst (N := 1) rfl ?_); refine box_event ?hg (N := 1) ?hd (cs := #[.int .i64 n, .slice A l.length c]) (t := 29) ?hr ?_; (case hd => rfl); (case hg => rfl); (case hr => first | (go_simp; done) | (go_simp; rfl)); intro g ge W gb Wb; have HXg := Aside0.mk (SpBox.mk_ ge gb Wb); have gz0 := HXg.out.c0; have gz1 := HXg.out.c1; clear ge gb Wb)
  go_quiet (first | (go_at_call 29; (with_reducible refine (impl_isSize.calls _ _ _ HS.out).mono ?_); rintro e w' ⟨rfl, ⟨nd, rfl⟩⟩; (try first | exact ⟨rfl, _, World.drewN_drewN _ _ _⟩ | exact ⟨rfl, _, Eq.trans (World.drewN_drewN _ _ _) (congrArg (World.drewN _) (Nat.add_assoc _ _ _))⟩)))
  go_wp2
  go_loopw [26] (fun v26 wr => ∃ i : Int, Aside0 (0 ≤ i ∧ i ≤ l.length) ∧ v26 = .int .i64 i ∧ Aside0 (risen n l i.toNat = true) ∧ Drawn0 W wr) (fun v26 _ => l.length - (intOf v26).toNat)
  case atStart => exact ⟨0, ⟨by omega⟩, rfl, ⟨rfl⟩, by repeat (first | exact Drawn0.refl _ | apply Drawn0.step)⟩
  case round =>
    obtain ⟨i, hi, rfl, hz, ⟨nd, rfl⟩⟩ := hrel
    by_cases hlt : i < l.length
    · have i0 := hi.out.1
      have HT := Aside0.mk (isSet_ok n (rd l i) c0 n7)
      have HN : Aside0 (risen n l (i + 1).toNat = okAt n l i) := ⟨by rw [show (i + 1).toNat = i.toNat + 1 by omega, risen_succ, hz.out, show ((i.toNat : Nat) : Int) = i by omega, Bool.true_and]⟩
      have HF : Aside0 (okAt n l i = false → isSpaceB n l = false) := ⟨fun h => by rw [HE.out, risen_not i0 hlt h]; rfl⟩
      have HO : Aside0 (okAt n l i = ((decide (0 ≤ rd l i) && decide (rd l i < 2 ^ n.toNat)) && (decide (i = 0) || decide (rd l (i - 1) < rd l i)))) := ⟨rfl⟩
      obtain ⟨ad, e, hcell⟩ := Kd.at_int (Kd.C_below HR.out HXg.out.bel) i i0 hlt
      have hcellp : 0 < i → W.cell? (ad.add (i - 1).toNat) = some (.int .i64 (rd l (i - 1))) := fun hpos => by
        obtain ⟨ad', e', hcell'⟩ := Kd.at_int (Kd.C_below HR.out HXg.out.bel) (i - 1) (by omega) (by omega)
        rw [e] at e'
        cases e'
        exact hcell'
      cases e
      generalize rd l i = x at *
      generalize rd l (i - 1) = y at *
      by_cases hin : (decide (0 ≤ x) && decide (x < 2 ^ n.toNat)) = true
      · rw [hin] at HT HO
        clear hin
        by_cases hpos : 0 < i
        · have hcp := hcellp hpos
          rw [show (i - 1).toNat = i.toNat - 1 by omega] at hcp
          have hi1 : (0 : Int) ≤ i - 1 := by omega
          have hi2 : i - 1 < l.length := by omega
          have b1 : decide (0 < i) = true := decide_eq_true hpos
          clear hcellp
          by_cases hyx : x ≤ y
          · have HB := Aside0.mk (HF.out (HO.out.trans (by simp; omega)))
            have b2 : decide (x ≤ y) = true := decide_eq_true hyx
            go_wp2_with (first | (go_at_call 30; (with_reducible refine (impl_isSet.calls _ _ _ _ HT.out).mono ?_); rintro e w' ⟨rfl, ⟨nd, rfl⟩⟩; (try first | exact ⟨rfl, _, World.drewN_drewN _ _ _⟩ | exact ⟨rfl, _, Eq.trans (World.drewN_drewN _ _ _) (congrArg (World.drewN _) (Nat.add_assoc _ _ _))⟩)))
            go_ret
            exact ⟨by rw [HB.out]; rfl, by repeat (first | exact HXg.out.bel | apply pw_below_drewN | apply below_drew1)⟩
          · have HB := Aside0.mk (HO.out.trans (show _ = true by simp; omega))
            have b2 : decide (x ≤ y) = false := decide_eq_false hyx
            go_wp2_with (first | (go_at_call 30; (with_reducible refine (impl_isSet.calls _ _ _ _ HT.out).mono ?_); rintro e w' ⟨rfl, ⟨nd, rfl⟩⟩; (try first | exact ⟨rfl, _, World.drewN_drewN _ _ _⟩ | exact ⟨rfl, _, Eq.trans (World.drewN_drewN _ _ _) (congrArg (World.drewN _) (Nat.add_assoc _ _ _))⟩)))
            go_roundw
            case rel => exact ⟨i + 1, ⟨by omega⟩, by first | rfl | go_num, ⟨by rw [HN.out, HB.out]⟩, by repeat (first | exact Drawn0.refl _ | apply Drawn0.step)⟩
            case measure => simp [intOf]; omega
        · have hi0 : i = 0 := by have := hi.out; omega
          have HB := Aside0.mk (HO.out.trans (show _ = true by simp [hi0]))
          have b1 : decide (0 < i) = false := decide_eq_false hpos
          clear hcellp hi0
          go_wp2_with (first | (go_at_call 30; (with_reducible refine (impl_isSet.calls _ _ _ _ HT.out).mono ?_); rintro e w' ⟨rfl, ⟨nd, rfl⟩⟩; (try first | exact ⟨rfl, _, World.drewN_drewN _ _ _⟩ | exact ⟨rfl, _, Eq.trans (World.drewN_drewN _ _ _) (congrArg (World.drewN _) (Nat.add_assoc _ _ _))⟩)))
          go_roundw
          case rel => exact ⟨i + 1, ⟨by omega⟩, by first | rfl | go_num, ⟨by rw [HN.out, HB.out]⟩, by repeat (first | exact Drawn0.refl _ | apply Drawn0.step)⟩
          case measure => simp [intOf]; omega
      · have hin' : (decide (0 ≤ x) && decide (x < 2 ^ n.toNat)) = false := by simpa using hin
        rw [hin'] at HT HO
        have HB := Aside0.mk (HF.out (HO.out.trans rfl))
        clear hin hin' hcellp
        go_wp2_with (first | (go_at_call 30; (with_reducible refine (impl_isSet.calls _ _ _ _ HT.out).mono ?_); rintro e w' ⟨rfl, ⟨nd, rfl⟩⟩; (try first | exact ⟨rfl, _, World.drewN_drewN _ _ _⟩ | exact ⟨rfl, _, Eq.trans (World.drewN_drewN _ _ _) (congrArg (World.drewN _) (Nat.add_assoc _ _ _))⟩)))
        go_ret
        exact ⟨by rw [HB.out]; rfl, by repeat (first | exact HXg.out.bel | apply pw_below_drewN | apply below_drew1)⟩
    · have HA : Aside0 (risingB n l = true) := ⟨by have := hz.out; rwa [show i.toNat = l.length by have := hi.out; omega] at this⟩
      have HI := Aside0.mk (show i = l.length by have := hi.out; omega)
      clear hz
      have HM : Aside0 (∀ x ∈ l, 0 ≤ x ∧ x < 128) := ⟨fun x hx => by have := risingB_mem HA.out hx; have := HP.out; omega⟩
      go_wp2_with (first | (go_at_call 31; (with_reducible refine (impl_Space_family.walk n _ _ l _ (Kd.C_drewN (Kd.C_below HR.out HXg.out.bel) _) HC.out HM.out).mono ?_); rintro e W2 ⟨b, rfl, HF, hbg, hbel⟩; have HX2 := Aside0.mk (HXg.out.next ((pw_below_drewN (Below.refl _ _) _).trans (hbel.mono (Nat.le_refl _)))); have HF := Aside0.mk HF; have k0 := HX2.out.c0; have k1 := HX2.out.c1; clear hbg hbel))
      have f0 := HF.out.at_ 0 (by decide) (by decide)
      rw [show (0 : Int).toNat = 0 from rfl] at f0
      obtain ⟨v0, hv0⟩ : ∃ v, v = (famOf l).getD 0 false := ⟨_, rfl⟩
      rw [← hv0] at f0
      have HV0 := Aside0.mk hv0
      clear hv0
      cases v0
      · have HB : Aside0 (isSpaceB n l = false) := ⟨by rw [HE.out, HA.out, ← HV0.out]; rfl⟩
        go_quiet (fail)
        go_wp2
        go_ret
        exact ⟨by rw [HB.out]; rfl, by repeat (first | exact HX2.out.bel | apply pw_below_drewN | apply below_drew1)⟩
      · have HAL := Aside0.mk (all_ok n l c0 n7)
        obtain ⟨m, hm2⟩ : ∃ m : Int, m = 2 ^ n.toNat - 1 := ⟨_, rfl⟩
        have m0 : 0 ≤ m := by have := HP.out; omega
        have m1 : m < 128 := by have := HP.out; omega
        have f1 := HF.out.at_ m m0 m1
        rw [← hm2] at HAL
        obtain ⟨v1, hv1⟩ : ∃ v, v = (famOf l).getD m.toNat false := ⟨_, rfl⟩
        rw [← hv1] at f1
        have HV1 := Aside0.mk hv1
        have HM2 := Aside0.mk hm2
        clear hv1 hm2
        have HK : Aside0 (∀ w', Below W2.heap.size W2 w' → Aside0 (Below W2.heap.size W2 w') ∧ w'.cell? ⟨g, 0, none⟩ = some (.int .i64 n) ∧ w'.cell? ⟨g, 1, none⟩ = some (.slice A l.length c) ∧ w'.cell? ⟨b, 0, none⟩ = some (.bool true) ∧ w'.cell? ⟨b, m.toNat, none⟩ = some (.bool v1)) :=
          ⟨fun w' hb => ⟨⟨hb⟩, pw_cell_below hb k0, pw_cell_below hb k1, pw_cell_below hb f0, pw_cell_below hb f1⟩⟩
        go_region_held3 (fun w' => Aside0 (Below W2.heap.size W2 w') ∧ w'.cell? ⟨g, 0, none⟩ = some (.int .i64 n) ∧ w'.cell? ⟨g, 1, none⟩ = some (.slice A l.length c) ∧ w'.cell? ⟨b, 0, none⟩ = some (.bool true) ∧ w'.cell? ⟨b, m.toNat, none⟩ = some (.bool v1)) (first | exact HK.out _ (below_drew1 (Below.refl _ _)) | exact HK.out _ (below_step (‹Aside0 (Below W2.heap.size W2 _) ∧ _›).1.out (by assumption))) (first | (go_at_call 32; (with_reducible refine (impl_Space_all.calls n _ _ l m _ ?sa ?sb HAL.out).mono ?_); (case sa => exact Kd.C_below (Kd.C_below HR.out HX2.out.bel) (‹Aside0 (Below W2.heap.size W2 _) ∧ _›).1.out); (case sb => exact HC.out); rintro e W3 ⟨rfl, hb3⟩))
        have HB3 := (‹Aside0 (Below W2.heap.size W2 _) ∧ _›).1
        have HX3 := Aside0.mk (HX2.out.next HB3.out)
        have HF3 := Aside0.mk (HF.out.below HB3.out)
        have q0 := HX3.out.c0
        have q1 := HX3.out.c1
        clear HK hb3 k0 k1 f0 f1
        cases v1
        · have HB : Aside0 (isSpaceB n l = false) := ⟨by rw [HE.out, HA.out, ← HV0.out, toNat_pow HM2.out, ← HV1.out]; rfl⟩
          go_wp2
          go_ret
          exact ⟨by rw [HB.out]; rfl, HX3.out.bel⟩
        · have HG : Aside0 (isSpaceB n l = unionsB (famOf l) l) := ⟨by rw [HE.out, HA.out, ← HV0.out, toNat_pow HM2.out, ← HV1.out]; rfl⟩
          clear HE HV0 HV1 HM2 m0 m1 HAL HS HX2 HF HXg gz0 gz1 s1 s2 s3 s4 s5 s6 s7 s8 HB3
          go_wp2
          go_loopw [70] (fun v70 wr => ∃ i : Int, Aside0 (0 ≤ i ∧ i ≤ l.length) ∧ v70 = .int .i64 i ∧ Aside0 (allTo (unionItem (famOf l) l) l i = true) ∧ Aside0 (Below W3.heap.size W3 wr)) (fun v70 _ => l.length - (intOf v70).toNat)
          case atStart => exact ⟨0, ⟨by omega⟩, rfl, ⟨rfl⟩, ⟨by repeat (first | exact Below.refl _ _ | apply pw_below_drewN | apply below_drew1)⟩⟩
          case round =>
            obtain ⟨k, hk, rfl, hz, HBr⟩ := hrel
            by_cases hlt : k < l.length
            · have k0 := hk.out.1
              have HZ := Aside0.mk (allTo_succ (unionItem (famOf l) l) l k k0 hlt)
              have HMEM := Aside0.mk (rd_mem k0 hlt)
              have HNOT : Aside0 (unionItem (famOf l) l (rd l k) = false → isSpaceB n l = false) := ⟨fun h => HG.out.trans (all_not HMEM.out h)⟩
              have hx := HM.out _ HMEM.out
              have HRA := Aside0.mk (Kd.C_below (Kd.C_below HR.out HX3.out.bel) HBr.out)
              have HXr := Aside0.mk (HX3.out.next HBr.out)
              have HFr := Aside0.mk (HF3.out.below HBr.out)
              obtain ⟨ad, e, hcell⟩ := Kd.at_int HRA.out k k0 hlt
              cases e
              clear q0 q1
              have q0 := HXr.out.c0
              have q1 := HXr.out.c1
              have hUI : unionItem (famOf l) l (rd l k) = ((decide (rd l k = 0) || !decide (innerF (famOf l) (rd l k).toNat = 0)) && unionRow (famOf l) l (rd l k)) := rfl
              generalize rd l k = x at *
              have HUI := Aside0.mk hUI
              clear hUI
              obtain ⟨x0, x1⟩ := hx
              by_cases hx0 : x = 0
              · have bx1 : (x == 0) = true := by simpa using hx0
                have bx2 : (x != 0) = false := by simpa using hx0
                have HX0 := Aside0.mk hx0
                clear hx0
                go_wp2
                go_loopw [85] (fun v85 w5 => ∃ i : Int, Aside0 (0 ≤ i ∧ i ≤ l.length) ∧ v85 = .int .i64 i ∧ Aside0 (allTo (fun y => (famOf l).getD (x.toNat ||| y.toNat) false) l i = true) ∧ Drawn0 wr w5) (fun v85 _ => l.length - (intOf v85).toNat)
                case atStart => exact ⟨0, ⟨by omega⟩, rfl, ⟨rfl⟩, by repeat (first | exact Drawn0.refl _ | apply Drawn0.step)⟩
                case round =>
                  obtain ⟨i, hi, rfl, hz5, ⟨nd5, rfl⟩⟩ := hrel
                  by_cases hlt5 : i < l.length
                  · have i0 := hi.out.1
                    have HZ5 := Aside0.mk (allTo_succ (fun y => (famOf l).getD (x.toNat ||| y.toNat) false) l i i0 hlt5)
                    have HMEM5 := Aside0.mk (rd_mem i0 hlt5)
                    have HNOT5 : Aside0 ((famOf l).getD (x.toNat ||| (rd l i).toNat) false = false → isSpaceB n l = false) := ⟨fun h => HNOT.out (HUI.out.trans (by rw [show unionRow (famOf l) l x = false from all_not HMEM5.out h, Bool.and_false]))⟩
                    have hy := HM.out _ HMEM5.out
                    obtain ⟨ad5, e5, hcell5⟩ := Kd.at_int HRA.out i i0 hlt5
                    cases e5
                    have hbo := bits_or x.toNat (rd l i).toNat (by omega) (by omega)
                    have hbl : x.toNat ||| (rd l i).toNat < 128 := Nat.or_lt_two_pow (n := 7) (by omega) (by omega)
                    rw [show ((x.toNat : Nat) : Int) = x by omega, show (((rd l i).toNat : Nat) : Int) = rd l i by omega] at hbo
                    generalize rd l i = y at *
                    obtain ⟨z, hz⟩ : ∃ z : Int, z = ((x.toNat ||| y.toNat : Nat) : Int) := ⟨_, rfl⟩
                    have z0 : 0 ≤ z := by omega
                    have z1 : z < 128 := by omega
                    have hzn : x.toNat ||| y.toNat = z.toNat := by omega
                    rw [← hz] at hbo
                    rw [hzn] at HZ5 HNOT5
                    clear hz hzn hbl hy
                    have hfc := HFr.out.at_ z z0 z1
                    obtain ⟨v, hv⟩ : ∃ v, v = (famOf l).getD z.toNat false := ⟨_, rfl⟩
                    rw [← hv] at hfc HZ5 HNOT5
                    clear hv
                    cases v
                    · have HB := Aside0.mk (HNOT5.out rfl)
                      go_wp2
                      go_ret
                      exact ⟨by rw [HB.out]; rfl, by repeat (first | exact HXr.out.bel | apply pw_below_drewN | apply below_drew1)⟩
                    · go_wp2
                      go_roundw
                      case rel => exact ⟨i + 1, ⟨by omega⟩, by first | rfl | go_num, ⟨by rw [HZ5.out, hz5.out]; rfl⟩, by repeat (first | exact Drawn0.refl _ | apply Drawn0.step)⟩
                      case measure => simp [intOf]; omega
                  · have HROW : Aside0 (unionRow (famOf l) l x = true) := ⟨by have := hz5.out; rw [allTo_end _ _ _ (by have := hi.out; omega)] at this; exact this⟩
                    have HDONE : Aside0 (unionItem (famOf l) l x = true) := ⟨HUI.out.trans (by rw [HROW.out]; simp [HX0.out])⟩
                    clear hz5
                    go_wp2
                    go_roundw
                    case rel => exact ⟨k + 1, ⟨by omega⟩, by first | rfl | go_num, ⟨by rw [HZ.out, hz.out, HDONE.out]; rfl⟩, ⟨by repeat (first | exact HBr.out | apply pw_below_drewN | apply below_drew1)⟩⟩
                    case measure => simp [intOf]; omega
              · have bx1 : (x == 0) = false := by simpa using hx0
                have bx2 : (x != 0) = true := by simpa using hx0
                by_cases hin : innerF (famOf l) x.toNat = 0
                · have HB := Aside0.mk (HNOT.out (HUI.out.trans (by simp [hx0, hin])))
                  have bi : (((innerF (famOf l) x.toNat : Nat) : Int) == 0) = true := by simp [hin]
                  clear hin hx0
                  go_wp2_with (first | (go_at_call 33; (with_reducible refine (impl_family_inner.walk b (famOf l) x _ HFr.out x0 x1).mono ?_); rintro e W4 ⟨rfl, hb4⟩))
                  go_ret
                  exact ⟨by rw [HB.out]; rfl, by repeat (first | exact (HXr.out.next hb4).bel | apply pw_below_drewN | apply below_drew1)⟩
                · have bi : (((innerF (famOf l) x.toNat : Nat) : Int) == 0) = false := by simpa using hin
                  go_wp2_with (first | (go_at_call 33; (with_reducible refine (impl_family_inner.walk b (famOf l) x _ HFr.out x0 x1).mono ?_); rintro e W4 ⟨rfl, hb4⟩; have HB4 := Aside0.mk hb4; clear hb4 q0 q1; have HX4 := Aside0.mk (HXr.out.next HB4.out); have q0 := HX4.out.c0; have q1 := HX4.out.c1))
                  have HR4 := Aside0.mk (Kd.C_below HRA.out HB4.out)
                  have HF4 := Aside0.mk (HFr.out.below HB4.out)
                  have HIN := Aside0.mk hin
                  clear hin hx0
                  go_loopw [85] (fun v85 w5 => ∃ i : Int, Aside0 (0 ≤ i ∧ i ≤ l.length) ∧ v85 = .int .i64 i ∧ Aside0 (allTo (fun y => (famOf l).getD (x.toNat ||| y.toNat) false) l i = true) ∧ Drawn0 W4 w5) (fun v85 _ => l.length - (intOf v85).toNat)
                  case atStart => exact ⟨0, ⟨by omega⟩, rfl, ⟨rfl⟩, by repeat (first | exact Drawn0.refl _ | apply Drawn0.step)⟩
                  case round =>
                    obtain ⟨i, hi, rfl, hz5, ⟨nd5, rfl⟩⟩ := hrel
                    by_cases hlt5 : i < l.length
                    · have i0 := hi.out.1
                      have HZ5 := Aside0.mk (allTo_succ (fun y => (famOf l).getD (x.toNat ||| y.toNat) false) l i i0 hlt5)
                      have HMEM5 := Aside0.mk (rd_mem i0 hlt5)
                      have HNOT5 : Aside0 ((famOf l).getD (x.toNat ||| (rd l i).toNat) false = false → isSpaceB n l = false) := ⟨fun h => HNOT.out (HUI.out.trans (by rw [show unionRow (famOf l) l x = false from all_not HMEM5.out h, Bool.and_false]))⟩
                      have hy := HM.out _ HMEM5.out
                      obtain ⟨ad5, e5, hcell5⟩ := Kd.at_int HR4.out i i0 hlt5
                      cases e5
                      have hbo := bits_or x.toNat (rd l i).toNat (by omega) (by omega)
                      have hbl : x.toNat ||| (rd l i).toNat < 128 := Nat.or_lt_two_pow (n := 7) (by omega) (by omega)
                      rw [show ((x.toNat : Nat) : Int) = x by omega, show (((rd l i).toNat : Nat) : Int) = rd l i by omega] at hbo
                      generalize rd l i = y at *
                      obtain ⟨z, hz⟩ : ∃ z : Int, z = ((x.toNat ||| y.toNat : Nat) : Int) := ⟨_, rfl⟩
                      have z0 : 0 ≤ z := by omega
                      have z1 : z < 128 := by omega
                      have hzn : x.toNat ||| y.toNat = z.toNat := by omega
                      rw [← hz] at hbo
                      rw [hzn] at HZ5 HNOT5
                      clear hz hzn hbl hy
                      have hfc := HF4.out.at_ z z0 z1
                      obtain ⟨v, hv⟩ : ∃ v, v = (famOf l).getD z.toNat false := ⟨_, rfl⟩
                      rw [← hv] at hfc HZ5 HNOT5
                      clear hv
                      cases v
                      · have HB := Aside0.mk (HNOT5.out rfl)
                        go_wp2
                        go_ret
                        exact ⟨by rw [HB.out]; rfl, by repeat (first | exact HX4.out.bel | apply pw_below_drewN | apply below_drew1)⟩
                      · go_wp2
                        go_roundw
                        case rel => exact ⟨i + 1, ⟨by omega⟩, by first | rfl | go_num, ⟨by rw [HZ5.out, hz5.out]; rfl⟩, by repeat (first | exact Drawn0.refl _ | apply Drawn0.step)⟩
                        case measure => simp [intOf]; omega
                    · have HROW : Aside0 (unionRow (famOf l) l x = true) := ⟨by have := hz5.out; rw [allTo_end _ _ _ (by have := hi.out; omega)] at this; exact this⟩
                      have HDONE : Aside0 (unionItem (famOf l) l x = true) := ⟨HUI.out.trans (by rw [HROW.out]; simp [HIN.out])⟩
                      clear hz5
                      go_wp2
                      go_roundw
                      case rel =>
                        ((repeat apply Exists.intro); exact ⟨⟨k + 1, ⟨by omega⟩, by first | rfl | go_num, ⟨by rw [HZ.out, hz.out, HDONE.out]; rfl⟩, ⟨by repeat (first | exact (below_step HBr.out HB4.out) | apply pw_below_drewN | apply below_drew1)⟩⟩, rfl, rfl, rfl, rfl⟩)
                      case measure => simp [intOf]; omega
            · have HB : Aside0 (isSpaceB n l = true) := ⟨by have := hz.out; rw [allTo_end _ _ _ (by have := hk.out; omega)] at this; exact HG.out.trans this⟩
              clear hz
              go_wp2
              go_ret
              exact ⟨by rw [HB.out]; rfl, by repeat (first | exact (HX3.out.next HBr.out).bel | apply pw_below_drewN | apply below_drew1)⟩

theorem impl_IsSpace.calls (a0_0 : Int) (A0_1 : Option Addr) (c0_1 : Nat) (l0_1 : List Int) (r : Bool) (w : World) (hr0_1 : Kd.C (Kd.int .i64) w A0_1 l0_1.length l0_1) (hc0_1 : l0_1.length ≤ c0_1) (h : impl_IsSpace.f a0_0 l0_1 = some r) :
    Calls Tryd.prog 18 #[.agg #[.int .i64 a0_0, .slice A0_1 l0_1.length c0_1]] w fun e w' => e = .returned (.bool r) ∧ Below w.heap.size w w' := by
  obtain rfl := Option.some.inj h
  by_cases hn : (decide (1 ≤ a0_0) && decide (a0_0 ≤ 7) && decide ((l0_1.length : Int) ≤ 2 ^ a0_0.toNat)) = true
  · exact impl_IsSpace.main a0_0 A0_1 c0_1 l0_1 w hr0_1 hc0_1 hn
  · have hn' : (decide (1 ≤ a0_0) && decide (a0_0 ≤ 7) && decide ((l0_1.length : Int) ≤ 2 ^ a0_0.toNat)) = false := by simpa using hn
    rw [show isSpaceB a0_0 l0_1 = false by unfold isSpaceB; rw [hn']; rfl]
    exact impl_IsSpace.early a0_0 A0_1 c0_1 l0_1 w hr0_1 hn'

-- HAND slices_IndexFunc_int_int: function 42
/-- A predicate's value, asked of the entries of a list. -/
def PredInt (g : Nat) (lb : Array Value) (p : Int → Bool) (l : List Int) (w : World) : Prop :=
  ∀ (W : World) (x : Int), x ∈ l → Below w.heap.size w W → Calls Tryd.prog g (#[.int .i64 x] ++ lb) W fun e w' => e = .returned (.bool (p x)) ∧ Below W.heap.size W w'
set_option maxHeartbeats 8000000 in
set_option maxRecDepth 100000 in
theorem slices_IndexFunc_int_int.calls (g : Nat) (lb : Array Value) (eg : ∀ args w, (callFunc g args).run Tryd.prog w = .ok (.enter g args) w) (p : Int → Bool) (A : Option Addr) (c : Nat) (l : List Int) (w : World) (hr : Kd.C (Kd.int .i64) w A l.length l) (hc : l.length ≤ c) (hp : PredInt g lb p l w) :
    Calls Tryd.prog 42 #[.slice A l.length c, .func (.func g) #[] lb] w fun e w' => e = .returned (.int .i64 (idxG p l)) ∧ Below w.heap.size w w' := by
  have HR := Aside0.mk hr
  have HC := Aside0.mk hc
  have HP := Aside0.mk hp
  have hm := Kd.C_max hr
  clear hr hc hp
  go_enter Tryd.func42, Tryd.ntmps42
  go_wp2
  go_loopw [8] (fun v8 wr => ∃ i : Int, Aside0 (0 ≤ i ∧ i ≤ l.length) ∧ v8 = .int .i64 i ∧ Aside0 (allG (fun x => !p x) l i = true) ∧ Aside0 (Below w.heap.size w wr)) (fun v8 _ => l.length - (intOf v8).toNat)
  case atStart => exact ⟨0, ⟨by omega⟩, rfl, ⟨rfl⟩, ⟨by repeat (first | exact Below.refl _ _ | apply pw_below_drewN | apply below_drew1)⟩⟩
  case round =>
    obtain ⟨i, hi, rfl, hz, HB⟩ := hrel
    by_cases hlt : i < l.length
    · have i0 := hi.out.1
      have HZ := Aside0.mk (allG_succ 0 (fun x => !p x) l i i0 hlt)
      have HMEM := Aside0.mk (getD_mem 0 i0 hlt)
      have HHIT : Aside0 (p (l.getD i.toNat 0) = true → idxG p l = i) := ⟨idxG_hit 0 i0 hlt hz.out⟩
      obtain ⟨ad, e, hcell⟩ := Kd.at_int (Kd.C_below HR.out HB.out) i i0 hlt
      cases e
      rw [show rd l i = l.getD i.toNat 0 from rfl] at hcell
      have HCALL := Aside0.mk (HP.out wr (l.getD i.toNat 0) HMEM.out HB.out)
      generalize l.getD i.toNat 0 = x at *
      cases hq : p x with
      | true =>
        have HYES := Aside0.mk (HHIT.out hq)
        rw [hq] at HCALL
        go_wp2_with (go_at_fn g; refine HCALL.out.mono ?_; rintro e w' ⟨rfl, hb'⟩; have HB' := Aside0.mk (below_step HB.out hb'); clear hb')
        go_ret
        exact ⟨by rw [HYES.out]; rfl, HB'.out⟩
      | false =>
        have HNO := Aside0.mk hq
        rw [hq] at HCALL
        clear hq
        go_wp2_with (go_at_fn g; refine HCALL.out.mono ?_; rintro e w' ⟨rfl, hb'⟩; have HB' := Aside0.mk (below_step HB.out hb'); clear hb')
        go_roundw
        case rel => exact ⟨i + 1, ⟨by omega⟩, by first | rfl | go_num, ⟨by rw [HZ.out, hz.out, HNO.out]; rfl⟩, ⟨by repeat (first | exact HB'.out | apply pw_below_drewN | apply below_drew1)⟩⟩
        case measure => simp [intOf]; omega
    · have HNO : Aside0 (idxG p l = -1) := ⟨by have := hz.out; rw [allG_end _ _ _ (by have := hi.out; omega)] at this; exact idxG_miss this⟩
      clear hz
      go_wp2
      go_ret
      exact ⟨by rw [HNO.out]; rfl, HB.out⟩

-- HAND slices_DeleteFunc_int_int: function 34
/-- Of the first j entries those that are kept. -/
def keepF (p : Int → Bool) (l : List Int) (j : Nat) : List Int := (l.take j).filter fun x => !p x
/-- The row when j entries have been looked at. -/
def keepL (p : Int → Bool) (l : List Int) (j : Nat) : List Int := keepF p l j ++ l.drop (keepF p l j).length
theorem keepF_succ (p : Int → Bool) (l : List Int) {j : Nat} (h : j < l.length) : keepF p l (j + 1) = keepF p l j ++ (if p (l.getD j 0) = true then [] else [l.getD j 0]) := by
  unfold keepF
  rw [List.take_add_one, List.getElem?_eq_getElem h, List.filter_append, List.getD_eq_getElem?_getD, List.getElem?_eq_getElem h]
  congr 1
  simp only [Option.toList_some, Option.getD_some]
  by_cases hq : p l[j] = true <;> simp [hq]
theorem keepF_len (p : Int → Bool) (l : List Int) (j : Nat) (h : j ≤ l.length) : (keepF p l j).length ≤ j := by
  unfold keepF
  exact Nat.le_trans (List.length_filter_le _ _) (by rw [List.length_take]; omega)
theorem keepL_len (p : Int → Bool) (l : List Int) (j : Nat) (h : j ≤ l.length) : (keepL p l j).length = l.length := by
  have := keepF_len p l j h
  unfold keepL
  rw [List.length_append, List.length_drop]
  omega
theorem keepL_high (p : Int → Bool) (l : List Int) (j : Nat) (h : j < l.length) : (keepL p l j).getD j 0 = l.getD j 0 := by
  have := keepF_len p l j (by omega)
  unfold keepL
  rw [List.getD_eq_getElem?_getD, List.getD_eq_getElem?_getD, List.getElem?_append_right this, List.getElem?_drop, Nat.add_sub_cancel' this]
theorem keepL_keep (p : Int → Bool) (l : List Int) (j : Nat) (h : j < l.length) (hp : p (l.getD j 0) = false) : keepL p l (j + 1) = (keepL p l j).set (keepF p l j).length (l.getD j 0) := by
  have hl := keepF_len p l j (by omega)
  have hs := keepF_succ p l h
  rw [if_neg (by rw [hp]; decide)] at hs
  unfold keepL
  rw [hs, List.set_append_right _ _ (Nat.le_refl _), Nat.sub_self, List.length_append, List.length_singleton, List.append_assoc]
  congr 1
  rw [← List.getElem_cons_drop (show (keepF p l j).length < l.length by omega)]
  rfl
theorem keepL_skip (p : Int → Bool) (l : List Int) (j : Nat) (h : j < l.length) (hp : p (l.getD j 0) = true) : keepF p l (j + 1) = keepF p l j := by
  have hs := keepF_succ p l h
  rw [if_pos hp, List.append_nil] at hs
  exact hs
theorem keepF_pre (p : Int → Bool) (l : List Int) (j : Nat) (h : j ≤ l.length) (hp : ∀ k, k < j → p (l.getD k 0) = false) : keepF p l j = l.take j := by
  unfold keepF
  rw [List.filter_eq_self]
  intro x hx
  obtain ⟨k, hk, rfl⟩ := List.mem_iff_getElem.1 hx
  rw [List.length_take] at hk
  rw [List.getElem_take]
  have := hp k (by omega)
  rw [List.getD_eq_getElem?_getD, List.getElem?_eq_getElem (by omega)] at this
  rw [show p l[k] = false from this]
  rfl
theorem keepL_pre (p : Int → Bool) (l : List Int) (j : Nat) (h : j ≤ l.length) (hp : ∀ k, k < j → p (l.getD k 0) = false) : keepL p l j = l := by
  unfold keepL
  rw [keepF_pre p l j h hp, List.length_take, Nat.min_eq_left h, List.take_append_drop]
theorem idxG_cases (p : Int → Bool) (l : List Int) : (idxG p l = -1 ∧ ∀ k, k < l.length → p (l.getD k 0) = false) ∨ ∃ k : Nat, k < l.length ∧ idxG p l = (k : Int) ∧ p (l.getD k 0) = true ∧ ∀ j, j < k → p (l.getD j 0) = false := by
  unfold idxG
  cases h : l.findIdx? p with
  | none =>
    refine .inl ⟨rfl, fun k hk => ?_⟩
    rw [List.findIdx?_eq_none_iff] at h
    rw [List.getD_eq_getElem?_getD, List.getElem?_eq_getElem hk]
    exact h _ (List.getElem_mem hk)
  | some k =>
    rw [List.findIdx?_eq_some_iff_getElem] at h
    obtain ⟨hk, h1, h2⟩ := h
    refine .inr ⟨k, hk, rfl, by rw [List.getD_eq_getElem?_getD, List.getElem?_eq_getElem hk]; exact h1, fun j hj => ?_⟩
    have := h2 j hj
    rw [List.getD_eq_getElem?_getD, List.getElem?_eq_getElem (by omega)]
    simpa using this
theorem kept_setCells {w : World} {S : Nat → Prop} {b : Nat} (hb : S b ∨ w.heap.size ≤ b) : ∀ (vs : List Value) (o : Nat) (W : World), Kept w W S → Kept w (W.setCells b o vs) S
  | [], _, _, h => h
  | v :: vs, o, W, h => kept_setCells hb vs (o + 1) _ (h.setCell hb v)
theorem below_setCells {w : World} {B b : Nat} (hb : B ≤ b) : ∀ (vs : List Value) (o : Nat) (W : World), Below B w W → Below B w (W.setCells b o vs)
  | [], _, _, h => h
  | v :: vs, o, W, h => below_setCells hb vs (o + 1) _ (h.setCell hb _)
theorem R_setCells {e base g n cap : Nat} {ok : Nat → Prop} : ∀ (m o : Nat) (xs : List Int) (W : World), Kd.R (Kd.int .i64) e W base ok (.slice (some ⟨g, 0, none⟩) n cap) xs → ∃ ys, Kd.R (Kd.int .i64) e (W.setCells g o (List.replicate m (.int .i64 0))) base ok (.slice (some ⟨g, 0, none⟩) n cap) ys ∧ ys.length = xs.length ∧ ∀ i, i ≤ o → ys.take i = xs.take i
  | 0, o, xs, W, h => ⟨xs, h, rfl, fun _ _ => rfl⟩
  | m + 1, o, xs, W, h => by
    have h1 := Kd.R_putn h (o : Int) 0
    rw [Int.toNat_natCast] at h1
    obtain ⟨ys, hy, hl, ht⟩ := R_setCells m (o + 1) _ _ h1
    exact ⟨ys, hy, by rw [hl, List.length_set], fun i hi => by rw [ht i (by omega), List.take_set_of_le hi]⟩
/-- A predicate's value, whatever the row of the call's own holds meanwhile. -/
def PredOwn (g : Nat) (lb : Array Value) (p : Int → Bool) (l : List Int) (w : World) (S : Nat → Prop) : Prop :=
  ∀ (W : World) (x : Int), x ∈ l → Kept w W S → Calls Tryd.prog g (#[.int .i64 x] ++ lb) W fun e w' => e = .returned (.bool (p x)) ∧ Below W.heap.size W w'
set_option maxHeartbeats 8000000 in
set_option maxRecDepth 100000 in
theorem slices_DeleteFunc_int_int.calls (g : Nat) (lb : Array Value) (eg : ∀ args w, (callFunc g args).run Tryd.prog w = .ok (.enter g args) w) (p : Int → Bool) (P0_ : Nat → Prop) (u : Value) (l : List Int) (w0 w : World) (hB : Below w0.heap.size w0 w) (ho : Kd.R (Kd.int .i64) 3 w w0.heap.size P0_ u l) (hp : PredOwn g lb p l w P0_) :
    Calls Tryd.prog 34 #[u, .func (.func g) #[] lb] w fun e w' => ∃ v0_ : Value, e = .returned v0_ ∧ Kd.R (Kd.int .i64) 3 w' w0.heap.size P0_ v0_ (l.filter fun x => !p x) ∧ Below w0.heap.size w0 w' ∧ Kept w w' P0_ := by
  have hu := Tryd.underlying22
  obtain ⟨A, c, rfl, hlc, hr⟩ := Kd.R_reads ho
  have hm := Kd.C_max hr
  have HI := Aside0.mk (slices_IndexFunc_int_int.calls g lb eg p A c l w hr hlc (fun W x hx hbW => hp W x hx (Kept.of_below hbW P0_)))
  have HP := Aside0.mk hp
  have HO := Aside0.mk ho
  have HB0 := Aside0.mk hB
  clear hp ho hr hB
  rcases idxG_cases p l with ⟨e1, hall⟩ | ⟨k0, hk0, e1, ht, hpre⟩
  · have HF : Aside0 ((l.filter fun x => !p x) = l) := ⟨by
      have := keepF_pre p l l.length (Nat.le_refl _) hall
      unfold keepF at this
      rwa [List.take_length] at this⟩
    rw [e1] at HI
    clear hall e1
    go_enter Tryd.func34, Tryd.ntmps34
    go_wp2_with (go_at_call 42; refine HI.out.mono ?_; rintro e w' ⟨rfl, hb'⟩)
    go_ret
    exact ⟨_, rfl, by rw [HF.out]; exact Kd.R_below HO.out hb', below_step HB0.out hb', Kept.of_below hb' P0_⟩
  · rw [e1] at HI
    obtain ⟨b, cb, eb, gb, gl, cl, HG⟩ := Kd.R_form HO.out (by omega)
    cases eb
    have HS := Aside0.mk (HO.out.1 b rfl)
    have HGE := Aside0.mk gb
    have HT := Aside0.mk ht
    have HPRE := Aside0.mk hpre
    clear ht hpre e1 gb gl cl HG
    have hne1 : ((k0 : Int) == -1) = false := beq_eq_false_iff_ne.2 (by omega)
    go_enter Tryd.func34, Tryd.ntmps34
    go_wp2_with (go_at_call 42; refine HI.out.mono ?_; rintro e w' ⟨rfl, hb'⟩; have HB' := Aside0.mk hb'; clear hb')
    go_loopg [5, 6, 7] l.length (fun gg s5 s6 _ wr => ∃ (j : Nat), s5 = .int .i64 ((keepF p l j).length : Nat) ∧ s6 = .int .i64 j ∧ Aside0 (j ≤ l.length ∧ l.length - j ≤ gg ∧ (keepF p l j).length < j) ∧ Aside0 (Kd.R (Kd.int .i64) 3 wr w0.heap.size P0_ (.slice (some ⟨b, 0, none⟩) l.length c) (keepL p l j)) ∧ Aside0 (Below w0.heap.size w0 wr) ∧ Aside0 (Kept w wr P0_))
    case atStart =>
      have hF := keepF_pre p l k0 (by omega) HPRE.out
      have hF1 := keepL_skip p l k0 hk0 HT.out
      have hlen : (keepF p l (k0 + 1)).length = k0 := by rw [hF1, hF, List.length_take]; omega
      refine ⟨k0 + 1, by rw [hlen], by go_num, ⟨by omega, by omega, by omega⟩, ⟨?_⟩, ⟨below_step HB0.out HB'.out⟩, ⟨Kept.of_below HB'.out P0_⟩⟩
      have : keepL p l (k0 + 1) = l := by
        have := keepL_pre p l k0 (by omega) HPRE.out
        unfold keepL at this ⊢
        rwa [hF1]
      rw [this]
      exact Kd.R_below HO.out HB'.out
    case round =>
      obtain ⟨j, rfl, rfl, hj, HR, HB, HK⟩ := hrel
      obtain ⟨hjl, hgg, hij⟩ := hj.out
      have HL := Aside0.mk (keepL_len p l j hjl)
      by_cases hlt : j < l.length
      · have hltz : (j : Int) < (l.length : Int) := by omega
        have HX := Aside0.mk (keepL_high p l j hlt)
        obtain ⟨cj, _⟩ := Kd.R_celln 0 HR.out (j : Int) (by omega) (by omega)
        obtain ⟨ci, fi⟩ := Kd.R_celln 0 HR.out ((keepF p l j).length : Int) (by omega) (by omega)
        rw [Int.toNat_natCast] at cj ci fi
        rw [show rdOf 0 (keepL p l j) (j : Int) = l.getD j 0 from HX.out] at cj
        have HCALL := Aside0.mk (HP.out wr (l.getD j 0) (by rw [List.getD_eq_getElem?_getD, List.getElem?_eq_getElem hlt]; exact List.getElem_mem hlt) HK.out)
        have HKEEP := Aside0.mk (keepL_keep p l j hlt)
        have HSKIP := Aside0.mk (keepL_skip p l j hlt)
        have HSUCC := Aside0.mk (keepF_succ p l hlt)
        generalize l.getD j 0 = x at *
        cases hq : p x with
        | true =>
          have HQ := Aside0.mk (HSKIP.out hq)
          rw [hq] at HCALL
          clear hq
          go_wp2_with (go_at_fn g; refine HCALL.out.mono ?_; rintro e w' ⟨rfl, hb'⟩; have HB1 := Aside0.mk hb'; clear hb')
          go_roundg (l.length - (j + 1))
          case measure => omega
          case rel =>
            refine ⟨j + 1, by rw [HQ.out], by go_num, ⟨by omega, Nat.le_refl _, by rw [HQ.out]; omega⟩, ⟨?_⟩, ⟨below_step HB.out HB1.out⟩, ⟨HK.out.below HB1.out⟩⟩
            have : keepL p l (j + 1) = keepL p l j := by unfold keepL; rw [HQ.out]
            rw [this]
            exact Kd.R_below HR.out HB1.out
        | false =>
          have HQ := Aside0.mk (HKEEP.out hq)
          have HN : Aside0 ((keepF p l (j + 1)).length = (keepF p l j).length + 1) := ⟨by rw [HSUCC.out, hq]; simp⟩
          rw [hq] at HCALL
          clear hq
          go_wp2_with (go_at_fn g; refine HCALL.out.mono ?_; rintro e w' ⟨rfl, hb'⟩; have HB1 := Aside0.mk hb'; clear ci fi; obtain ⟨ci, fi⟩ := Kd.R_celln 0 (Kd.R_below HR.out hb') ((keepF p l j).length : Int) (by omega) (by omega); rw [Int.toNat_natCast] at ci fi; clear hb')
          go_roundg (l.length - (j + 1))
          case measure => omega
          case rel =>
            have HR1 := Kd.R_putn (Kd.R_below HR.out HB1.out) ((keepF p l j).length : Int) x
            rw [Int.toNat_natCast, ← HQ.out] at HR1
            exact ⟨j + 1, by rw [HN.out]; go_num, by go_num, ⟨by omega, Nat.le_refl _, by rw [HN.out]; omega⟩, ⟨HR1⟩, ⟨below_set (below_step HB.out HB1.out) HGE.out⟩, ⟨(HK.out.below HB1.out).setCell (.inl HS.out) _⟩⟩
      · obtain rfl : j = l.length := by omega
        have hltz : ¬ (l.length : Int) < (l.length : Int) := by omega
        have HEND : Aside0 (keepF p l l.length = l.filter fun x => !p x) := ⟨by unfold keepF; rw [List.take_length]⟩
        have hcl : ∀ ty, (Builtin.clear_ #[22] ty #[.slice (some ⟨b, (keepF p l l.length).length, none⟩) (l.length - (keepF p l l.length).length) (c - (keepF p l l.length).length)]).run Tryd.prog wr = .ok (.tuple #[]) (wr.setCells b (keepF p l l.length).length (List.replicate (l.length - (keepF p l l.length).length) (.int .i64 0))) := by
          intro ty
          refine Go.Lib.run_clear_slice wr _ 3 ty _ hu (fun _ => rfl) rfl rfl b _ _ _ (by omega) (fun t ht => ?_) (fun t ht => ?_)
          · have h1 := (Kd.R_celln 0 HR.out (((keepF p l l.length).length + t : Nat) : Int) (by omega) (by omega)).1
            rw [Int.toNat_natCast] at h1
            rw [h1]
            rfl
          · have h1 := (Kd.R_celln 0 HR.out (((keepF p l l.length).length + t : Nat) : Int) (by omega) (by omega)).2
            rw [Int.toNat_natCast] at h1
            exact h1
        have HR2 := Aside0.mk (R_setCells (l.length - (keepF p l l.length).length) (keepF p l l.length).length (keepL p l l.length) wr HR.out)
        have HTK : Aside0 ((keepL p l l.length).take (keepF p l l.length).length = l.filter fun x => !p x) := ⟨by unfold keepL; rw [List.take_left', HEND.out]; rfl⟩
        have HBS := Aside0.mk (below_setCells HGE.out (List.replicate (l.length - (keepF p l l.length).length) (.int .i64 0)) (keepF p l l.length).length wr HB.out)
        have HKS := Aside0.mk (kept_setCells (.inl HS.out) (List.replicate (l.length - (keepF p l l.length).length) (.int .i64 0)) (keepF p l l.length).length wr HK.out)
        have HFL : Aside0 ((keepF p l l.length).length = (l.filter fun x => !p x).length) := ⟨by rw [HEND.out]⟩
        generalize (keepF p l l.length).length = i at *
        go_wp2
        go_ret
        obtain ⟨ys, hys, hyl, hyt⟩ := HR2.out
        have hT := Kd.R_take hys (m := i) (by rw [hyl, HL.out]; omega)
        rw [hyt i (Nat.le_refl _), HTK.out] at hT
        exact ⟨_, rfl, hT, HBS.out, HKS.out⟩

/-! ### bits_OnesCount64: function 49 -/
def bits_OnesCount64.f (a0 : Int) : Option (Int) := some (Go.bits .and .i64 (wrap64 (IntKind.u64.wrap ((IntKind.u64.wrap ((IntKind.u64.wrap ((Go.bits .and .u64 (IntKind.u64.wrap (((IntKind.u64.wrap ((Go.bits .and .u64 ((IntKind.u64.wrap ((Go.bits .and .u64 (a0 / 2) 6148914691236517205) + (Go.bits .and .u64 a0 6148914691236517205))) / 4) 3689348814741910323) + (Go.bits .and .u64 (IntKind.u64.wrap ((Go.bits .and .u64 (a0 / 2) 6148914691236517205) + (Go.bits .and .u64 a0 6148914691236517205))) 3689348814741910323))) / 16) + (IntKind.u64.wrap ((Go.bits .and .u64 ((IntKind.u64.wrap ((Go.bits .and .u64 (a0 / 2) 6148914691236517205) + (Go.bits .and .u64 a0 6148914691236517205))) / 4) 3689348814741910323) + (Go.bits .and .u64 (IntKind.u64.wrap ((Go.bits .and .u64 (a0 / 2) 6148914691236517205) + (Go.bits .and .u64 a0 6148914691236517205))) 3689348814741910323))))) 1085102592571150095) + ((Go.bits .and .u64 (IntKind.u64.wrap (((IntKind.u64.wrap ((Go.bits .and .u64 ((IntKind.u64.wrap ((Go.bits .and .u64 (a0 / 2) 6148914691236517205) + (Go.bits .and .u64 a0 6148914691236517205))) / 4) 3689348814741910323) + (Go.bits .and .u64 (IntKind.u64.wrap ((Go.bits .and .u64 (a0 / 2) 6148914691236517205) + (Go.bits .and .u64 a0 6148914691236517205))) 3689348814741910323))) / 16) + (IntKind.u64.wrap ((Go.bits .and .u64 ((IntKind.u64.wrap ((Go.bits .and .u64 (a0 / 2) 6148914691236517205) + (Go.bits .and .u64 a0 6148914691236517205))) / 4) 3689348814741910323) + (Go.bits .and .u64 (IntKind.u64.wrap ((Go.bits .and .u64 (a0 / 2) 6148914691236517205) + (Go.bits .and .u64 a0 6148914691236517205))) 3689348814741910323))))) 1085102592571150095) / 256))) + ((IntKind.u64.wrap ((Go.bits .and .u64 (IntKind.u64.wrap (((IntKind.u64.wrap ((Go.bits .and .u64 ((IntKind.u64.wrap ((Go.bits .and .u64 (a0 / 2) 6148914691236517205) + (Go.bits .and .u64 a0 6148914691236517205))) / 4) 3689348814741910323) + (Go.bits .and .u64 (IntKind.u64.wrap ((Go.bits .and .u64 (a0 / 2) 6148914691236517205) + (Go.bits .and .u64 a0 6148914691236517205))) 3689348814741910323))) / 16) + (IntKind.u64.wrap ((Go.bits .and .u64 ((IntKind.u64.wrap ((Go.bits .and .u64 (a0 / 2) 6148914691236517205) + (Go.bits .and .u64 a0 6148914691236517205))) / 4) 3689348814741910323) + (Go.bits .and .u64 (IntKind.u64.wrap ((Go.bits .and .u64 (a0 / 2) 6148914691236517205) + (Go.bits .and .u64 a0 6148914691236517205))) 3689348814741910323))))) 1085102592571150095) + ((Go.bits .and .u64 (IntKind.u64.wrap (((IntKind.u64.wrap ((Go.bits .and .u64 ((IntKind.u64.wrap ((Go.bits .and .u64 (a0 / 2) 6148914691236517205) + (Go.bits .and .u64 a0 6148914691236517205))) / 4) 3689348814741910323) + (Go.bits .and .u64 (IntKind.u64.wrap ((Go.bits .and .u64 (a0 / 2) 6148914691236517205) + (Go.bits .and .u64 a0 6148914691236517205))) 3689348814741910323))) / 16) + (IntKind.u64.wrap ((Go.bits .and .u64 ((IntKind.u64.wrap ((Go.bits .and .u64 (a0 / 2) 6148914691236517205) + (Go.bits .and .u64 a0 6148914691236517205))) / 4) 3689348814741910323) + (Go.bits .and .u64 (IntKind.u64.wrap ((Go.bits .and .u64 (a0 / 2) 6148914691236517205) + (Go.bits .and .u64 a0 6148914691236517205))) 3689348814741910323))))) 1085102592571150095) / 256))) / 65536))) + ((IntKind.u64.wrap ((IntKind.u64.wrap ((Go.bits .and .u64 (IntKind.u64.wrap (((IntKind.u64.wrap ((Go.bits .and .u64 ((IntKind.u64.wrap ((Go.bits .and .u64 (a0 / 2) 6148914691236517205) + (Go.bits .and .u64 a0 6148914691236517205))) / 4) 3689348814741910323) + (Go.bits .and .u64 (IntKind.u64.wrap ((Go.bits .and .u64 (a0 / 2) 6148914691236517205) + (Go.bits .and .u64 a0 6148914691236517205))) 3689348814741910323))) / 16) + (IntKind.u64.wrap ((Go.bits .and .u64 ((IntKind.u64.wrap ((Go.bits .and .u64 (a0 / 2) 6148914691236517205) + (Go.bits .and .u64 a0 6148914691236517205))) / 4) 3689348814741910323) + (Go.bits .and .u64 (IntKind.u64.wrap ((Go.bits .and .u64 (a0 / 2) 6148914691236517205) + (Go.bits .and .u64 a0 6148914691236517205))) 3689348814741910323))))) 1085102592571150095) + ((Go.bits .and .u64 (IntKind.u64.wrap (((IntKind.u64.wrap ((Go.bits .and .u64 ((IntKind.u64.wrap ((Go.bits .and .u64 (a0 / 2) 6148914691236517205) + (Go.bits .and .u64 a0 6148914691236517205))) / 4) 3689348814741910323) + (Go.bits .and .u64 (IntKind.u64.wrap ((Go.bits .and .u64 (a0 / 2) 6148914691236517205) + (Go.bits .and .u64 a0 6148914691236517205))) 3689348814741910323))) / 16) + (IntKind.u64.wrap ((Go.bits .and .u64 ((IntKind.u64.wrap ((Go.bits .and .u64 (a0 / 2) 6148914691236517205) + (Go.bits .and .u64 a0 6148914691236517205))) / 4) 3689348814741910323) + (Go.bits .and .u64 (IntKind.u64.wrap ((Go.bits .and .u64 (a0 / 2) 6148914691236517205) + (Go.bits .and .u64 a0 6148914691236517205))) 3689348814741910323))))) 1085102592571150095) / 256))) + ((IntKind.u64.wrap ((Go.bits .and .u64 (IntKind.u64.wrap (((IntKind.u64.wrap ((Go.bits .and .u64 ((IntKind.u64.wrap ((Go.bits .and .u64 (a0 / 2) 6148914691236517205) + (Go.bits .and .u64 a0 6148914691236517205))) / 4) 3689348814741910323) + (Go.bits .and .u64 (IntKind.u64.wrap ((Go.bits .and .u64 (a0 / 2) 6148914691236517205) + (Go.bits .and .u64 a0 6148914691236517205))) 3689348814741910323))) / 16) + (IntKind.u64.wrap ((Go.bits .and .u64 ((IntKind.u64.wrap ((Go.bits .and .u64 (a0 / 2) 6148914691236517205) + (Go.bits .and .u64 a0 6148914691236517205))) / 4) 3689348814741910323) + (Go.bits .and .u64 (IntKind.u64.wrap ((Go.bits .and .u64 (a0 / 2) 6148914691236517205) + (Go.bits .and .u64 a0 6148914691236517205))) 3689348814741910323))))) 1085102592571150095) + ((Go.bits .and .u64 (IntKind.u64.wrap (((IntKind.u64.wrap ((Go.bits .and .u64 ((IntKind.u64.wrap ((Go.bits .and .u64 (a0 / 2) 6148914691236517205) + (Go.bits .and .u64 a0 6148914691236517205))) / 4) 3689348814741910323) + (Go.bits .and .u64 (IntKind.u64.wrap ((Go.bits .and .u64 (a0 / 2) 6148914691236517205) + (Go.bits .and .u64 a0 6148914691236517205))) 3689348814741910323))) / 16) + (IntKind.u64.wrap ((Go.bits .and .u64 ((IntKind.u64.wrap ((Go.bits .and .u64 (a0 / 2) 6148914691236517205) + (Go.bits .and .u64 a0 6148914691236517205))) / 4) 3689348814741910323) + (Go.bits .and .u64 (IntKind.u64.wrap ((Go.bits .and .u64 (a0 / 2) 6148914691236517205) + (Go.bits .and .u64 a0 6148914691236517205))) 3689348814741910323))))) 1085102592571150095) / 256))) / 65536))) / 4294967296)))) 127)
set_option maxHeartbeats 8000000 in
set_option maxRecDepth 100000 in
theorem bits_OnesCount64.calls (a0 : Int) (r : Int) (w : World) (h : bits_OnesCount64.f a0 = some r) :
    Calls Tryd.prog 49 #[.int .u64 a0] w fun e w' => e = .returned (.int .i64 r) ∧ Drawn0 w w' := by
  have H : (some (Go.bits .and .i64 (wrap64 (IntKind.u64.wrap ((IntKind.u64.wrap ((IntKind.u64.wrap ((Go.bits .and .u64 (IntKind.u64.wrap (((IntKind.u64.wrap ((Go.bits .and .u64 ((IntKind.u64.wrap ((Go.bits .and .u64 (a0 / 2) 6148914691236517205) + (Go.bits .and .u64 a0 6148914691236517205))) / 4) 3689348814741910323) + (Go.bits .and .u64 (IntKind.u64.wrap ((Go.bits .and .u64 (a0 / 2) 6148914691236517205) + (Go.bits .and .u64 a0 6148914691236517205))) 3689348814741910323))) / 16) + (IntKind.u64.wrap ((Go.bits .and .u64 ((IntKind.u64.wrap ((Go.bits .and .u64 (a0 / 2) 6148914691236517205) + (Go.bits .and .u64 a0 6148914691236517205))) / 4) 3689348814741910323) + (Go.bits .and .u64 (IntKind.u64.wrap ((Go.bits .and .u64 (a0 / 2) 6148914691236517205) + (Go.bits .and .u64 a0 6148914691236517205))) 3689348814741910323))))) 1085102592571150095) + ((Go.bits .and .u64 (IntKind.u64.wrap (((IntKind.u64.wrap ((Go.bits .and .u64 ((IntKind.u64.wrap ((Go.bits .and .u64 (a0 / 2) 6148914691236517205) + (Go.bits .and .u64 a0 6148914691236517205))) / 4) 3689348814741910323) + (Go.bits .and .u64 (IntKind.u64.wrap ((Go.bits .and .u64 (a0 / 2) 6148914691236517205) + (Go.bits .and .u64 a0 6148914691236517205))) 3689348814741910323))) / 16) + (IntKind.u64.wrap ((Go.bits .and .u64 ((IntKind.u64.wrap ((Go.bits .and .u64 (a0 / 2) 6148914691236517205) + (Go.bits .and .u64 a0 6148914691236517205))) / 4) 3689348814741910323) + (Go.bits .and .u64 (IntKind.u64.wrap ((Go.bits .and .u64 (a0 / 2) 6148914691236517205) + (Go.bits .and .u64 a0 6148914691236517205))) 3689348814741910323))))) 1085102592571150095) / 256))) + ((IntKind.u64.wrap ((Go.bits .and .u64 (IntKind.u64.wrap (((IntKind.u64.wrap ((Go.bits .and .u64 ((IntKind.u64.wrap ((Go.bits .and .u64 (a0 / 2) 6148914691236517205) + (Go.bits .and .u64 a0 6148914691236517205))) / 4) 3689348814741910323) + (Go.bits .and .u64 (IntKind.u64.wrap ((Go.bits .and .u64 (a0 / 2) 6148914691236517205) + (Go.bits .and .u64 a0 6148914691236517205))) 3689348814741910323))) / 16) + (IntKind.u64.wrap ((Go.bits .and .u64 ((IntKind.u64.wrap ((Go.bits .and .u64 (a0 / 2) 6148914691236517205) + (Go.bits .and .u64 a0 6148914691236517205))) / 4) 3689348814741910323) + (Go.bits .and .u64 (IntKind.u64.wrap ((Go.bits .and .u64 (a0 / 2) 6148914691236517205) + (Go.bits .and .u64 a0 6148914691236517205))) 3689348814741910323))))) 1085102592571150095) + ((Go.bits .and .u64 (IntKind.u64.wrap (((IntKind.u64.wrap ((Go.bits .and .u64 ((IntKind.u64.wrap ((Go.bits .and .u64 (a0 / 2) 6148914691236517205) + (Go.bits .and .u64 a0 6148914691236517205))) / 4) 3689348814741910323) + (Go.bits .and .u64 (IntKind.u64.wrap ((Go.bits .and .u64 (a0 / 2) 6148914691236517205) + (Go.bits .and .u64 a0 6148914691236517205))) 3689348814741910323))) / 16) + (IntKind.u64.wrap ((Go.bits .and .u64 ((IntKind.u64.wrap ((Go.bits .and .u64 (a0 / 2) 6148914691236517205) + (Go.bits .and .u64 a0 6148914691236517205))) / 4) 3689348814741910323) + (Go.bits .and .u64 (IntKind.u64.wrap ((Go.bits .and .u64 (a0 / 2) 6148914691236517205) + (Go.bits .and .u64 a0 6148914691236517205))) 3689348814741910323))))) 1085102592571150095) / 256))) / 65536))) + ((IntKind.u64.wrap ((IntKind.u64.wrap ((Go.bits .and .u64 (IntKind.u64.wrap (((IntKind.u64.wrap ((Go.bits .and .u64 ((IntKind.u64.wrap ((Go.bits .and .u64 (a0 / 2) 6148914691236517205) + (Go.bits .and .u64 a0 6148914691236517205))) / 4) 3689348814741910323) + (Go.bits .and .u64 (IntKind.u64.wrap ((Go.bits .and .u64 (a0 / 2) 6148914691236517205) + (Go.bits .and .u64 a0 6148914691236517205))) 3689348814741910323))) / 16) + (IntKind.u64.wrap ((Go.bits .and .u64 ((IntKind.u64.wrap ((Go.bits .and .u64 (a0 / 2) 6148914691236517205) + (Go.bits .and .u64 a0 6148914691236517205))) / 4) 3689348814741910323) + (Go.bits .and .u64 (IntKind.u64.wrap ((Go.bits .and .u64 (a0 / 2) 6148914691236517205) + (Go.bits .and .u64 a0 6148914691236517205))) 3689348814741910323))))) 1085102592571150095) + ((Go.bits .and .u64 (IntKind.u64.wrap (((IntKind.u64.wrap ((Go.bits .and .u64 ((IntKind.u64.wrap ((Go.bits .and .u64 (a0 / 2) 6148914691236517205) + (Go.bits .and .u64 a0 6148914691236517205))) / 4) 3689348814741910323) + (Go.bits .and .u64 (IntKind.u64.wrap ((Go.bits .and .u64 (a0 / 2) 6148914691236517205) + (Go.bits .and .u64 a0 6148914691236517205))) 3689348814741910323))) / 16) + (IntKind.u64.wrap ((Go.bits .and .u64 ((IntKind.u64.wrap ((Go.bits .and .u64 (a0 / 2) 6148914691236517205) + (Go.bits .and .u64 a0 6148914691236517205))) / 4) 3689348814741910323) + (Go.bits .and .u64 (IntKind.u64.wrap ((Go.bits .and .u64 (a0 / 2) 6148914691236517205) + (Go.bits .and .u64 a0 6148914691236517205))) 3689348814741910323))))) 1085102592571150095) / 256))) + ((IntKind.u64.wrap ((Go.bits .and .u64 (IntKind.u64.wrap (((IntKind.u64.wrap ((Go.bits .and .u64 ((IntKind.u64.wrap ((Go.bits .and .u64 (a0 / 2) 6148914691236517205) + (Go.bits .and .u64 a0 6148914691236517205))) / 4) 3689348814741910323) + (Go.bits .and .u64 (IntKind.u64.wrap ((Go.bits .and .u64 (a0 / 2) 6148914691236517205) + (Go.bits .and .u64 a0 6148914691236517205))) 3689348814741910323))) / 16) + (IntKind.u64.wrap ((Go.bits .and .u64 ((IntKind.u64.wrap ((Go.bits .and .u64 (a0 / 2) 6148914691236517205) + (Go.bits .and .u64 a0 6148914691236517205))) / 4) 3689348814741910323) + (Go.bits .and .u64 (IntKind.u64.wrap ((Go.bits .and .u64 (a0 / 2) 6148914691236517205) + (Go.bits .and .u64 a0 6148914691236517205))) 3689348814741910323))))) 1085102592571150095) + ((Go.bits .and .u64 (IntKind.u64.wrap (((IntKind.u64.wrap ((Go.bits .and .u64 ((IntKind.u64.wrap ((Go.bits .and .u64 (a0 / 2) 6148914691236517205) + (Go.bits .and .u64 a0 6148914691236517205))) / 4) 3689348814741910323) + (Go.bits .and .u64 (IntKind.u64.wrap ((Go.bits .and .u64 (a0 / 2) 6148914691236517205) + (Go.bits .and .u64 a0 6148914691236517205))) 3689348814741910323))) / 16) + (IntKind.u64.wrap ((Go.bits .and .u64 ((IntKind.u64.wrap ((Go.bits .and .u64 (a0 / 2) 6148914691236517205) + (Go.bits .and .u64 a0 6148914691236517205))) / 4) 3689348814741910323) + (Go.bits .and .u64 (IntKind.u64.wrap ((Go.bits .and .u64 (a0 / 2) 6148914691236517205) + (Go.bits .and .u64 a0 6148914691236517205))) 3689348814741910323))))) 1085102592571150095) / 256))) / 65536))) / 4294967296)))) 127)) = some r := h
  clear h
  obtain rfl := Option.some.inj H
  go_enter Tryd.func49, Tryd.ntmps49
  go_wp2
  go_ret
  exact ⟨by first | rfl | (simp; done) | (simp [*]; done), by repeat (first | exact Drawn0.refl _ | apply Drawn0.step)⟩

/-! ### bits_OnesCount: function 45 -/
def bits_OnesCount.f (a0 : Int) : Option (Int) := (bits_OnesCount64.f a0).bind fun t101 => (some t101)
set_option maxHeartbeats 8000000 in
set_option maxRecDepth 100000 in
theorem bits_OnesCount.calls (a0 : Int) (r : Int) (w : World) (h : bits_OnesCount.f a0 = some r) :
    Calls Tryd.prog 45 #[.int .u64 a0] w fun e w' => e = .returned (.int .i64 r) ∧ Drawn0 w w' := by
  have H : ((bits_OnesCount64.f a0).bind fun t101 => (some t101)) = some r := h
  clear h
  replace H := Option.bind_eq_some_iff.mp H
  obtain ⟨t101, A20, H⟩ := H
  replace H : (some t101) = some r := H
  have A2 := Aside0.mk A20
  clear A20
  obtain rfl := Option.some.inj H
  go_enter Tryd.func45, Tryd.ntmps45
  go_wp2_with (first | ((with_reducible refine gate_callee (f := 49) rfl ?_); refine goesL_ (some 7) rfl rfl Tryd.func49 (by kernel_rfl) rfl #[.int .u64 a0] rfl (by (try simp only [List.map_toArray, List.map_cons, List.map_nil]); first | done | rfl | (simp only [List.length_drop, List.length_take]; rfl)) ?_; (with_reducible refine (bits_OnesCount64.calls a0 t101 _ A2.out).mono ?_); rintro e w' ⟨rfl, ⟨nd, rfl⟩⟩; refine ⟨_, rfl, ?_⟩))
  go_ret
  exact ⟨by first | rfl | (simp; done) | (simp [*]; done), by repeat (first | exact Drawn0.refl _ | apply Drawn0.step)⟩

/-! ### impl_count: function 43 -/
def impl_count.f (a0 : Int) : Option (Int) := (bits_OnesCount.f (IntKind.u64.wrap (a0))).bind fun t101 => (some t101)
set_option maxHeartbeats 8000000 in
set_option maxRecDepth 100000 in
theorem impl_count.calls (a0 : Int) (r : Int) (w : World) (h : impl_count.f a0 = some r) :
    Calls Tryd.prog 43 #[.int .i64 a0] w fun e w' => e = .returned (.int .i64 r) ∧ Drawn0 w w' := by
  have H : ((bits_OnesCount.f (IntKind.u64.wrap (a0))).bind fun t101 => (some t101)) = some r := h
  clear h
  replace H := Option.bind_eq_some_iff.mp H
  obtain ⟨t101, A20, H⟩ := H
  replace H : (some t101) = some r := H
  have A2 := Aside0.mk A20
  clear A20
  obtain rfl := Option.some.inj H
  go_enter Tryd.func43, Tryd.ntmps43
  go_wp2_with (first | ((with_reducible refine gate_callee (f := 45) rfl ?_); refine goesL_ (some 5) rfl rfl Tryd.func45 (by kernel_rfl) rfl #[.int .u64 (IntKind.u64.wrap (a0))] rfl (by (try simp only [List.map_toArray, List.map_cons, List.map_nil]); first | done | rfl | (simp only [List.length_drop, List.length_take]; rfl)) ?_; (with_reducible refine (bits_OnesCount.calls (IntKind.u64.wrap (a0)) t101 _ A2.out).mono ?_); rintro e w' ⟨rfl, ⟨nd, rfl⟩⟩; refine ⟨_, rfl, ?_⟩))
  go_ret
  exact ⟨by first | rfl | (simp; done) | (simp [*]; done), by repeat (first | exact Drawn0.refl _ | apply Drawn0.step)⟩

-- HAND with impl.count+math/bits.OnesCount+math/bits.OnesCount64
theorem count_ok128 : ∀ x : Fin 128, impl_count.f ((x.val : Nat) : Int) = some ((cntN x.val : Nat) : Int) := by decide +kernel
theorem count_ok {x : Int} (h : I128 x) : impl_count.f x = some (cntN x.toNat : Int) := by
  have := count_ok128 ⟨x.toNat, by have := h.2; have := h.1; omega⟩
  rwa [show ((x.toNat : Nat) : Int) = x by have := h.1; omega] at this

/-! ### impl_Space_paths: function 35 -/
def impl_Space_paths.l0 : Nat → List Bool → List Int → List Int → Int → Int → Option (List Int)
  | 0, _, _, _, _, _ => none
  | k + 1, x3, x4, x11, x12, x13 => if x13 < x12 then (if 0 ≤ x13 then (if x13 < (x11.length : Int) then ((impl_family_inner.f x3 (rd x11 x13)).bind fun t109 => ((impl_count.f t109).bind fun t110 => (if t110 = 1 then (if x4.length < 17592186044416 then (impl_Space_paths.l0 k x3 (x4 ++ [rd x11 x13]) x11 x12 (wrap64 (x13 + 1))) else (none)) else (impl_Space_paths.l0 k x3 x4 x11 x12 (wrap64 (x13 + 1)))))) else (none)) else (none)) else (some x4)
def impl_Space_paths.f (k : Nat) (a0_0 : Int) (l0_1 : List Int) : Option (List Int) := (impl_Space_family.f a0_0 l0_1).bind fun t102 => (impl_Space_paths.l0 k t102 (([] : List Int)) l0_1 (l0_1.length : Int) 0)
theorem impl_Space_paths.mono_l : ∀ k, (∀ y0 y1 y2 y3 y4, LeO (impl_Space_paths.l0 k y0 y1 y2 y3 y4) (impl_Space_paths.l0 (k + 1) y0 y1 y2 y3 y4))
  | 0 => fun _ _ _ _ _ r h => by simp [impl_Space_paths.l0] at h
  | k + 1 => by
    have ih0 := impl_Space_paths.mono_l k
    · intro y0 y1 y2 y3 y4
      unfold impl_Space_paths.l0
      repeat' first
      | (with_reducible exact ih0 _ _ _ _ _)
      | (with_reducible exact LeO.refl _)
      | (with_reducible exact LeO.none _)
      | (with_reducible refine LeO.ite ?_ ?_)
      | (with_reducible refine LeO.bind ?_ (fun _ => ?_))
      | exact ih0 _ _ _ _ _
      | exact LeO.none _
      | refine LeO.ite ?_ ?_
      | refine LeO.bind ?_ (fun _ => ?_)
theorem impl_Space_paths.mono : ∀ a0 a1 k, LeO (impl_Space_paths.f k a0 a1) (impl_Space_paths.f (k + 1) a0 a1) := by
  intro a0 a1 k
  have ih0 := impl_Space_paths.mono_l k
  unfold impl_Space_paths.f
  repeat' first
      | (with_reducible exact ih0 _ _ _ _ _)
      | (with_reducible exact LeO.refl _)
      | (with_reducible exact LeO.none _)
      | (with_reducible refine LeO.ite ?_ ?_)
      | (with_reducible refine LeO.bind ?_ (fun _ => ?_))
      | exact ih0 _ _ _ _ _
      | exact LeO.none _
      | refine LeO.ite ?_ ?_
      | refine LeO.bind ?_ (fun _ => ?_)
set_option maxHeartbeats 8000000 in
set_option maxRecDepth 100000 in
theorem impl_Space_paths.calls (k : Nat) (a0_0 : Int) (A0_1 : Option Addr) (c0_1 : Nat) (l0_1 : List Int) (r : List Int) (w : World) (hr0_1 : Kd.C (Kd.int .i64) w A0_1 l0_1.length l0_1) (hc0_1 : l0_1.length ≤ c0_1) (h : impl_Space_paths.f k a0_0 l0_1 = some r) :
    Calls Tryd.prog 35 #[.agg #[.int .i64 a0_0, .slice A0_1 l0_1.length c0_1]] w fun e w' => ∃ v0_ : Value, e = .returned (v0_) ∧ Kd.R (Kd.int .i64) 3 w' w.heap.size (fun _ => True) v0_ r ∧ Below w.heap.size w w' := by
  have hu29 := Tryd.underlying29
  have HR0_1 := Aside0.mk hr0_1
  have HC0_1 := Aside0.mk hc0_1
  clear hr0_1 hc0_1
  have HB := Aside0.mk (Below.refl w.heap.size w)
  have H : ((impl_Space_family.f a0_0 l0_1).bind fun t102 => (impl_Space_paths.l0 k t102 (([] : List Int)) l0_1 (l0_1.length : Int) 0)) = some r := h
  clear h
  replace H := Option.bind_eq_some_iff.mp H
  obtain ⟨t102, A20, H⟩ := H
  replace H : (impl_Space_paths.l0 k t102 (([] : List Int)) l0_1 (l0_1.length : Int) 0) = some r := H
  have A2 := Aside0.mk A20
  clear A20
  have HLt102 := Aside0.mk (impl_Space_family.len A2.out)
  obtain ⟨y105, hy105⟩ : ∃ y_ : List Int, y_ = (([] : List Int)) := ⟨_, rfl⟩
  replace H : (impl_Space_paths.l0 k t102 y105 l0_1 (l0_1.length : Int) 0) = some r := by first | (rw [hy105]; with_reducible exact H) | (have H2_ := (Option.bind_some _ _).symm.trans H; rw [hy105]; with_reducible exact H2_) | (have H2_ := (Option.bind_some _ _).symm.trans H; with_reducible exact H2_) | with_reducible exact H | (rw [hy105]; exact H) | exact H
  have Ny105 := Aside0.mk hy105
  clear hy105
  have H' := Aside0.mk H
  clear H
  go_enter Tryd.func35, Tryd.ntmps35
  go_wp2_with (first | ((with_reducible refine gate_dst (N := 1) rfl ?_); refine box_event ?hg (N := 1) ?hd (cs := #[.int .i64 a0_0, .slice A0_1 l0_1.length c0_1]) (t := 29) ?hr ?_; (case hd => rfl); (case hg => rfl); (case hr => first | (go_simp; done) | (go_simp; rfl)); intro gb101 hg w3 hbox hb; have n0_ := Aside0.mk (below_step (by repeat (first | (with_reducible first | exact HB.out | apply below_alloc | apply pw_below_drewN | apply below_drew1) | exact HB.out)) hb); have n1_ := Aside0.mk (hbox); have n2_ := Aside0.mk ((by rw [hg]; exact (below_size (by repeat (first | (with_reducible first | exact HB.out | apply below_alloc | apply pw_below_drewN | apply below_drew1) | exact HB.out))) : w.heap.size ≤ gb101)); have n3_ := Aside0.mk ((by rw [hg]; exact (below_size (by repeat (first | (with_reducible first | exact HB.out | apply below_alloc | apply pw_below_drewN | apply below_drew1) | exact HB.out))) : w.heap.size ≤ gb101)); clear HB; have HB := n0_; have BK101 := n1_; have GW101 := n2_; have GE101 := n3_; clear n0_ n1_ n2_ n3_; clear hb hbox hg; have hcz4_0 : w3.cell? ⟨gb101, 0, none⟩ = some (.int .i64 a0_0) := (blk_cell BK101.out 0).trans rfl; have hcz4_1 : w3.cell? ⟨gb101, 1, none⟩ = some (.slice A0_1 l0_1.length c0_1) := (blk_cell BK101.out 1).trans rfl; have hfz4_0 := blk_frozen BK101.out 0; have hfz4_1 := blk_frozen BK101.out 1) | ((with_reducible refine gate_callee (f := 31) rfl ?_); refine goesL_ (some 8) rfl rfl Tryd.func31 (by kernel_rfl) rfl #[.agg #[.int .i64 a0_0, .slice A0_1 l0_1.length c0_1]] rfl (by (try simp only [List.map_toArray, List.map_cons, List.map_nil]); first | done | rfl | (simp only [List.length_drop, List.length_take]; rfl)) ?_; (with_reducible refine (impl_Space_family.calls a0_0 _ _ l0_1 t102 _ ?side1 ?side2 A2.out).mono ?_); (case side1 => repeat (first | exact (Kd.C_below HR0_1.out HB.out) | (with_reducible refine Kd.C_alloc ?_ _) | (with_reducible refine Kd.C_drewN ?_ _) | (with_reducible refine Kd.C_drew ?_))); (case side2 => exact HC0_1.out); rintro e w5 ⟨v103, rfl, ho0, hb⟩; refine ⟨_, rfl, ?_⟩; have n0_ := Aside0.mk (Kd.R_lower ho0 (below_size (by repeat (first | (with_reducible first | exact HB.out | apply below_alloc | apply pw_below_drewN | apply below_drew1 | refine below_set ?_ GE101.out) | exact HB.out)))); have n1_ := Aside0.mk (blk_below (g := gb101) (o := .cells #[.int .i64 a0_0, .slice A0_1 l0_1.length c0_1] 29 (0, 0)) (by (with_reducible repeat (first | refine blk_drewN ?_ _ | refine blk_drew ?_ | refine blk_alloc ?_ _)); exact BK101.out) hb); have n2_ := Aside0.mk (below_step (by repeat (first | (with_reducible first | exact HB.out | apply below_alloc | apply pw_below_drewN | apply below_drew1 | refine below_set ?_ GE101.out) | exact HB.out)) hb); clear BK101; clear HB; have HO104 := n0_; have BK101 := n1_; have HB := n2_; clear n0_ n1_ n2_; (try clear hb); (try clear hb2); (try clear hk); (try clear hi); (try clear ho0)) | ((with_reducible refine gate_dst (N := 9) rfl ?_); refine Kd.R_lit (Kd.int .i64) _ 3 ?hg (N := 9) ?hd (xs := ([] : List Int)) (inner := []) (ok := fun _ => True) (okp := fun _ => True) ?hr ?hp (fun _ hk => hk) trivial (Below.refl _ _) (Nat.le_refl _) (by simp) ?_; (case hd => rfl); (case hg => rfl); (case hr => first | (go_simp; done) | (go_simp; rfl)); (case hp => exact (Reps.none _ _)); intro v106 w6 ho7 hb hg_ hnew_; clear hg_ hnew_; (first | rw [← Ny105.out] at ho7 | (simp only [Int.reduceToNat] at ho7; rw [← Ny105.out] at ho7)); have n0_ := Aside0.mk (Kd.R_below (by (with_reducible repeat (first | apply Kd.R_alloc | apply Kd.R_drewN | apply Kd.R_drew)); exact HO104.out) hb); have n1_ := Aside0.mk (Kd.R_lower ho7 (below_size (by repeat (first | (with_reducible first | exact HB.out | apply below_alloc | apply pw_below_drewN | apply below_drew1 | refine below_set ?_ GE101.out) | exact HB.out)))); have n2_ := Aside0.mk (blk_below (g := gb101) (o := .cells #[.int .i64 a0_0, .slice A0_1 l0_1.length c0_1] 29 (0, 0)) (by (with_reducible repeat (first | refine blk_drewN ?_ _ | refine blk_drew ?_ | refine blk_alloc ?_ _)); exact BK101.out) hb); have n3_ := Aside0.mk (below_step (by repeat (first | (with_reducible first | exact HB.out | apply below_alloc | apply pw_below_drewN | apply below_drew1 | refine below_set ?_ GE101.out) | exact HB.out)) hb); clear HO104; clear BK101; clear HB; have HO104 := n0_; have HO107 := n1_; have BK101 := n2_; have HB := n3_; clear n0_ n1_ n2_ n3_; clear hb ho7; have hcz8_0 : w6.cell? ⟨gb101, 0, none⟩ = some (.int .i64 a0_0) := (blk_cell BK101.out 0).trans rfl; have hcz8_1 : w6.cell? ⟨gb101, 1, none⟩ = some (.slice A0_1 l0_1.length c0_1) := (blk_cell BK101.out 1).trans rfl; have hfz8_0 := blk_frozen BK101.out 0; have hfz8_1 := blk_frozen BK101.out 1))
  go_loopg [4, 13] k (fun kq v4 v13 w' => ∃ (x4_1 : List Int) (x13_1 : Int), v13 = .int .i64 x13_1 ∧ Aside0 (impl_Space_paths.l0 kq t102 x4_1 l0_1 (l0_1.length : Int) x13_1 = some r) ∧ Aside0 (kq ≤ k) ∧ Aside0 (Kd.R Kd.bool 55 w' w.heap.size (fun _ => True) v103 t102) ∧ Aside0 (Kd.R (Kd.int .i64) 3 w' w.heap.size (fun _ => True) v4 x4_1) ∧ Aside0 (w'.heap[gb101]? = some (.cells #[.int .i64 a0_0, (.slice A0_1 l0_1.length c0_1)] 29 (0, 0))) ∧ Aside0 (Below w.heap.size w w'))
  case atStart => exact ⟨(y105), (0), (by first | rfl | (simp; done) | (simp [*]; done)), H', ⟨Nat.le_refl _⟩, ⟨by (with_reducible repeat (first | apply Kd.R_alloc | apply Kd.R_drewN | apply Kd.R_drew)); exact HO104.out⟩, ⟨by (with_reducible repeat (first | apply Kd.R_alloc | apply Kd.R_drewN | apply Kd.R_drew)); exact HO107.out⟩, ⟨by (with_reducible repeat (first | refine blk_drewN ?_ _ | refine blk_drew ?_ | refine blk_alloc ?_ _)); exact BK101.out⟩, ⟨by repeat (first | (with_reducible first | exact HB.out | apply below_alloc | apply pw_below_drewN | apply below_drew1 | refine below_set ?_ GE101.out) | exact HB.out)⟩⟩
  case round =>
    clear H'
    try clear p2
    try clear c3
    try clear hcz4_0
    try clear hcz4_1
    try clear hcz8_0
    try clear hcz8_1
    try clear hfz4_0
    try clear hfz4_1
    try clear hfz8_0
    try clear hfz8_1
    obtain ⟨x4_1, x13_1, rfl, HA, HK1, HO_3, HO_4, BK101, HB⟩ := hrel
    cases gk with
    | zero => exact absurd HA.out (by simp [impl_Space_paths.l0])
    | succ k1 =>
      have H := HA.out
      clear HA
      simp only [impl_Space_paths.l0] at H
      by_cases c9 : x13_1 < (l0_1.length : Int)
      · rw [if_pos c9] at H
        have c9b0 : decide (x13_1 < (l0_1.length : Int)) = true := decide_eq_true c9
        clear c9
        by_cases c10 : 0 ≤ x13_1
        · rw [if_pos c10] at H
          have c10b0 : decide (0 ≤ x13_1) = true := decide_eq_true c10
          clear c10
          by_cases c11 : x13_1 < (l0_1.length : Int)
          · rw [if_pos c11] at H
            have c11b0 : decide (x13_1 < (l0_1.length : Int)) = true := decide_eq_true c11
            clear c11
            replace H := Option.bind_eq_some_iff.mp H
            obtain ⟨t109, A120, H⟩ := H
            replace H : ((impl_count.f t109).bind fun t110 => (if t110 = 1 then (if x4_1.length < 17592186044416 then (impl_Space_paths.l0 k1 t102 (x4_1 ++ [rd l0_1 x13_1]) l0_1 (l0_1.length : Int) (wrap64 (x13_1 + 1))) else (none)) else (impl_Space_paths.l0 k1 t102 x4_1 l0_1 (l0_1.length : Int) (wrap64 (x13_1 + 1))))) = some r := H
            have A12 := Aside0.mk A120
            clear A120
            replace H := Option.bind_eq_some_iff.mp H
            obtain ⟨t110, A130, H⟩ := H
            replace H : (if t110 = 1 then (if x4_1.length < 17592186044416 then (impl_Space_paths.l0 k1 t102 (x4_1 ++ [rd l0_1 x13_1]) l0_1 (l0_1.length : Int) (wrap64 (x13_1 + 1))) else (none)) else (impl_Space_paths.l0 k1 t102 x4_1 l0_1 (l0_1.length : Int) (wrap64 (x13_1 + 1)))) = some r := H
            have A13 := Aside0.mk A130
            clear A130
            by_cases c14 : t110 = 1
            · rw [if_pos c14] at H
              have c14b0 : (t110 == 1) = true := beq_iff_eq.mpr c14
              have c14b1 : (t110 != 1) = false := bne_eq_false_iff_eq.mpr c14
              clear c14
              by_cases c15 : x4_1.length < 17592186044416
              · rw [if_pos c15] at H
                have LMc15 := Aside0.mk c15
                clear c15
                obtain ⟨y111, hy111⟩ : ∃ y_ : List Int, y_ = (x4_1 ++ [rd l0_1 x13_1]) := ⟨_, rfl⟩
                replace H : (impl_Space_paths.l0 k1 t102 y111 l0_1 (l0_1.length : Int) (wrap64 (x13_1 + 1))) = some r := by first | (rw [hy111]; with_reducible exact H) | (have H2_ := (Option.bind_some _ _).symm.trans H; rw [hy111]; with_reducible exact H2_) | (have H2_ := (Option.bind_some _ _).symm.trans H; with_reducible exact H2_) | with_reducible exact H | (rw [hy111]; exact H) | exact H
                have Ny111 := Aside0.mk hy111
                clear hy111
                have H' := Aside0.mk H
                clear H
                have p108 : 0 ≤ (x13_1 : Int) := of_decide_eq_true (by first | (with_reducible assumption) | assumption)
                have q108 : x13_1 < (l0_1.length : Int) := of_decide_eq_true (by first | (with_reducible assumption) | assumption)
                obtain ⟨ad108, e108, hx108_0⟩ := Kd.at_int HR0_1.out x13_1 p108 q108
                cases e108
                replace hx108_0 := (HB.out.cell (World.block_lt_of_cell? w _ hx108_0)).trans hx108_0
                replace p108 := eq_true p108
                replace q108 := eq_true q108
                obtain ⟨Ao16, co16, eo16⟩ := Kd.R_slice HO_3.out
                subst eo16
                (try simp only [ptrOf_slice])
                go_wp2_with (first | ((with_reducible refine gate_callee (f := 33) rfl ?_); refine goesL_ (some 19) rfl rfl Tryd.func33 (by kernel_rfl) rfl #[.pointer Ao16, .int .i64 (rd l0_1 x13_1)] rfl (by (try simp only [List.map_toArray, List.map_cons, List.map_nil]); first | done | rfl | (simp only [List.length_drop, List.length_take]; rfl)) ?_; (with_reducible refine (impl_family_inner.calls _ co16 t102 (rd l0_1 x13_1) t109 _ ?side1 ?side2 A12.out).mono ?_); (case side1 => repeat (first | exact (Kd.R_reads' HO_3.out).2.2 | (with_reducible refine Kd.C_alloc ?_ _) | (with_reducible refine Kd.C_drewN ?_ _) | (with_reducible refine Kd.C_drew ?_))); (case side2 => exact (Kd.R_reads' HO_3.out).2.1); rintro e w17 ⟨rfl, hb⟩; refine ⟨_, rfl, ?_⟩; have n0_ := Aside0.mk (Kd.R_below (by (with_reducible repeat (first | apply Kd.R_alloc | apply Kd.R_drewN | apply Kd.R_drew)); exact HO_3.out) hb); have n1_ := Aside0.mk (Kd.R_below (by (with_reducible repeat (first | apply Kd.R_alloc | apply Kd.R_drewN | apply Kd.R_drew)); exact HO_4.out) hb); have n2_ := Aside0.mk (blk_below (g := gb101) (o := .cells #[.int .i64 a0_0, .slice (some ad108) l0_1.length c0_1] 29 (0, 0)) (by (with_reducible repeat (first | refine blk_drewN ?_ _ | refine blk_drew ?_ | refine blk_alloc ?_ _)); exact BK101.out) hb); have n3_ := Aside0.mk (below_step (by repeat (first | (with_reducible first | exact HB.out | apply below_alloc | apply pw_below_drewN | apply below_drew1 | refine below_set ?_ GE101.out) | exact HB.out)) hb); clear HO_3; clear HO_4; clear BK101; clear HB; have HO_3 := n0_; have HO_4 := n1_; have BK101 := n2_; have HB := n3_; clear n0_ n1_ n2_ n3_; (try clear hb); (try clear hb2); (try clear hk); (try clear hi)) | ((with_reducible refine gate_callee (f := 43) rfl ?_); refine goesL_ (some 20) rfl rfl Tryd.func43 (by kernel_rfl) rfl #[.int .i64 t109] rfl (by (try simp only [List.map_toArray, List.map_cons, List.map_nil]); first | done | rfl | (simp only [List.length_drop, List.length_take]; rfl)) ?_; (with_reducible refine (impl_count.calls t109 t110 _ A13.out).mono ?_); rintro e w' ⟨rfl, ⟨nd, rfl⟩⟩; refine ⟨_, rfl, ?_⟩) | ((with_reducible refine gate_builtin (b := .append) (xs := #[.tmp 22, .tmp 24]) rfl ?_); at_builtin; refine Kd.R_append (Kd.int .i64) (w0 := w) w.heap.size rfl (.tmp 22) (.tmp 24) 22 3 (.int .i64 0) 8 rfl Tryd.underlying22 info3 rfl (by decide) (by omega) u4 x4_1 (rd l0_1 x13_1) [.int .i64 (rd l0_1 x13_1)] (fun _ => True) (fun _ => False) rfl rfl ?aP (fun _ hk => hk.elim) ?aF ?aO ?aB ?aS ?aL ?_; (case aP => exact rfl); (case aB => exact (by repeat (first | (with_reducible first | exact HB.out | apply below_alloc | apply pw_below_drewN | apply below_drew1 | refine below_set ?_ GE101.out) | exact HB.out))); (case aF => exact (fun _ _ => trivial)); (case aO => exact (by (with_reducible repeat (first | apply Kd.R_alloc | apply Kd.R_drewN | apply Kd.R_drew)); exact HO_4.out)); (case aS => exact (below_size (by repeat (first | (with_reducible first | exact HB.out | apply below_alloc | apply pw_below_drewN | apply below_drew1 | refine below_set ?_ GE101.out) | exact HB.out)))); (case aL => have := LMc15.out; omega); intro v112 w18 ho hb hg hat; rw [← Ny111.out] at ho; have n0_ := Aside0.mk (Kd.R_over' (by (with_reducible repeat (first | apply Kd.R_alloc | apply Kd.R_drewN | apply Kd.R_drew)); exact HO_3.out) (Kd.R_typed (by (with_reducible repeat (first | apply Kd.R_alloc | apply Kd.R_drewN | apply Kd.R_drew)); exact HO_4.out)) (by decide) hg); have n1_ := Aside0.mk (blk_grown (g := gb101) (o := .cells #[.int .i64 a0_0, .slice (some ad108) l0_1.length c0_1] 29 (0, 0)) (by (with_reducible repeat (first | refine blk_drewN ?_ _ | refine blk_drew ?_ | refine blk_alloc ?_ _)); exact BK101.out) hg (Kd.R_ne HO_4.out BK101.out (by decide))); have n2_ := Aside0.mk (hb); have n3_ := Aside0.mk (ho); clear HO_3; clear BK101; clear HB; clear HO_4; have HO_3 := n0_; have BK101 := n1_; have HB := n2_; have HO113 := n3_; clear n0_ n1_ n2_ n3_; clear ho hb hg hat))
                go_roundg k1
                case measure => have := HK1.out; omega
                case rel => exact ⟨(y111), (wrap64 (x13_1 + 1)), (by first | rfl | (simp; done) | (simp [*]; done)), H', ⟨by have := HK1.out; omega⟩, ⟨by (with_reducible repeat (first | apply Kd.R_alloc | apply Kd.R_drewN | apply Kd.R_drew)); exact HO_3.out⟩, ⟨by (with_reducible repeat (first | apply Kd.R_alloc | apply Kd.R_drewN | apply Kd.R_drew)); exact HO113.out⟩, ⟨by (with_reducible repeat (first | refine blk_drewN ?_ _ | refine blk_drew ?_ | refine blk_alloc ?_ _)); exact BK101.out⟩, ⟨by repeat (first | (with_reducible first | exact HB.out | apply below_alloc | apply pw_below_drewN | apply below_drew1 | refine below_set ?_ GE101.out) | exact HB.out)⟩⟩
              · rw [if_neg c15] at H
                exact absurd H (by simp)
            · rw [if_neg c14] at H
              have c14b0 : (t110 == 1) = false := beq_eq_false_iff_ne.mpr c14
              have c14b1 : (t110 != 1) = true := bne_iff_ne.mpr c14
              have H' := Aside0.mk H
              clear H
              have p108 : 0 ≤ (x13_1 : Int) := of_decide_eq_true (by first | (with_reducible assumption) | assumption)
              have q108 : x13_1 < (l0_1.length : Int) := of_decide_eq_true (by first | (with_reducible assumption) | assumption)
              obtain ⟨ad108, e108, hx108_0⟩ := Kd.at_int HR0_1.out x13_1 p108 q108
              cases e108
              replace hx108_0 := (HB.out.cell (World.block_lt_of_cell? w _ hx108_0)).trans hx108_0
              replace p108 := eq_true p108
              replace q108 := eq_true q108
              obtain ⟨Ao19, co19, eo19⟩ := Kd.R_slice HO_3.out
              subst eo19
              (try simp only [ptrOf_slice])
              go_wp2_with (first | ((with_reducible refine gate_callee (f := 33) rfl ?_); refine goesL_ (some 19) rfl rfl Tryd.func33 (by kernel_rfl) rfl #[.pointer Ao19, .int .i64 (rd l0_1 x13_1)] rfl (by (try simp only [List.map_toArray, List.map_cons, List.map_nil]); first | done | rfl | (simp only [List.length_drop, List.length_take]; rfl)) ?_; (with_reducible refine (impl_family_inner.calls _ co19 t102 (rd l0_1 x13_1) t109 _ ?side1 ?side2 A12.out).mono ?_); (case side1 => repeat (first | exact (Kd.R_reads' HO_3.out).2.2 | (with_reducible refine Kd.C_alloc ?_ _) | (with_reducible refine Kd.C_drewN ?_ _) | (with_reducible refine Kd.C_drew ?_))); (case side2 => exact (Kd.R_reads' HO_3.out).2.1); rintro e w20 ⟨rfl, hb⟩; refine ⟨_, rfl, ?_⟩; have n0_ := Aside0.mk (Kd.R_below (by (with_reducible repeat (first | apply Kd.R_alloc | apply Kd.R_drewN | apply Kd.R_drew)); exact HO_3.out) hb); have n1_ := Aside0.mk (Kd.R_below (by (with_reducible repeat (first | apply Kd.R_alloc | apply Kd.R_drewN | apply Kd.R_drew)); exact HO_4.out) hb); have n2_ := Aside0.mk (blk_below (g := gb101) (o := .cells #[.int .i64 a0_0, .slice (some ad108) l0_1.length c0_1] 29 (0, 0)) (by (with_reducible repeat (first | refine blk_drewN ?_ _ | refine blk_drew ?_ | refine blk_alloc ?_ _)); exact BK101.out) hb); have n3_ := Aside0.mk (below_step (by repeat (first | (with_reducible first | exact HB.out | apply below_alloc | apply pw_below_drewN | apply below_drew1 | refine below_set ?_ GE101.out) | exact HB.out)) hb); clear HO_3; clear HO_4; clear BK101; clear HB; have HO_3 := n0_; have HO_4 := n1_; have BK101 := n2_; have HB := n3_; clear n0_ n1_ n2_ n3_; (try clear hb); (try clear hb2); (try clear hk); (try clear hi)) | ((with_reducible refine gate_callee (f := 43) rfl ?_); refine goesL_ (some 20) rfl rfl Tryd.func43 (by kernel_rfl) rfl #[.int .i64 t109] rfl (by (try simp only [List.map_toArray, List.map_cons, List.map_nil]); first | done | rfl | (simp only [List.length_drop, List.length_take]; rfl)) ?_; (with_reducible refine (impl_count.calls t109 t110 _ A13.out).mono ?_); rintro e w' ⟨rfl, ⟨nd, rfl⟩⟩; refine ⟨_, rfl, ?_⟩))
              go_roundg k1
              case measure => have := HK1.out; omega
              case rel => exact ⟨(x4_1), (wrap64 (x13_1 + 1)), (by first | rfl | (simp; done) | (simp [*]; done)), H', ⟨by have := HK1.out; omega⟩, ⟨by (with_reducible repeat (first | apply Kd.R_alloc | apply Kd.R_drewN | apply Kd.R_drew)); exact HO_3.out⟩, ⟨by (with_reducible repeat (first | apply Kd.R_alloc | apply Kd.R_drewN | apply Kd.R_drew)); exact HO_4.out⟩, ⟨by (with_reducible repeat (first | refine blk_drewN ?_ _ | refine blk_drew ?_ | refine blk_alloc ?_ _)); exact BK101.out⟩, ⟨by repeat (first | (with_reducible first | exact HB.out | apply below_alloc | apply pw_below_drewN | apply below_drew1 | refine below_set ?_ GE101.out) | exact HB.out)⟩⟩
          · rw [if_neg c11] at H
            exact absurd H (by simp)
        · rw [if_neg c10] at H
          exact absurd H (by simp)
      · rw [if_neg c9] at H
        have c9b0 : decide (x13_1 < (l0_1.length : Int)) = false := decide_eq_false c9
        clear c9
        obtain rfl := Option.some.inj H
        go_wp2
        go_ret
        exact ⟨_, by first | rfl | (simp [errW_none, errW_some] <;> rfl) | (simp [*, errW_none, errW_some] <;> rfl), by (with_reducible repeat (first | apply Kd.R_alloc | apply Kd.R_drewN | apply Kd.R_drew)); exact HO_4.out, by repeat (first | (with_reducible first | exact HB.out | apply below_alloc | apply pw_below_drewN | apply below_drew1 | refine below_set ?_ GE101.out) | exact HB.out)⟩

-- NOT PRINTED: function 46 (bits_TrailingZeros32)

-- HAND bits_TrailingZeros64: function 47
/-- What the variable math/bits.deBruijn64tab holds. -/
def tab64 : List Int := [0, 1, 56, 2, 57, 49, 28, 3, 61, 58, 42, 50, 38, 29, 17, 4, 62, 47, 59, 36, 45, 43, 51, 22, 53, 39, 33, 30, 24, 18, 12, 5, 63, 55, 48, 27, 60, 41, 37, 16, 46, 35, 44, 21, 52, 32, 23, 11, 54, 26, 40, 15, 34, 20, 31, 10, 25, 14, 19, 9, 13, 8, 7, 6]
def TabAt (w : World) : Prop := ∀ i : Nat, i < 64 → w.cell? ⟨1, i, none⟩ = some (.int .u8 (tab64.getD i 0))
theorem TabAt.below {w w' : World} (h : TabAt w) (hb : Below w.heap.size w w') : TabAt w' := fun i hi => pw_cell_below hb (h i hi)
theorem tz_fact : ∀ x : Fin 128, x.val ≠ 0 → ∃ i : Fin 64, IntKind.u64.wrap (Go.bits .and .u64 (x.val : Int) (IntKind.u64.wrap (-(x.val : Int))) * 285870213051353865) / 288230376151711744 = (i.val : Int) ∧ tab64.getD i.val 0 = (tzN x.val : Int) := by decide +kernel
set_option maxHeartbeats 8000000 in
set_option maxRecDepth 100000 in
theorem bits_TrailingZeros64.calls (x : Int) (w : World) (hT : TabAt w) (h0 : 0 < x) (h1 : x < 128) :
    Calls Tryd.prog 47 #[.int .u64 x] w fun e w' => e = .returned (.int .i64 (tzN x.toNat)) ∧ Drawn0 w w' := by
  have hx : ¬ x = 0 := by omega
  obtain ⟨n, rfl⟩ := Int.eq_ofNat_of_zero_le (show 0 ≤ x by omega)
  obtain ⟨i, hi, ht⟩ := tz_fact ⟨n, by omega⟩ (by show n ≠ 0; omega)
  have hl := tz_lt ⟨n, by omega⟩
  have hcell := hT i.val i.isLt
  have hi' : IntKind.u64.wrap (Go.bits .and .u64 (n : Int) (IntKind.u64.wrap (-(n : Int))) * 285870213051353865) / 288230376151711744 = (i.val : Int) := hi
  have ht' : tab64.getD i.val 0 = (tzN n : Int) := ht
  have hl' : tzN n < 7 := hl
  have hlt := i.isLt
  rw [ht'] at hcell
  rw [Int.toNat_natCast]
  clear hT ht hi hl ht'
  generalize i.val = j at *
  generalize tzN n = z at *
  have hj : (j : Int) < 64 := by omega
  go_enter Tryd.func47, Tryd.ntmps47
  go_wp2
  go_ret
  exact ⟨rfl, by repeat (first | exact Drawn0.refl _ | apply Drawn0.step)⟩

-- HAND bits_TrailingZeros: function 44
def bits_TrailingZeros.f (a0 : Int) : Option Int := if 0 < a0 ∧ a0 < 128 then some (tzN a0.toNat : Int) else none
set_option maxHeartbeats 8000000 in
set_option maxRecDepth 100000 in
theorem bits_TrailingZeros.calls (x : Int) (r : Int) (w : World) (hT : TabAt w) (h : bits_TrailingZeros.f x = some r) :
    Calls Tryd.prog 44 #[.int .u64 x] w fun e w' => e = .returned (.int .i64 r) ∧ Drawn0 w w' := by
  unfold bits_TrailingZeros.f at h
  by_cases hc : 0 < x ∧ x < 128
  · rw [if_pos hc] at h
    obtain rfl := Option.some.inj h
    have H := Aside0.mk (bits_TrailingZeros64.calls x w hT hc.1 hc.2)
    clear hT
    go_enter Tryd.func44, Tryd.ntmps44
    go_wp2_with (go_at_call 47; refine H.out.mono ?_; rintro e w' ⟨rfl, ⟨nd, rfl⟩⟩)
    go_ret
    exact ⟨rfl, by repeat (first | exact Drawn0.refl _ | apply Drawn0.step)⟩
  · rw [if_neg hc] at h
    cases h

/-! ### impl_Space_end: function 37 -/
def impl_Space_end.f (a0_0 : Int) (l0_1 : List Int) (a1 : Int) : Option (Int) := (impl_Space_family.f a0_0 l0_1).bind fun t102 => ((impl_family_inner.f t102 a1).bind fun t105 => ((bits_TrailingZeros.f (IntKind.u64.wrap (t105))).bind fun t106 => (some t106)))
set_option maxHeartbeats 8000000 in
set_option maxRecDepth 100000 in
theorem impl_Space_end.calls (a0_0 : Int) (A0_1 : Option Addr) (c0_1 : Nat) (l0_1 : List Int) (a1 : Int) (r : Int) (w : World) (hTab : TabAt w) (hr0_1 : Kd.C (Kd.int .i64) w A0_1 l0_1.length l0_1) (hc0_1 : l0_1.length ≤ c0_1) (h : impl_Space_end.f a0_0 l0_1 a1 = some r) :
    Calls Tryd.prog 37 #[.agg #[.int .i64 a0_0, .slice A0_1 l0_1.length c0_1], .int .i64 a1] w fun e w' => e = .returned (.int .i64 r) ∧ Below w.heap.size w w' := by
  have hu29 := Tryd.underlying29
  have HR0_1 := Aside0.mk hr0_1
  have HC0_1 := Aside0.mk hc0_1
  clear hr0_1 hc0_1
  have HTAB := Aside0.mk hTab
  clear hTab
  have HB := Aside0.mk (Below.refl w.heap.size w)
  have H : ((impl_Space_family.f a0_0 l0_1).bind fun t102 => ((impl_family_inner.f t102 a1).bind fun t105 => ((bits_TrailingZeros.f (IntKind.u64.wrap (t105))).bind fun t106 => (some t106)))) = some r := h
  clear h
  replace H := Option.bind_eq_some_iff.mp H
  obtain ⟨t102, A30, H⟩ := H
  replace H : ((impl_family_inner.f t102 a1).bind fun t105 => ((bits_TrailingZeros.f (IntKind.u64.wrap (t105))).bind fun t106 => (some t106))) = some r := H
  have A3 := Aside0.mk A30
  clear A30
  have HLt102 := Aside0.mk (impl_Space_family.len A3.out)
  replace H := Option.bind_eq_some_iff.mp H
  obtain ⟨t105, A40, H⟩ := H
  replace H : ((bits_TrailingZeros.f (IntKind.u64.wrap (t105))).bind fun t106 => (some t106)) = some r := H
  have A4 := Aside0.mk A40
  clear A40
  replace H := Option.bind_eq_some_iff.mp H
  obtain ⟨t106, A50, H⟩ := H
  replace H : (some t106) = some r := H
  have A5 := Aside0.mk A50
  clear A50
  obtain rfl := Option.some.inj H
  go_enter Tryd.func37, Tryd.ntmps37
  go_wp2_with (first | ((with_reducible refine gate_dst (N := 2) rfl ?_); refine box_event ?hg (N := 2) ?hd (cs := #[.int .i64 a0_0, .slice A0_1 l0_1.length c0_1]) (t := 29) ?hr ?_; (case hd => rfl); (case hg => rfl); (case hr => first | (go_simp; done) | (go_simp; rfl)); intro gb101 hg w6 hbox hb; have n0_ := Aside0.mk (below_step (by repeat (first | (with_reducible first | exact HB.out | apply below_alloc | apply pw_below_drewN | apply below_drew1) | exact HB.out)) hb); have n1_ := Aside0.mk (hbox); have n2_ := Aside0.mk ((by rw [hg]; exact (below_size (by repeat (first | (with_reducible first | exact HB.out | apply below_alloc | apply pw_below_drewN | apply below_drew1) | exact HB.out))) : w.heap.size ≤ gb101)); have n3_ := Aside0.mk ((by rw [hg]; exact (below_size (by repeat (first | (with_reducible first | exact HB.out | apply below_alloc | apply pw_below_drewN | apply below_drew1) | exact HB.out))) : w.heap.size ≤ gb101)); clear HB; have HB := n0_; have BK101 := n1_; have GW101 := n2_; have GE101 := n3_; clear n0_ n1_ n2_ n3_; clear hb hbox hg; have hcz7_0 : w6.cell? ⟨gb101, 0, none⟩ = some (.int .i64 a0_0) := (blk_cell BK101.out 0).trans rfl; have hcz7_1 : w6.cell? ⟨gb101, 1, none⟩ = some (.slice A0_1 l0_1.length c0_1) := (blk_cell BK101.out 1).trans rfl; have hfz7_0 := blk_frozen BK101.out 0; have hfz7_1 := blk_frozen BK101.out 1) | ((with_reducible refine gate_callee (f := 31) rfl ?_); refine goesL_ (some 6) rfl rfl Tryd.func31 (by kernel_rfl) rfl #[.agg #[.int .i64 a0_0, .slice A0_1 l0_1.length c0_1]] rfl (by (try simp only [List.map_toArray, List.map_cons, List.map_nil]); first | done | rfl | (simp only [List.length_drop, List.length_take]; rfl)) ?_; (with_reducible refine (impl_Space_family.calls a0_0 _ _ l0_1 t102 _ ?side1 ?side2 A3.out).mono ?_); (case side1 => repeat (first | exact (Kd.C_below HR0_1.out HB.out) | (with_reducible refine Kd.C_alloc ?_ _) | (with_reducible refine Kd.C_drewN ?_ _) | (with_reducible refine Kd.C_drew ?_))); (case side2 => exact HC0_1.out); rintro e w8 ⟨v103, rfl, ho0, hb⟩; refine ⟨_, rfl, ?_⟩; have n0_ := Aside0.mk (Kd.R_lower ho0 (below_size (by repeat (first | (with_reducible first | exact HB.out | apply below_alloc | apply pw_below_drewN | apply below_drew1 | refine below_set ?_ GE101.out) | exact HB.out)))); have n1_ := Aside0.mk (blk_below (g := gb101) (o := .cells #[.int .i64 a0_0, .slice A0_1 l0_1.length c0_1] 29 (0, 0)) (by (with_reducible repeat (first | refine blk_drewN ?_ _ | refine blk_drew ?_ | refine blk_alloc ?_ _)); exact BK101.out) hb); have n2_ := Aside0.mk (below_step (by repeat (first | (with_reducible first | exact HB.out | apply below_alloc | apply pw_below_drewN | apply below_drew1 | refine below_set ?_ GE101.out) | exact HB.out)) hb); clear BK101; clear HB; have HO104 := n0_; have BK101 := n1_; have HB := n2_; clear n0_ n1_ n2_; (try clear hb); (try clear hb2); (try clear hk); (try clear hi); (try clear ho0); obtain ⟨Ao9, co9, eo9⟩ := Kd.R_slice HO104.out; subst eo9; (try simp only [ptrOf_slice])) | ((with_reducible refine gate_callee (f := 33) rfl ?_); refine goesL_ (some 8) rfl rfl Tryd.func33 (by kernel_rfl) rfl #[.pointer Ao9, .int .i64 a1] rfl (by (try simp only [List.map_toArray, List.map_cons, List.map_nil]); first | done | rfl | (simp only [List.length_drop, List.length_take]; rfl)) ?_; (with_reducible refine (impl_family_inner.calls _ co9 t102 a1 t105 _ ?side1 ?side2 A4.out).mono ?_); (case side1 => repeat (first | exact (Kd.R_reads' HO104.out).2.2 | (with_reducible refine Kd.C_alloc ?_ _) | (with_reducible refine Kd.C_drewN ?_ _) | (with_reducible refine Kd.C_drew ?_))); (case side2 => exact (Kd.R_reads' HO104.out).2.1); rintro e w10 ⟨rfl, hb⟩; refine ⟨_, rfl, ?_⟩; have n0_ := Aside0.mk (Kd.R_below (by (with_reducible repeat (first | apply Kd.R_alloc | apply Kd.R_drewN | apply Kd.R_drew)); exact HO104.out) hb); have n1_ := Aside0.mk (blk_below (g := gb101) (o := .cells #[.int .i64 a0_0, .slice A0_1 l0_1.length c0_1] 29 (0, 0)) (by (with_reducible repeat (first | refine blk_drewN ?_ _ | refine blk_drew ?_ | refine blk_alloc ?_ _)); exact BK101.out) hb); have n2_ := Aside0.mk (below_step (by repeat (first | (with_reducible first | exact HB.out | apply below_alloc | apply pw_below_drewN | apply below_drew1 | refine below_set ?_ GE101.out) | exact HB.out)) hb); clear HO104; clear BK101; clear HB; have HO104 := n0_; have BK101 := n1_; have HB := n2_; clear n0_ n1_ n2_; (try clear hb); (try clear hb2); (try clear hk); (try clear hi)) | ((with_reducible refine gate_callee (f := 44) rfl ?_); refine goesL_ (some 10) rfl rfl Tryd.func44 (by kernel_rfl) rfl #[.int .u64 (IntKind.u64.wrap (t105))] rfl (by (try simp only [List.map_toArray, List.map_cons, List.map_nil]); first | done | rfl | (simp only [List.length_drop, List.length_take]; rfl)) ?_; (with_reducible refine (bits_TrailingZeros.calls (IntKind.u64.wrap (t105)) t106 _ ?side1 A5.out).mono ?_); (case side1 => exact HTAB.out.below (by repeat (first | (with_reducible first | exact HB.out | apply below_alloc | apply pw_below_drewN | apply below_drew1 | refine below_set ?_ GE101.out) | exact HB.out))); rintro e w' ⟨rfl, ⟨nd, rfl⟩⟩; refine ⟨_, rfl, ?_⟩))
  go_ret
  exact ⟨by first | rfl | (simp [errW_none, errW_some] <;> rfl) | (simp [*, errW_none, errW_some] <;> rfl), by repeat (first | (with_reducible first | exact HB.out | apply below_alloc | apply pw_below_drewN | apply below_drew1 | refine below_set ?_ GE101.out) | exact HB.out)⟩

-- HAND impl_Space_pathsTo_1: function 36
/-- Of some paths those with an end. -/
def impl_pathsTo_del.f (n : Int) (l : List Int) (item : Int) : List Int → Option (List Int)
  | [] => some []
  | i :: r => (impl_Space_end.f n l i).bind fun c => (impl_pathsTo_del.f n l item r).bind fun r' => some (if c = item then i :: r' else r')
/-- Has a path another end? -/
def otherEnd (n : Int) (l : List Int) (item : Int) (i : Int) : Bool := match impl_Space_end.f n l i with
  | some c => !decide (c = item)
  | none => false
theorem impl_pathsTo_del.split (n : Int) (l : List Int) (item : Int) : ∀ (L r : List Int), impl_pathsTo_del.f n l item L = some r → (∀ i ∈ L, ∃ c, impl_Space_end.f n l i = some c) ∧ r = L.filter fun x => !otherEnd n l item x
  | [], r, h => ⟨fun i hi => (by cases hi), (by cases h; rfl)⟩
  | i :: L, r, h => by
    unfold impl_pathsTo_del.f at h
    cases hc : impl_Space_end.f n l i with
    | none => rw [hc] at h; cases h
    | some c =>
      rw [hc] at h
      cases hr : impl_pathsTo_del.f n l item L with
      | none => rw [hr] at h; cases h
      | some r' =>
        rw [hr] at h
        obtain ⟨h1, h2⟩ := impl_pathsTo_del.split n l item L r' hr
        have hm : otherEnd n l item i = !decide (c = item) := by unfold otherEnd; rw [hc]
        refine ⟨fun j hj => ?_, ?_⟩
        · rcases List.mem_cons.1 hj with rfl | hj
          · exact ⟨c, hc⟩
          · exact h1 j hj
        · rw [List.filter_cons, hm, ← h2]
          have h3 : some (if c = item then i :: r' else r') = some r := h
          rw [← Option.some.inj h3]
          by_cases hlt : c = item
          · rw [if_pos hlt, decide_eq_true hlt]; rfl
          · rw [if_neg hlt, decide_eq_false hlt]; rfl
set_option maxHeartbeats 8000000 in
set_option maxRecDepth 100000 in
theorem impl_Space_pathsTo_1.calls (g0 g1 : Nat) (n : Int) (A : Option Addr) (c : Nat) (l : List Int) (item x v : Int) (w : World) (hT : TabAt w) (hb0 : w.heap[g0]? = some (.cells #[.int .i64 n, .slice A l.length c] 29 (0, 0))) (hb1 : w.heap[g1]? = some (.cells #[.int .i64 item] 3 (0, 0))) (hr : Kd.C (Kd.int .i64) w A l.length l) (hc : l.length ≤ c) (h : impl_Space_end.f n l x = some v) :
    Calls Tryd.prog 36 #[.int .i64 x, .pointer (some ⟨g0, 0, none⟩), .pointer (some ⟨g1, 0, none⟩)] w fun e w' => e = .returned (.bool (!decide (v = item))) ∧ Below w.heap.size w w' := by
  have hu := Tryd.underlying29
  have q0 : w.cell? ⟨g0, 0, none⟩ = some (.int .i64 n) := (blk_cell hb0 0).trans rfl
  have q1 : w.cell? ⟨g0, 1, none⟩ = some (.slice A l.length c) := (blk_cell hb0 1).trans rfl
  have q2 : w.cell? ⟨g1, 0, none⟩ = some (.int .i64 item) := (blk_cell hb1 0).trans rfl
  have HC := Aside0.mk hc
  have HR := Aside0.mk hr
  have HH := Aside0.mk h
  have HT := Aside0.mk hT
  clear hr hc h hb0 hb1 hT
  have HK : Aside0 (∀ w', Below w.heap.size w w' → Aside0 (Below w.heap.size w w') ∧ w'.cell? ⟨g0, 0, none⟩ = some (.int .i64 n) ∧ w'.cell? ⟨g0, 1, none⟩ = some (.slice A l.length c) ∧ w'.cell? ⟨g1, 0, none⟩ = some (.int .i64 item)) := ⟨fun w' hb => ⟨⟨hb⟩, pw_cell_below hb q0, pw_cell_below hb q1, pw_cell_below hb q2⟩⟩
  go_enter Tryd.func36, Tryd.ntmps36
  go_wp2
  go_region_held3 (fun w' => Aside0 (Below w.heap.size w w') ∧ w'.cell? ⟨g0, 0, none⟩ = some (.int .i64 n) ∧ w'.cell? ⟨g0, 1, none⟩ = some (.slice A l.length c) ∧ w'.cell? ⟨g1, 0, none⟩ = some (.int .i64 item)) (first | exact HK.out _ (below_drew1 (Below.refl _ _)) | exact HK.out _ (below_step (‹Aside0 (Below w.heap.size w _) ∧ _›).1.out (by assumption))) (first | (go_at_call 37; (with_reducible refine (impl_Space_end.calls n _ _ l x v _ ?st ?sa ?sb HH.out).mono ?_); (case st => exact HT.out.below (‹Aside0 (Below w.heap.size w _) ∧ _›).1.out); (case sa => exact Kd.C_below HR.out (‹Aside0 (Below w.heap.size w _) ∧ _›).1.out); (case sb => exact HC.out); rintro e W3 ⟨rfl, hb3⟩))
  have HB3 := (‹Aside0 (Below w.heap.size w _) ∧ _›).1
  go_wp2
  go_ret
  exact ⟨by first | rfl | (simp; done) | (by_cases hv : v = item <;> simp [hv, bne]), HB3.out⟩
theorem impl_pathsTo_del.calls {g0 g1 : Nat} (n : Int) (A : Option Addr) (c : Nat) (l : List Int) (item : Int) (P3_ : Nat → Prop) (u9000_ : Value) (L : List Int) (r : List Int) (w0 w : World) (hB : Below w0.heap.size w0 w) (hT : TabAt w0) (hb0 : ∀ W_, Kept w W_ (fun k_ => P3_ k_) → W_.heap[g0]? = some (.cells #[.int .i64 n, .slice A l.length c] 29 (0, 0))) (hb1 : ∀ W_, Kept w W_ (fun k_ => P3_ k_) → W_.heap[g1]? = some (.cells #[.int .i64 item] 3 (0, 0))) (hr : ∀ W_, Kept w W_ (fun k_ => P3_ k_) → Kd.C (Kd.int .i64) W_ A l.length l) (hc : l.length ≤ c) (ho : Kd.R (Kd.int .i64) 3 w w0.heap.size P3_ u9000_ L) (h : impl_pathsTo_del.f n l item L = some r) :
    Calls Tryd.prog 34 #[u9000_, .func (.func 36) #[] #[.pointer (some ⟨g0, 0, none⟩), .pointer (some ⟨g1, 0, none⟩)]] w fun e w' => ∃ v0_ : Value, e = .returned (v0_) ∧ Kd.R (Kd.int .i64) 3 w' w0.heap.size (fun k_ => (P3_ k_ ∨ w.heap.size ≤ k_)) v0_ r ∧ Below w0.heap.size w0 w' ∧ Kept w w' (fun k_ => P3_ k_) := by
  obtain ⟨h1, rfl⟩ := impl_pathsTo_del.split n l item L r h
  have ht := Kd.R_tight rfl ho
  have hTw := hT.below hB
  have hn1 : ¬ some 1 = u9000_.ownBlock := fun e => by
    have h1 := Kd.R_base ho 1 e.symm
    have h2 := World.block_lt_of_cell? _ _ (hT 0 (by decide))
    exact absurd h2 (Nat.not_lt.2 h1)
  refine (slices_DeleteFunc_int_int.calls 36 _ (enters_of Tryd.func36 (by kernel_rfl) rfl) (otherEnd n l item) (fun k => some k = u9000_.ownBlock) u9000_ L w0 w hB ht ?_).mono ?_
  · intro W x hx hk
    have hk2 : Kept w W (fun k_ => P3_ k_) := hk.mono (fun k h_ => ho.1 k h_.symm)
    obtain ⟨v, hv⟩ := h1 x hx
    have hm : otherEnd n l item x = !decide (v = item) := by unfold otherEnd; rw [hv]
    rw [hm]
    exact impl_Space_pathsTo_1.calls g0 g1 n A c l item x v W (fun i hi => cell_kept (hTw i hi) hk hn1) (hb0 W hk2) (hb1 W hk2) (hr W hk2) hc hv
  · rintro e w' ⟨v0, he, hR, hb, hkk⟩
    exact ⟨v0, he, Kd.R_mono hR (fun k_ h_ => .inl (ho.1 k_ h_.symm)), hb, hkk.mono (fun k h_ => ho.1 k h_.symm)⟩

/-! ### impl_Space_pathsTo: function 19 -/
def impl_Space_pathsTo.f (k : Nat) (a0_0 : Int) (l0_1 : List Int) (a1 : Int) : Option (List Int) := (impl_Space_paths.f k a0_0 l0_1).bind fun t103 => ((impl_pathsTo_del.f a0_0 l0_1 a1 t103).bind fun t106 => (some t106))
theorem impl_Space_pathsTo.mono : ∀ a0 a1 a2 k, LeO (impl_Space_pathsTo.f k a0 a1 a2) (impl_Space_pathsTo.f (k + 1) a0 a1 a2) := by
  intro a0 a1 a2 k
  unfold impl_Space_pathsTo.f
  repeat' first
      | (with_reducible exact impl_Space_paths.mono _ _ _)
      | (with_reducible exact LeO.refl _)
      | (with_reducible exact LeO.none _)
      | (with_reducible refine LeO.ite ?_ ?_)
      | (with_reducible refine LeO.bind ?_ (fun _ => ?_))
      | exact impl_Space_paths.mono _ _ _
      | exact LeO.none _
      | refine LeO.ite ?_ ?_
      | refine LeO.bind ?_ (fun _ => ?_)
set_option maxHeartbeats 8000000 in
set_option maxRecDepth 100000 in
theorem impl_Space_pathsTo.calls (k : Nat) (a0_0 : Int) (A0_1 : Option Addr) (c0_1 : Nat) (l0_1 : List Int) (a1 : Int) (r : List Int) (w : World) (hTab : TabAt w) (hr0_1 : Kd.C (Kd.int .i64) w A0_1 l0_1.length l0_1) (hc0_1 : l0_1.length ≤ c0_1) (h : impl_Space_pathsTo.f k a0_0 l0_1 a1 = some r) :
    Calls Tryd.prog 19 #[.agg #[.int .i64 a0_0, .slice A0_1 l0_1.length c0_1], .int .i64 a1] w fun e w' => ∃ v0_ : Value, e = .returned (v0_) ∧ Kd.R (Kd.int .i64) 3 w' w.heap.size (fun _ => True) v0_ r ∧ Below w.heap.size w w' := by
  have hu29 := Tryd.underlying29
  have HR0_1 := Aside0.mk hr0_1
  have HC0_1 := Aside0.mk hc0_1
  clear hr0_1 hc0_1
  have HTAB := Aside0.mk hTab
  clear hTab
  have HB := Aside0.mk (Below.refl w.heap.size w)
  have H : ((impl_Space_paths.f k a0_0 l0_1).bind fun t103 => ((impl_pathsTo_del.f a0_0 l0_1 a1 t103).bind fun t106 => (some t106))) = some r := h
  clear h
  replace H := Option.bind_eq_some_iff.mp H
  obtain ⟨t103, A30, H⟩ := H
  replace H : ((impl_pathsTo_del.f a0_0 l0_1 a1 t103).bind fun t106 => (some t106)) = some r := H
  have A3 := Aside0.mk A30
  clear A30
  replace H := Option.bind_eq_some_iff.mp H
  obtain ⟨t106, A40, H⟩ := H
  replace H : (some t106) = some r := H
  have A4 := Aside0.mk A40
  clear A40
  obtain rfl := Option.some.inj H
  go_enter Tryd.func19, Tryd.ntmps19
  go_wp2_with (first | ((with_reducible refine gate_dst (N := 2) rfl ?_); refine box_event ?hg (N := 2) ?hd (cs := #[.int .i64 a0_0, .slice A0_1 l0_1.length c0_1]) (t := 29) ?hr ?_; (case hd => rfl); (case hg => rfl); (case hr => first | (go_simp; done) | (go_simp; rfl)); intro gb101 hg w5 hbox hb; have n0_ := Aside0.mk (below_step (by repeat (first | (with_reducible first | exact HB.out | apply below_alloc | apply pw_below_drewN | apply below_drew1) | exact HB.out)) hb); have n1_ := Aside0.mk (hbox); have n2_ := Aside0.mk ((by rw [hg]; exact (below_size (by repeat (first | (with_reducible first | exact HB.out | apply below_alloc | apply pw_below_drewN | apply below_drew1) | exact HB.out))) : w.heap.size ≤ gb101)); have n3_ := Aside0.mk ((by rw [hg]; exact (below_size (by repeat (first | (with_reducible first | exact HB.out | apply below_alloc | apply pw_below_drewN | apply below_drew1) | exact HB.out))) : w.heap.size ≤ gb101)); clear HB; have HB := n0_; have BK101 := n1_; have GW101 := n2_; have GE101 := n3_; clear n0_ n1_ n2_ n3_; clear hb hbox hg) | ((with_reducible refine gate_dst (N := 3) rfl ?_); refine box_event ?hg (N := 3) ?hd (cs := #[.int .i64 a1]) (t := 3) ?hr ?_; (case hd => rfl); (case hg => rfl); (case hr => first | (go_simp; done) | (go_simp; rfl)); intro gb102 hg w6 hbox hb; have n0_ := Aside0.mk (blk_below (g := gb101) (o := .cells #[.int .i64 a0_0, .slice A0_1 l0_1.length c0_1] 29 (0, 0)) (by (with_reducible repeat (first | refine blk_drewN ?_ _ | refine blk_drew ?_ | refine blk_alloc ?_ _)); exact BK101.out) hb); have n1_ := Aside0.mk (below_step (by repeat (first | (with_reducible first | exact HB.out | apply below_alloc | apply pw_below_drewN | apply below_drew1 | refine below_set ?_ GE101.out) | exact HB.out)) hb); have n2_ := Aside0.mk (hbox); have n3_ := Aside0.mk ((by rw [hg]; exact (below_size (by repeat (first | (with_reducible first | exact HB.out | apply below_alloc | apply pw_below_drewN | apply below_drew1 | refine below_set ?_ GE101.out) | exact HB.out))) : w.heap.size ≤ gb102)); have n4_ := Aside0.mk ((by rw [hg]; exact (below_size (by repeat (first | (with_reducible first | exact HB.out | apply below_alloc | apply pw_below_drewN | apply below_drew1 | refine below_set ?_ GE101.out) | exact HB.out))) : w.heap.size ≤ gb102)); have n5_ := Aside0.mk ((by rw [hg]; exact Nat.ne_of_lt (blk_lt (g := gb101) (o := .cells #[.int .i64 a0_0, .slice A0_1 l0_1.length c0_1] 29 (0, 0)) (by (with_reducible repeat (first | refine blk_drewN ?_ _ | refine blk_drew ?_ | refine blk_alloc ?_ _)); exact BK101.out)) : gb101 ≠ gb102)); have n6_ := Aside0.mk ((by rw [hg]; exact Nat.ne_of_gt (blk_lt (g := gb101) (o := .cells #[.int .i64 a0_0, .slice A0_1 l0_1.length c0_1] 29 (0, 0)) (by (with_reducible repeat (first | refine blk_drewN ?_ _ | refine blk_drew ?_ | refine blk_alloc ?_ _)); exact BK101.out)) : gb102 ≠ gb101)); clear BK101; clear HB; have BK101 := n0_; have HB := n1_; have BK102 := n2_; have GW102 := n3_; have GE102 := n4_; have NB101_102 := n5_; have NB102_101 := n6_; clear n0_ n1_ n2_ n3_ n4_ n5_ n6_; clear hb hbox hg; have hnb7 := NB101_102.out; have hnc7 := NB102_101.out; have hcz8_0 : w6.cell? ⟨gb101, 0, none⟩ = some (.int .i64 a0_0) := (blk_cell BK101.out 0).trans rfl; have hcz8_1 : w6.cell? ⟨gb101, 1, none⟩ = some (.slice A0_1 l0_1.length c0_1) := (blk_cell BK101.out 1).trans rfl; have hfz8_0 := blk_frozen BK101.out 0; have hfz8_1 := blk_frozen BK101.out 1) | ((with_reducible refine gate_callee (f := 35) rfl ?_); refine goesL_ (some 6) rfl rfl Tryd.func35 (by kernel_rfl) rfl #[.agg #[.int .i64 a0_0, .slice A0_1 l0_1.length c0_1]] rfl (by (try simp only [List.map_toArray, List.map_cons, List.map_nil]); first | done | rfl | (simp only [List.length_drop, List.length_take]; rfl)) ?_; (with_reducible refine (impl_Space_paths.calls k a0_0 _ _ l0_1 t103 _ ?side1 ?side2 A3.out).mono ?_); (case side1 => repeat (first | exact (Kd.C_below HR0_1.out HB.out) | (with_reducible refine Kd.C_alloc ?_ _) | (with_reducible refine Kd.C_drewN ?_ _) | (with_reducible refine Kd.C_drew ?_))); (case side2 => exact HC0_1.out); rintro e w9 ⟨v104, rfl, ho0, hb⟩; refine ⟨_, rfl, ?_⟩; have n0_ := Aside0.mk (Kd.R_lower (Kd.R_newB ho0 (g := gb102) (o := .cells #[.int .i64 a1] 3 (0, 0)) (by (with_reducible repeat (first | refine blk_drewN ?_ _ | refine blk_drew ?_ | refine blk_alloc ?_ _)); exact BK102.out)) (below_size (by repeat (first | (with_reducible first | exact HB.out | apply below_alloc | apply pw_below_drewN | apply below_drew1 | refine below_set ?_ GE101.out | refine below_set ?_ GE102.out) | exact HB.out)))); have n1_ := Aside0.mk (blk_below (g := gb101) (o := .cells #[.int .i64 a0_0, .slice A0_1 l0_1.length c0_1] 29 (0, 0)) (by (with_reducible repeat (first | refine blk_drewN ?_ _ | refine blk_drew ?_ | refine blk_alloc ?_ _)); exact BK101.out) hb); have n2_ := Aside0.mk (blk_below (g := gb102) (o := .cells #[.int .i64 a1] 3 (0, 0)) (by (with_reducible repeat (first | refine blk_drewN ?_ _ | refine blk_drew ?_ | refine blk_alloc ?_ _)); exact BK102.out) hb); have n3_ := Aside0.mk (below_step (by repeat (first | (with_reducible first | exact HB.out | apply below_alloc | apply pw_below_drewN | apply below_drew1 | refine below_set ?_ GE101.out | refine below_set ?_ GE102.out) | exact HB.out)) hb); clear BK101; clear BK102; clear HB; have HO105 := n0_; have BK101 := n1_; have BK102 := n2_; have HB := n3_; clear n0_ n1_ n2_ n3_; (try clear hb); (try clear hb2); (try clear hk); (try clear hi); (try clear ho0); obtain ⟨Ao10, co10, eo10⟩ := Kd.R_slice HO105.out; subst eo10) | (go_at_call 34; (with_reducible refine (impl_pathsTo_del.calls a0_0 A0_1 c0_1 l0_1 a1 (fun k_ => some k_ = (.slice Ao10 t103.length co10 : Value).ownBlock) (.slice Ao10 t103.length co10) t103 t106 w _ ?side1 ?side7 ?side5 ?side6 ?side2 ?side3 ?side4 A4.out).mono ?_); (case side1 => repeat (first | (with_reducible first | exact HB.out | apply below_alloc | apply pw_below_drewN | apply below_drew1 | refine below_set ?_ GE101.out | refine below_set ?_ GE102.out) | exact HB.out)); (case side2 => exact Kd.C_kept_came (Kd.heap_int .i64) HR0_1.out (by repeat (first | (with_reducible first | exact HB.out | apply below_alloc | apply pw_below_drewN | apply below_drew1 | refine below_set ?_ GE101.out | refine below_set ?_ GE102.out) | exact HB.out)) (fun k_ hs_ => (fun e_ => Kd.R_base HO105.out k_ e_.symm) hs_)); (case side3 => exact HC0_1.out); (case side4 => exact Kd.R_tight rfl HO105.out); (case side5 => exact fun W_ hk_ => blk_kept (by (with_reducible repeat (first | refine blk_drewN ?_ _ | refine blk_drew ?_ | refine blk_alloc ?_ _)); exact BK101.out) hk_ (fun e_ => by first | exact (Kd.R_types (HO105.out) (by (with_reducible repeat (first | refine blk_drewN ?_ _ | refine blk_drew ?_ | refine blk_alloc ?_ _)); exact BK101.out) (by decide)).1 _ e_.symm |>.2 rfl)); (case side6 => exact fun W_ hk_ => blk_kept (by (with_reducible repeat (first | refine blk_drewN ?_ _ | refine blk_drew ?_ | refine blk_alloc ?_ _)); exact BK102.out) hk_ (fun e_ => by first | exact (HO105.out.1 _ e_.symm).2 rfl | exact (Kd.R_types (HO105.out) (by (with_reducible repeat (first | refine blk_drewN ?_ _ | refine blk_drew ?_ | refine blk_alloc ?_ _)); exact BK102.out) (by decide)).1 _ e_.symm |>.2 rfl)); (case side7 => exact HTAB.out); rintro e w11 ⟨v107, rfl, ho0, hb, hkp⟩; have n0_ := Aside0.mk (blk_kept (by (with_reducible repeat (first | refine blk_drewN ?_ _ | refine blk_drew ?_ | refine blk_alloc ?_ _)); exact BK101.out) hkp (fun hs_ => (fun e_ => (Kd.R_ne HO105.out BK101.out (by decide)) e_) hs_)); have n1_ := Aside0.mk (blk_kept (by (with_reducible repeat (first | refine blk_drewN ?_ _ | refine blk_drew ?_ | refine blk_alloc ?_ _)); exact BK102.out) hkp (fun hs_ => (fun e_ => (Kd.R_away HO105.out (fun _ hk => hk.2)) e_) hs_)); have n2_ := Aside0.mk (Kd.R_mono (ok' := fun k_ => k_ ≠ gb102) ho0 (fun k_ hk_ => Or.elim hk_ (fun hs_ => fun e_ => (Kd.R_away HO105.out (fun _ hk => hk.2)) (by rw [← e_]; exact hs_)) (fun hn_ => (Kd.freshB (g := gb102) (o := .cells #[.int .i64 a1] 3 (0, 0)) (by (with_reducible repeat (first | refine blk_drewN ?_ _ | refine blk_drew ?_ | refine blk_alloc ?_ _)); exact BK102.out) k_ hn_)))); have n3_ := Aside0.mk (hb); clear BK101; clear BK102; clear HB; clear HO105; have BK101 := n0_; have BK102 := n1_; have HO108 := n2_; have HB := n3_; clear n0_ n1_ n2_ n3_; (try clear hb); (try clear hkp); (try clear ho0)))
  go_ret
  exact ⟨_, by first | rfl | (simp [errW_none, errW_some] <;> rfl) | (simp [*, errW_none, errW_some] <;> rfl), by (with_reducible repeat (first | apply Kd.R_alloc | apply Kd.R_drewN | apply Kd.R_drew)); exact Kd.R_mono HO108.out (fun _ hk => trivial), by repeat (first | (with_reducible first | exact HB.out | apply below_alloc | apply pw_below_drewN | apply below_drew1 | refine below_set ?_ GE101.out | refine below_set ?_ GE102.out) | exact HB.out)⟩

-- HAND with (impl.Space).pathsTo+(impl.Space).paths+(impl.Space).end+(*impl.family).inner+impl.count+(impl.Space).family+math/bits.TrailingZeros
theorem paths_loop {l : List Int} (F : List Bool) (hF : F.length = 128) (hM : ∀ x ∈ l, 0 ≤ x ∧ x < 128) (hlen : l.length < 1048577) : ∀ (d i : Nat) (acc : List Int), l.length - i = d → i ≤ l.length → acc.length + d ≤ l.length → Ev (fun k => impl_Space_paths.l0 k F acc l l.length i) (acc ++ pathsL F (l.drop i))
  | 0, i, acc, hd, hi, ha => by
    rw [List.drop_of_length_le (by omega)]
    exact Ev.succ (fun k => by simp only [impl_Space_paths.l0]; rw [if_neg (by omega)]) (Ev.const (by unfold pathsL; simp))
  | d + 1, i, acc, hd, hi, ha => by
    have hlt : i < l.length := by omega
    obtain ⟨h0, h1⟩ := hM l[i] (List.getElem_mem hlt)
    have hn := fun acc' h' => paths_loop F hF hM hlen d (i + 1) acc' (by omega) (by omega) h'
    push_cast at hn
    have hws : wrap64 ((i : Int) + 1) = i + 1 := wrap_succ (by omega) (by omega)
    rw [List.drop_eq_getElem_cons hlt]
    have hc := count_ok (x := (innerF F l[i].toNat : Int)) ⟨by omega, by have := innerF_lt F l[i].toNat; exact Int.ofNat_lt.2 this⟩
    rw [Int.toNat_natCast] at hc
    refine Ev.succ (fun k => by simp only [impl_Space_paths.l0]; rw [if_pos (by omega), if_pos (by omega), if_pos (by omega), hws, rd_get hlt]) ?_
    refine Ev.bindc (inner_f F hF l[i] h0 h1) ?_
    refine Ev.bindc hc ?_
    by_cases h : cntN (innerF F l[i].toNat) = 1
    · refine Ev.to (fun k => by rw [if_pos (by rw [h]; rfl), if_pos (by omega)]) ?_
      refine Ev.val (hn (acc ++ [l[i]]) (by rw [List.length_append, List.length_singleton]; omega)) ?_
      unfold pathsL
      rw [List.filter_cons, if_pos (decide_eq_true h), List.append_assoc]
      rfl
    · refine Ev.to (fun k => by rw [if_neg (fun e => h (by exact_mod_cast e))]) ?_
      refine Ev.val (hn acc (by omega)) ?_
      unfold pathsL
      rw [List.filter_cons, if_neg (by rw [decide_eq_false h]; decide)]
theorem paths_ok {n : Int} {l : List Int} (hS : isSpaceB n l = true) (hlen : l.length < 1048577) : Ev (fun k => impl_Space_paths.f k n l) (pathsL (famOf l) l) := by
  unfold impl_Space_paths.f
  refine Ev.bindc (family_f hS) ?_
  exact paths_loop (famOf l) (famOf_length l) (isSpaceB_128 hS) hlen l.length 0 [] (by omega) (by omega) (by simp)
theorem u64_small : ∀ x : Fin 128, IntKind.u64.wrap (x.val : Int) = x.val := by decide +kernel
theorem end_ok {n : Int} {l : List Int} (hS : isSpaceB n l = true) {x : Int} (h0 : 0 ≤ x) (h1 : x < 128) (hi : innerF (famOf l) x.toNat ≠ 0) : impl_Space_end.f n l x = some (endN (famOf l) x : Int) := by
  have hlt := innerF_lt (famOf l) x.toNat
  have hu : IntKind.u64.wrap (innerF (famOf l) x.toNat : Int) = (innerF (famOf l) x.toNat : Int) := u64_small ⟨_, hlt⟩
  unfold impl_Space_end.f endN
  rw [family_f hS, Option.bind_some, inner_f _ (famOf_length l) x h0 h1, Option.bind_some, hu]
  unfold bits_TrailingZeros.f
  rw [if_pos ⟨Int.ofNat_lt.2 (Nat.pos_of_ne_zero hi), Int.ofNat_lt.2 hlt⟩, Int.toNat_natCast]
  rfl
theorem toDel_ok {n : Int} {l : List Int} (hS : isSpaceB n l = true) (item : Int) : ∀ L : List Int, (∀ x ∈ L, (0 ≤ x ∧ x < 128) ∧ innerF (famOf l) x.toNat ≠ 0) → impl_pathsTo_del.f n l item L = some (L.filter fun x => decide ((endN (famOf l) x : Int) = item))
  | [], _ => rfl
  | x :: L, h => by
    obtain ⟨⟨h0, h1⟩, hi⟩ := h x List.mem_cons_self
    have ih := toDel_ok hS item L (fun y hy => h y (List.mem_cons_of_mem _ hy))
    unfold impl_pathsTo_del.f
    rw [end_ok hS h0 h1 hi, Option.bind_some, ih, Option.bind_some, List.filter_cons]
    by_cases e : (endN (famOf l) x : Int) = item
    · rw [if_pos e, if_pos (decide_eq_true e)]
    · rw [if_neg e, if_neg (by rw [decide_eq_false e]; decide)]
theorem pathsTo_ok {n : Int} {l : List Int} (hS : isSpaceB n l = true) (hlen : l.length < 1048577) (item : Int) : Ev (fun k => impl_Space_pathsTo.f k n l item) (pathsToL (famOf l) l item) := by
  unfold impl_Space_pathsTo.f
  refine Ev.bind (paths_ok hS hlen) ?_
  refine Ev.bindc (toDel_ok hS item _ (fun x hx => ⟨isSpaceB_128 hS x (pathsL_mem hx).1, (pathsL_mem hx).2⟩)) ?_
  exact Ev.const rfl

end Go.Proofs.YtnbfnnkhimobjaaDoor.Q
