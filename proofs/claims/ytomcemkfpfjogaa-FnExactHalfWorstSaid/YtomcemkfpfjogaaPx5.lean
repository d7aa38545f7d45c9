/- Contracts of functions that the laws reach: a call returns what the plain Lean function of the same name tells. Conditions: those of each theorem. Made by gen.py, a program of this session, over the print of the translation. -/
import Derived.Test.YtomcemkfpfjogaaPx0
import Derived.Test.YtomcemkfpfjogaaPx1
import Derived.Test.YtomcemkfpfjogaaPx2
import Derived.Test.YtomcemkfpfjogaaPx4
import Derived.Shelf.Abstract
namespace Go.Proofs.Ytomcemkfpfjogaa.Q
open Go.RowKit Go.Proofs.YtomcemkfpfjogaaW.PrintWords Go.Proofs.YtomcemkfpfjogaaW.PrintLast Go.Proofs.YtomcemkfpfjogaaW.PrintMore
attribute [local go_sem] max2_int min2_int max_two min_two max_three min_three max_four min_four   -- for this text's walks alone
set_option linter.unusedVariables false
set_option linter.unusedSimpArgs false

/-! ### impl_items: function 82 -/
def impl_items.l0 : Nat → Int → List Int → Int → Option (List Int)
  | 0, _, _, _ => none
  | k + 1, x0, x3, x6 => if x6 < 7 then (if 0 ≤ x6 then (if (Go.bits .and .i64 (shr .i64 x0 x6) 1) = 1 then (if x3.length < 17592186044416 then (impl_items.l0 k x0 (x3 ++ [x6]) (wrap64 (x6 + 1))) else (none)) else (impl_items.l0 k x0 x3 (wrap64 (x6 + 1)))) else (none)) else (some x3)
def impl_items.f (k : Nat) (a0 : Int) : Option (List Int) := impl_items.l0 k a0 (([] : List Int)) 0
theorem impl_items.mono_l : ∀ k, (∀ y0 y1 y2, LeO (impl_items.l0 k y0 y1 y2) (impl_items.l0 (k + 1) y0 y1 y2))
  | 0 => fun _ _ _ r h => by simp [impl_items.l0] at h
  | k + 1 => by
    have ih0 := impl_items.mono_l k
    · intro y0 y1 y2
      unfold impl_items.l0
      repeat' first
      | (with_reducible exact ih0 _ _ _)
      | (with_reducible exact LeO.refl _)
      | (with_reducible exact LeO.none _)
      | (with_reducible refine LeO.ite ?_ ?_)
      | (with_reducible refine LeO.bind ?_ (fun _ => ?_))
      | exact ih0 _ _ _
      | exact LeO.none _
      | refine LeO.ite ?_ ?_
      | refine LeO.bind ?_ (fun _ => ?_)
theorem impl_items.mono : ∀ a0 k, LeO (impl_items.f k a0) (impl_items.f (k + 1) a0) := by
  intro a0 k
  have ih0 := impl_items.mono_l k
  unfold impl_items.f
  repeat' first
      | (with_reducible exact ih0 _ _ _)
      | (with_reducible exact LeO.refl _)
      | (with_reducible exact LeO.none _)
      | (with_reducible refine LeO.ite ?_ ?_)
      | (with_reducible refine LeO.bind ?_ (fun _ => ?_))
      | exact ih0 _ _ _
      | exact LeO.none _
      | refine LeO.ite ?_ ?_
      | refine LeO.bind ?_ (fun _ => ?_)
set_option maxHeartbeats 8000000 in
set_option maxRecDepth 100000 in
theorem impl_items.calls (k : Nat) (a0 : Int) (r : List Int) (w : World) (h : impl_items.f k a0 = some r) :
    Calls Try.prog 82 #[.int .i64 a0] w fun e w' => ∃ v0_ : Value, e = .returned (v0_) ∧ Kd.R (Kd.int .i64) 3 w' w.heap.size (fun _ => True) v0_ r ∧ Below w.heap.size w w' := by
  have HB := Aside0.mk (Below.refl w.heap.size w)
  have H : (impl_items.l0 k a0 (([] : List Int)) 0) = some r := h
  clear h
  obtain ⟨y101, hy101⟩ : ∃ y_ : List Int, y_ = (([] : List Int)) := ⟨_, rfl⟩
  replace H : (impl_items.l0 k a0 y101 0) = some r := by first | (rw [hy101]; with_reducible exact H) | (have H2_ := (Option.bind_some _ _).symm.trans H; rw [hy101]; with_reducible exact H2_) | (have H2_ := (Option.bind_some _ _).symm.trans H; with_reducible exact H2_) | with_reducible exact H | (rw [hy101]; exact H) | exact H
  have Ny101 := Aside0.mk hy101
  clear hy101
  have H' := Aside0.mk H
  clear H
  go_enter Try.func82, Try.ntmps82
  go_wp2_with (first | ((with_reducible refine gate_dst (N := 5) rfl ?_); refine Kd.R_lit (Kd.int .i64) _ 3 ?hg (N := 5) ?hd (xs := ([] : List Int)) (inner := []) (ok := fun _ => True) (okp := fun _ => True) ?hr ?hp (fun _ hk => hk) trivial (Below.refl _ _) (Nat.le_refl _) (by simp) ?_; (case hd => rfl); (case hg => rfl); (case hr => first | (go_simp; done) | (go_simp; rfl)); (case hp => exact (Reps.none _ _)); intro v102 w2 ho3 hb hg_ hnew_; clear hg_ hnew_; (first | rw [← Ny101.out] at ho3 | (simp only [Int.reduceToNat] at ho3; rw [← Ny101.out] at ho3)); have n0_ := Aside0.mk (Kd.R_lower ho3 (below_size (by repeat (first | (with_reducible first | exact HB.out | apply below_alloc | apply pw_below_drewN | apply below_drew1) | exact HB.out)))); have n1_ := Aside0.mk (below_step (by repeat (first | (with_reducible first | exact HB.out | apply below_alloc | apply pw_below_drewN | apply below_drew1) | exact HB.out)) hb); clear HB; have HO103 := n0_; have HB := n1_; clear n0_ n1_; clear hb ho3))
  go_loopg [3, 6] k (fun kq v3 v6 w' => ∃ (x3_1 : List Int) (x6_1 : Int), v6 = .int .i64 x6_1 ∧ Aside0 (impl_items.l0 kq a0 x3_1 x6_1 = some r) ∧ Aside0 (kq ≤ k) ∧ Aside0 (Kd.R (Kd.int .i64) 3 w' w.heap.size (fun _ => True) v3 x3_1) ∧ Aside0 (Below w.heap.size w w'))
  case atStart => exact ⟨(y101), (0), (by first | rfl | (simp; done) | (simp [*]; done)), H', ⟨Nat.le_refl _⟩, ⟨by (with_reducible repeat (first | apply Kd.R_alloc | apply Kd.R_drewN | apply Kd.R_drew)); exact HO103.out⟩, ⟨by repeat (first | (with_reducible first | exact HB.out | apply below_alloc | apply pw_below_drewN | apply below_drew1) | exact HB.out)⟩⟩
  case round =>
    clear H'
    try clear p2
    obtain ⟨x3_1, x6_1, rfl, HA, HK1, HO_3, HB⟩ := hrel
    cases gk with
    | zero => exact absurd HA.out (by simp [impl_items.l0])
    | succ k1 =>
      have H := HA.out
      clear HA
      simp only [impl_items.l0] at H
      by_cases c4 : x6_1 < 7
      · rw [if_pos c4] at H
        have c4b0 : decide (x6_1 < 7) = true := decide_eq_true c4
        clear c4
        by_cases c5 : 0 ≤ x6_1
        · rw [if_pos c5] at H
          have c5b0 := eq_true c5
          have c5b1 : decide (0 ≤ x6_1) = true := decide_eq_true c5
          clear c5
          obtain ⟨ji6, hji6⟩ : ∃ j_ : Int, (shr .i64 a0 x6_1) = j_ := ⟨_, rfl⟩
          replace H : (if (Go.bits .and .i64 (ji6) 1) = 1 then (if x3_1.length < 17592186044416 then (impl_items.l0 k1 a0 (x3_1 ++ [x6_1]) (wrap64 (x6_1 + 1))) else (none)) else (impl_items.l0 k1 a0 x3_1 (wrap64 (x6_1 + 1)))) = some r := by first | (rw [hji6] at H; exact H) | (simp only [hji6] at H ⊢; exact H)
          have hji6_ : (a0 / 2 ^ min x6_1.toNat 64) = ji6 := hji6
          have hji6z : x6_1 ≤ 64 → (a0 / 2 ^ x6_1.toNat) = ji6 := shr_small hji6
          by_cases c7 : (Go.bits .and .i64 (ji6) 1) = 1
          · rw [if_pos c7] at H
            have c7b0 : ((Go.bits .and .i64 (ji6) 1) == 1) = true := beq_iff_eq.mpr c7
            have c7b1 : ((Go.bits .and .i64 (ji6) 1) != 1) = false := bne_eq_false_iff_eq.mpr c7
            clear c7
            by_cases c8 : x3_1.length < 17592186044416
            · rw [if_pos c8] at H
              have LMc8 := Aside0.mk c8
              clear c8
              obtain ⟨y104, hy104⟩ : ∃ y_ : List Int, y_ = (x3_1 ++ [x6_1]) := ⟨_, rfl⟩
              replace H : (impl_items.l0 k1 a0 y104 (wrap64 (x6_1 + 1))) = some r := by first | (rw [hy104]; with_reducible exact H) | (have H2_ := (Option.bind_some _ _).symm.trans H; rw [hy104]; with_reducible exact H2_) | (have H2_ := (Option.bind_some _ _).symm.trans H; with_reducible exact H2_) | with_reducible exact H | (rw [hy104]; exact H) | exact H
              have Ny104 := Aside0.mk hy104
              clear hy104
              have H' := Aside0.mk H
              clear H
              go_wp2_with (first | ((with_reducible refine gate_builtin (b := .append) (xs := #[.tmp 14, .tmp 16]) rfl ?_); at_builtin; refine Kd.R_append (Kd.int .i64) (w0 := w) w.heap.size rfl (.tmp 14) (.tmp 16) 22 3 (.int .i64 0) 8 rfl Try.underlying22 info3 rfl (by decide) (by omega) u3 x3_1 x6_1 [.int .i64 x6_1] (fun _ => True) (fun _ => False) rfl rfl ?aP (fun _ hk => hk.elim) ?aF ?aO ?aB ?aS ?aL ?_; (case aP => exact rfl); (case aB => exact (by repeat (first | (with_reducible first | exact HB.out | apply below_alloc | apply pw_below_drewN | apply below_drew1) | exact HB.out))); (case aF => exact (fun _ _ => trivial)); (case aO => exact (by (with_reducible repeat (first | apply Kd.R_alloc | apply Kd.R_drewN | apply Kd.R_drew)); exact HO_3.out)); (case aS => exact (below_size (by repeat (first | (with_reducible first | exact HB.out | apply below_alloc | apply pw_below_drewN | apply below_drew1) | exact HB.out)))); (case aL => have := LMc8.out; omega); intro v105 w9 ho hb hg hat; rw [← Ny104.out] at ho; have n0_ := Aside0.mk (hb); have n1_ := Aside0.mk (ho); clear HB; clear HO_3; have HB := n0_; have HO106 := n1_; clear n0_ n1_; clear ho hb hg hat))
              go_roundg k1
              case measure => have := HK1.out; omega
              case rel => exact ⟨(y104), (wrap64 (x6_1 + 1)), (by first | rfl | (simp; done) | (simp [*]; done)), H', ⟨by have := HK1.out; omega⟩, ⟨by (with_reducible repeat (first | apply Kd.R_alloc | apply Kd.R_drewN | apply Kd.R_drew)); exact HO106.out⟩, ⟨by repeat (first | (with_reducible first | exact HB.out | apply below_alloc | apply pw_below_drewN | apply below_drew1) | exact HB.out)⟩⟩
            · rw [if_neg c8] at H
              exact absurd H (by simp)
          · rw [if_neg c7] at H
            have c7b0 : ((Go.bits .and .i64 (ji6) 1) == 1) = false := beq_eq_false_iff_ne.mpr c7
            have c7b1 : ((Go.bits .and .i64 (ji6) 1) != 1) = true := bne_iff_ne.mpr c7
            have H' := Aside0.mk H
            clear H
            go_wp2
            go_roundg k1
            case measure => have := HK1.out; omega
            case rel => exact ⟨(x3_1), (wrap64 (x6_1 + 1)), (by first | rfl | (simp; done) | (simp [*]; done)), H', ⟨by have := HK1.out; omega⟩, ⟨by (with_reducible repeat (first | apply Kd.R_alloc | apply Kd.R_drewN | apply Kd.R_drew)); exact HO_3.out⟩, ⟨by repeat (first | (with_reducible first | exact HB.out | apply below_alloc | apply pw_below_drewN | apply below_drew1) | exact HB.out)⟩⟩
        · rw [if_neg c5] at H
          exact absurd H (by simp)
      · rw [if_neg c4] at H
        have c4b0 : decide (x6_1 < 7) = false := decide_eq_false c4
        clear c4
        obtain rfl := Option.some.inj H
        go_wp2
        go_ret
        exact ⟨_, by first | rfl | (simp [errW_none, errW_some] <;> rfl) | (simp [*, errW_none, errW_some] <;> rfl), by (with_reducible repeat (first | apply Kd.R_alloc | apply Kd.R_drewN | apply Kd.R_drew)); exact HO_3.out, by repeat (first | (with_reducible first | exact HB.out | apply below_alloc | apply pw_below_drewN | apply below_drew1) | exact HB.out)⟩

-- HAND with impl.items
theorem items_fin : ∀ x : Fin 128, impl_items.f 8 (x.val : Int) = some (itemsL (x.val : Int)) := by decide +kernel
theorem items_ok (x : Int) (h0 : 0 ≤ x) (h1 : x < 128) : impl_items.f 8 x = some (itemsL x) := by
  have h := items_fin ⟨x.toNat, by omega⟩
  have e : ((x.toNat : Nat) : Int) = x := by omega
  simp only [e] at h
  exact h

theorem itemsL_mem {x i : Int} (h : i ∈ itemsL x) : 0 ≤ i ∧ i < 7 ∧ x.toNat.testBit i.toNat = true := by
  simp only [itemsL, List.mem_map] at h
  obtain ⟨j, hj, rfl⟩ := h
  have := itemsN_lt hj
  exact ⟨by omega, by omega, by rw [Int.toNat_natCast]; exact itemsN_bit hj⟩

-- HAND with impl.items
theorem itemsE {x : Int} (h0 : 0 ≤ x) (h1 : x < 128) : Ev (fun k => impl_items.f k x) (itemsL x) := Ev.of (fun k => impl_items.mono x k) (items_ok x h0 h1)

-- HAND impl_family_inner: function 99
def innerStep (F : List Bool) (x a i : Int) : Int := if F.getD (nd x.toNat (2 ^ i.toNat)) false = true then ((a.toNat ||| 2 ^ i.toNat : Nat) : Int) else a
theorem innerStep_fold (F : List Bool) (x : Nat) : ∀ (l : List Nat) (a : Nat), (l.map (fun (i : Nat) => (i : Int))).foldl (innerStep F x) (a : Int) = ((l.foldl (fun a i => if F.getD (nd x (2 ^ i)) false = true then a ||| 2 ^ i else a) a : Nat) : Int)
  | [], a => rfl
  | i :: l, a => by
    rw [List.map_cons, List.foldl_cons, List.foldl_cons]
    have : innerStep F x a i = (((if F.getD (nd x (2 ^ i)) false = true then a ||| 2 ^ i else a) : Nat) : Int) := by
      unfold innerStep
      simp only [Int.toNat_natCast]
      split <;> rfl
    rw [this]
    exact innerStep_fold F x l _
theorem inner_fold (F : List Bool) (x : Nat) : (itemsL (x : Int)).foldl (innerStep F x) 0 = (innerF F x : Int) := by
  have := innerStep_fold F x (itemsN x) 0
  unfold itemsL
  rw [Int.toNat_natCast]
  refine this.trans ?_
  rw [itemsFold]
  rfl
set_option maxHeartbeats 8000000 in
set_option maxRecDepth 100000 in
theorem impl_family_inner.walkC (ad0 : Addr) (F : List Bool) (x : Int) (w : World) (hF : FamC w ad0 F) (h0 : 0 ≤ x) (h1 : x < 128) :
    Calls Try.prog 99 #[.pointer (some ad0), .int .i64 x] w fun e w' => e = .returned (.int .i64 (innerF F x.toNat)) ∧ Below w.heap.size w w' := by
  obtain ⟨x, rfl⟩ := Int.eq_ofNat_of_zero_le h0
  have HX := Aside0.mk (show x < 128 by omega)
  have HI := Aside0.mk (items_ok x h0 h1)
  have HF := Aside0.mk hF
  clear h0 h1 hF
  rw [Int.toNat_natCast]
  go_enter Try.func99, Try.ntmps99
  go_wp2_with (go_at_call 82; refine (impl_items.calls 8 _ _ _ HI.out).mono ?_; rintro e w1 ⟨v0, rfl, hR, hb⟩; obtain ⟨A, c, rfl⟩ := Kd.R_slice hR; have HR := Aside0.mk (Kd.R_reads' hR).2.2; have HB := Aside0.mk hb; clear hR hb)
  have HL := Aside0.mk (fun i => itemsL_mem (x := (x : Int)) (i := i))
  have HE := Aside0.mk (inner_fold F x)
  generalize itemsL (x : Int) = L at *
  go_loopw [5, 11] (fun v5 v11 wr => ∃ (k a : Nat), Aside0 (k ≤ L.length) ∧ v11 = .int .i64 k ∧ Aside0 (a < 128) ∧ v5 = .int .i64 a ∧ Aside0 ((L.take k).foldl (innerStep F x) 0 = a) ∧ Drawn0 w1 wr) (fun _ v11 _ => L.length - (intOf v11).toNat)
  case atStart => exact ⟨0, 0, ⟨Nat.zero_le _⟩, rfl, ⟨by decide⟩, rfl, ⟨rfl⟩, Drawn0.refl _⟩
  case round =>
    obtain ⟨k, a, hk, rfl, ha, rfl, hf, ⟨n, rfl⟩⟩ := hrel
    have hm := Kd.C_max HR.out
    by_cases hlt : k < L.length
    · obtain ⟨ad, e, hcell⟩ := Kd.at_int HR.out (k : Int) (by omega) (by omega)
      have hi := HL.out _ (rd_mem (l := L) (i := (k : Int)) (by omega) (by omega))
      have HT := Aside0.mk (take_rd L k hlt)
      obtain ⟨i, hI⟩ : ∃ i, i = rd L k := ⟨_, rfl⟩
      rw [← hI] at hi hcell HT
      clear hI
      cases e
      rw [Int.toNat_natCast] at hcell
      obtain ⟨i0, i1, ib⟩ := hi
      have hy := bits_nd x (2 ^ i.toNat) (lt63 HX.out) (lt63 (pow_lt128 i0 i1))
      have hylt : nd x (2 ^ i.toNat) < 128 := nd_lt (n := 7) HX.out
      have HO := Aside0.mk (bits_or a (2 ^ i.toNat) (lt63 ha.out) (lt63 (pow_lt128 i0 i1)))
      have HOL := Aside0.mk (Nat.or_lt_two_pow (n := 7) ha.out (pow_lt128 i0 i1))
      have HS := Aside0.mk (show innerStep F x (a : Int) i = if F.getD (nd x (2 ^ i.toNat)) false = true then ((a ||| 2 ^ i.toNat : Nat) : Int) else (a : Int) by unfold innerStep; simp only [Int.toNat_natCast])
      obtain ⟨j, hj⟩ : ∃ j, j = ((2 ^ i.toNat : Nat) : Int) := ⟨_, rfl⟩
      rw [← hj] at hy HO
      obtain ⟨s1, s2, s3, s4, s5, s6, s7, s8⟩ := shl_ways ((shl_nat i0 (by omega)).trans hj.symm) (by omega)
      clear hj
      obtain ⟨y, hY⟩ : ∃ y : Int, y = (nd x (2 ^ i.toNat) : Nat) := ⟨_, rfl⟩
      have y0 : 0 ≤ y := by omega
      have y1 : y < 128 := by omega
      have hYn : nd x (2 ^ i.toNat) = y.toNat := by omega
      rw [← hY] at hy
      rw [hYn] at HS
      clear hY hYn hylt ib
      have hfc := (HF.out.below HB.out).at_ y y0 y1
      obtain ⟨v, hv⟩ : ∃ v, v = F.getD y.toNat false := ⟨_, rfl⟩
      rw [← hv] at hfc HS
      clear hv
      cases v
      all_goals
        go_wp2
        go_quiet (fail)
        try go_wp2
      · go_roundw
        case rel => exact ⟨k + 1, a, ⟨by omega⟩, by go_num, ha, rfl, ⟨by rw [HT.out, List.foldl_append, hf.out]; simpa using HS.out⟩, by repeat (first | exact Drawn0.refl _ | apply Drawn0.step)⟩
        case measure => simp [intOf]; omega
      · go_roundw
        case rel => exact ⟨k + 1, a ||| 2 ^ i.toNat, ⟨by omega⟩, by go_num, HOL, by first | rfl | (rw [← HO.out]), ⟨by rw [HT.out, List.foldl_append, hf.out]; simpa using HS.out⟩, by repeat (first | exact Drawn0.refl _ | apply Drawn0.step)⟩
        case measure => simp [intOf]; omega
    · have hk' := hk.out
      obtain rfl : k = L.length := by omega
      have hm := Kd.C_max HR.out
      have HW := Aside0.mk (show (a : Int) = innerF F x from hf.out.symm.trans (by rw [List.take_length]; exact HE.out))
      clear hf HE
      go_wp2
      go_ret
      exact ⟨by have := HW.out; first | (rw [this]; done) | (simp; omega) | omega, by repeat (first | exact HB.out | apply pw_below_drewN)⟩
theorem impl_family_inner.walk (b : Nat) (F : List Bool) (x : Int) (w : World) (hF : FamAt w b F) (h0 : 0 ≤ x) (h1 : x < 128) :
    Calls Try.prog 99 #[.pointer (some ⟨b, 0, none⟩), .int .i64 x] w fun e w' => e = .returned (.int .i64 (innerF F x.toNat)) ∧ Below w.heap.size w w' := impl_family_inner.walkC ⟨b, 0, none⟩ F x w hF.c h0 h1
def impl_family_inner.f (l0 : List Bool) (a1 : Int) : Option Int := if l0.length = 128 ∧ 0 ≤ a1 ∧ a1 < 128 then some (innerF l0 a1.toNat) else none
theorem impl_family_inner.calls (A0 : Option Addr) (c0 : Nat) (l0 : List Bool) (a1 : Int) (r : Int) (w : World) (hr0 : Kd.C Kd.bool w A0 l0.length l0) (hc0 : l0.length ≤ c0) (h : impl_family_inner.f l0 a1 = some r) :
    Calls Try.prog 99 #[.pointer A0, .int .i64 a1] w fun e w' => e = .returned (.int .i64 r) ∧ Below w.heap.size w w' := by
  unfold impl_family_inner.f at h
  split at h
  · rename_i hl
    have e := Option.some.inj h
    subst e
    obtain ⟨ad, rfl, HF⟩ := FamC.of_reads hr0 hl.1
    exact impl_family_inner.walkC ad l0 a1 w HF hl.2.1 hl.2.2
  · cases h

-- HAND impl_IsSpace: function 48
def impl_IsSpace.f (a0_0 : Int) (l0_1 : List Int) : Option (Bool) := some (isSpaceB a0_0 l0_1)
set_option maxHeartbeats 8000000 in
set_option maxRecDepth 100000 in
theorem impl_IsSpace.early (n : Int) (A : Option Addr) (c : Nat) (l : List Int) (w : World) (hr : Kd.C (Kd.int .i64) w A l.length l) (hn : (decide (1 ≤ n) && decide (n ≤ 7) && decide ((l.length : Int) ≤ 2 ^ n.toNat)) = false) :
    Calls Try.prog 48 #[.agg #[.int .i64 n, .slice A l.length c]] w fun e w' => e = .returned (.bool false) ∧ Below w.heap.size w w' := by
  have hu := Try.underlying28
  have HS := Aside0.mk (isSize_ok n)
  have hm := Kd.C_max hr
  by_cases h1 : (decide (1 ≤ n) && decide (n ≤ 7)) = true
  · rw [h1] at hn HS
    simp only [Bool.true_and, decide_eq_false_iff_not] at hn
    simp only [Bool.and_eq_true, decide_eq_true_eq] at h1
    obtain ⟨n0, n7⟩ := h1
    have hp := pow128 (n := n) (by omega) n7
    obtain ⟨j, hj⟩ : ∃ j, j = shl .i64 1 n := ⟨_, rfl⟩
    have hj' := shl_nat (i := n) (by omega) (by omega)
    obtain ⟨s1, s2, s3, s4, s5, s6, s7, s8⟩ := shl_ways hj.symm (by omega)
    have c1 : decide (j < (l.length : Int)) = true := decide_eq_true (by rw [hj, hj']; push_cast; omega)
    have c0 : (0 : Int) ≤ n := by omega
    clear hj hj' hn hp
    go_enter Try.func48, Try.ntmps48
    go_wp2_with ((with_reducible refine gate_dst (N := 1) rfl ?_); refine box_event ?hg (N := 1) ?hd (cs := #[.int .i64 n, .slice A l.length c]) (t := 28) ?hr ?_; (case hd => rfl); (case hg => rfl); (case hr => first | (go_simp; done) | (go_simp; rfl)); intro g ge W gb Wb; have HXg := Aside0.mk (SpBox.mk_ ge gb Wb); have gz0 := HXg.out.c0; have gz1 := HXg.out.c1; clear ge gb Wb)
    go_quiet (first | (go_at_call 96; (with_reducible refine (impl_isSize.calls _ _ _ HS.out).mono ?_); rintro e w' ⟨rfl, ⟨nd, rfl⟩⟩; (try first | exact ⟨rfl, _, World.drewN_drewN _ _ _⟩ | exact ⟨rfl, _, Eq.trans (World.drewN_drewN _ _ _) (congrArg (World.drewN _) (Nat.add_assoc _ _ _))⟩)))
    go_wp2
    go_ret
    exact ⟨rfl, by repeat (first | exact HXg.out.bel | apply pw_below_drewN | apply below_drew1)⟩
  · have h1' : (decide (1 ≤ n) && decide (n ≤ 7)) = false := by simpa using h1
    rw [h1'] at HS
    clear h1 h1' hn
    go_enter Try.func48, Try.ntmps48
    go_wp2_with ((with_reducible refine gate_dst (N := 1) rfl ?_); refine box_event ?hg (N := 1) ?hd (cs := #[.int .i64 n, .slice A l.length c]) (t := 28) ?hr ?_; (case hd => rfl); (case hg => rfl); (case hr => first | (go_simp; done) | (go_simp; rfl)); intro g ge W gb Wb; have HXg := Aside0.mk (SpBox.mk_ ge gb Wb); have gz0 := HXg.out.c0; have gz1 := HXg.out.c1; clear ge gb Wb)
    go_quiet (first | (go_at_call 96; (with_reducible refine (impl_isSize.calls _ _ _ HS.out).mono ?_); rintro e w' ⟨rfl, ⟨nd, rfl⟩⟩; (try first | exact ⟨rfl, _, World.drewN_drewN _ _ _⟩ | exact ⟨rfl, _, Eq.trans (World.drewN_drewN _ _ _) (congrArg (World.drewN _) (Nat.add_assoc _ _ _))⟩)))
    go_wp2
    go_ret
    exact ⟨rfl, by repeat (first | exact HXg.out.bel | apply pw_below_drewN | apply below_drew1)⟩
/-- What the first loop has seen. -/
def risen (n : Int) (l : List Int) (k : Nat) : Bool := (List.range k).all fun (i : Nat) => okAt n l i
theorem risen_succ (n : Int) (l : List Int) (k : Nat) : risen n l (k + 1) = (risen n l k && okAt n l k) := by simp [risen, List.range_succ]
theorem risen_not {n : Int} {l : List Int} {i : Int} (h0 : 0 ≤ i) (h : i < l.length) (hb : okAt n l i = false) : risingB n l = false := by
  rw [Bool.eq_false_iff]
  intro hc
  simp only [risingB, List.all_eq_true, List.mem_range] at hc
  have := hc i.toNat (by omega)
  rw [show ((i.toNat : Nat) : Int) = i by omega, hb] at this
  cases this
set_option maxHeartbeats 8000000 in
set_option maxRecDepth 100000 in
theorem impl_IsSpace.main (n : Int) (A : Option Addr) (c : Nat) (l : List Int) (w : World) (hr : Kd.C (Kd.int .i64) w A l.length l) (hc : l.length ≤ c) (hn : (decide (1 ≤ n) && decide (n ≤ 7) && decide ((l.length : Int) ≤ 2 ^ n.toNat)) = true) :
    Calls Try.prog 48 #[.agg #[.int .i64 n, .slice A l.length c]] w fun e w' => e = .returned (.bool (isSpaceB n l)) ∧ Below w.heap.size w w' := by
  have hu := Try.underlying28
  have HS := Aside0.mk (isSize_ok n)
  have hm := Kd.C_max hr
  have HR := Aside0.mk hr
  have HC := Aside0.mk hc
  have HE : Aside0 (isSpaceB n l = (risingB n l && (famOf l).getD 0 false && (famOf l).getD (2 ^ n.toNat - 1) false && unionsB (famOf l) l)) := ⟨by unfold isSpaceB; rw [hn]; simp⟩
  simp only [Bool.and_eq_true, decide_eq_true_eq] at hn
  obtain ⟨⟨n0, n7⟩, hlen⟩ := hn
  rw [show (decide (1 ≤ n) && decide (n ≤ 7)) = true by simp [n0, n7]] at HS
  have hp := pow128 (n := n) (by omega) n7
  obtain ⟨j, hj⟩ : ∃ j, j = shl .i64 1 n := ⟨_, rfl⟩
  have hj' := shl_nat (i := n) (by omega) (by omega)
  obtain ⟨s1, s2, s3, s4, s5, s6, s7, s8⟩ := shl_ways hj.symm (by omega)
  have c1 : decide (j < (l.length : Int)) = false := decide_eq_false (by rw [hj, hj']; push_cast; omega)
  have c0 : (0 : Int) ≤ n := by omega
  have HP := Aside0.mk hp
  clear hj hj' hr hc hp hlen
  go_enter Try.func48, Try.ntmps48
  go_wp2_with ((with_reducible refine gate_dst (N := 1) rfl ?_); refine box_event ?hg (N := 1) ?hd (cs := #[.int .i64 n, .slice A l.length c]) (t := 28) ?hr ?_; (case hd => rfl); (case hg => rfl); (case hr => first | (go_simp; done) | (go_simp; rfl)); intro g ge W gb Wb; have HXg := Aside0.mk (SpBox.mk_ ge gb Wb); have gz0 := HXg.out.c0; have gz1 := HXg.out.c1; clear ge gb Wb)
  go_quiet (first | (go_at_call 96; (with_reducible refine (impl_isSize.calls _ _ _ HS.out).mono ?_); rintro e w' ⟨rfl, ⟨nd, rfl⟩⟩; (try first | exact ⟨rfl, _, World.drewN_drewN _ _ _⟩ | exact ⟨rfl, _, Eq.trans (World.drewN_drewN _ _ _) (congrArg (World.drewN _) (Nat.add_assoc _ _ _))⟩)))
  go_wp2
  go_loopw [26] (fun v26 wr => ∃ i : Int, Aside0 (0 ≤ i ∧ i ≤ l.length) ∧ v26 = .int .i64 i ∧ Aside0 (risen n l i.toNat = true) ∧ Drawn0 W wr) (fun v26 _ => l.length - (intOf v26).toNat)
  case atStart => exact ⟨0, ⟨by omega⟩, rfl, ⟨rfl⟩, by repeat (first | exact Drawn0.refl _ | apply Drawn0.step)⟩
  case round =>
    obtain ⟨i, hi, rfl, hz, ⟨nd, rfl⟩⟩ := hrel
    by_cases hlt : i < l.length
    · have i0 := hi.out.1
      have HT := Aside0.mk (isSet_ok n (rd l i) c0 n7)
      have HN : Aside0 (risen n l (i + 1).toNat = okAt n l i) := ⟨by rw [show (i + 1).toNat = i.toNat + 1 by omega, risen_succ, hz.out, show ((i.toNat : Nat) : Int) = i by omega, Bool.true_and]⟩
      have HF : Aside0 (okAt n l i = false → isSpaceB n l = false) := ⟨fun h => by rw [HE.out, risen_not i0 hlt h]; rfl⟩
      have HO : Aside0 (okAt n l i = ((decide (0 ≤ rd l i) && decide (rd l i < 2 ^ n.toNat)) && (decide (i = 0) || decide (rd l (i - 1) < rd l i)))) := ⟨rfl⟩
      obtain ⟨ad, e, hcell⟩ := Kd.at_int (Kd.C_below HR.out HXg.out.bel) i i0 hlt
      have hcellp : 0 < i → W.cell? (ad.add (i - 1).toNat) = some (.int .i64 (rd l (i - 1))) := fun hpos => by
        obtain ⟨ad', e', hcell'⟩ := Kd.at_int (Kd.C_below HR.out HXg.out.bel) (i - 1) (by omega) (by omega)
        rw [e] at e'
        cases e'
        exact hcell'
      cases e
      generalize rd l i = x at *
      generalize rd l (i - 1) = y at *
      by_cases hin : (decide (0 ≤ x) && decide (x < 2 ^ n.toNat)) = true
      · rw [hin] at HT HO
        clear hin
        by_cases hpos : 0 < i
        · have hcp := hcellp hpos
          rw [show (i - 1).toNat = i.toNat - 1 by omega] at hcp
          have hi1 : (0 : Int) ≤ i - 1 := by omega
          have hi2 : i - 1 < l.length := by omega
          have b1 : decide (0 < i) = true := decide_eq_true hpos
          clear hcellp
          by_cases hyx : x ≤ y
          · have HB := Aside0.mk (HF.out (HO.out.trans (by simp; omega)))
            have b2 : decide (x ≤ y) = true := decide_eq_true hyx
            go_wp2_with (first | (go_at_call 97; (with_reducible refine (impl_isSet.calls _ _ _ _ HT.out).mono ?_); rintro e w' ⟨rfl, ⟨nd, rfl⟩⟩; (try first | exact ⟨rfl, _, World.drewN_drewN _ _ _⟩ | exact ⟨rfl, _, Eq.trans (World.drewN_drewN _ _ _) (congrArg (World.drewN _) (Nat.add_assoc _ _ _))⟩)))
            go_ret
            exact ⟨by rw [HB.out]; rfl, by repeat (first | exact HXg.out.bel | apply pw_below_drewN | apply below_drew1)⟩
          · have HB := Aside0.mk (HO.out.trans (show _ = true by simp; omega))
            have b2 : decide (x ≤ y) = false := decide_eq_false hyx
            go_wp2_with (first | (go_at_call 97; (with_reducible refine (impl_isSet.calls _ _ _ _ HT.out).mono ?_); rintro e w' ⟨rfl, ⟨nd, rfl⟩⟩; (try first | exact ⟨rfl, _, World.drewN_drewN _ _ _⟩ | exact ⟨rfl, _, Eq.trans (World.drewN_drewN _ _ _) (congrArg (World.drewN _) (Nat.add_assoc _ _ _))⟩)))
            go_roundw
            case rel => exact ⟨i + 1, ⟨by omega⟩, by first | rfl | go_num, ⟨by rw [HN.out, HB.out]⟩, by repeat (first | exact Drawn0.refl _ | apply Drawn0.step)⟩
            case measure => simp [intOf]; omega
        · have hi0 : i = 0 := by have := hi.out; omega
          have HB := Aside0.mk (HO.out.trans (show _ = true by simp [hi0]))
          have b1 : decide (0 < i) = false := decide_eq_false hpos
          clear hcellp hi0
          go_wp2_with (first | (go_at_call 97; (with_reducible refine (impl_isSet.calls _ _ _ _ HT.out).mono ?_); rintro e w' ⟨rfl, ⟨nd, rfl⟩⟩; (try first | exact ⟨rfl, _, World.drewN_drewN _ _ _⟩ | exact ⟨rfl, _, Eq.trans (World.drewN_drewN _ _ _) (congrArg (World.drewN _) (Nat.add_assoc _ _ _))⟩)))
          go_roundw
          case rel => exact ⟨i + 1, ⟨by omega⟩, by first | rfl | go_num, ⟨by rw [HN.out, HB.out]⟩, by repeat (first | exact Drawn0.refl _ | apply Drawn0.step)⟩
          case measure => simp [intOf]; omega
      · have hin' : (decide (0 ≤ x) && decide (x < 2 ^ n.toNat)) = false := by simpa using hin
        rw [hin'] at HT HO
        have HB := Aside0.mk (HF.out (HO.out.trans rfl))
        clear hin hin' hcellp
        go_wp2_with (first | (go_at_call 97; (with_reducible refine (impl_isSet.calls _ _ _ _ HT.out).mono ?_); rintro e w' ⟨rfl, ⟨nd, rfl⟩⟩; (try first | exact ⟨rfl, _, World.drewN_drewN _ _ _⟩ | exact ⟨rfl, _, Eq.trans (World.drewN_drewN _ _ _) (congrArg (World.drewN _) (Nat.add_assoc _ _ _))⟩)))
        go_ret
        exact ⟨by rw [HB.out]; rfl, by repeat (first | exact HXg.out.bel | apply pw_below_drewN | apply below_drew1)⟩
    · have HA : Aside0 (risingB n l = true) := ⟨by have := hz.out; rwa [show i.toNat = l.length by have := hi.out; omega] at this⟩
      have HI := Aside0.mk (show i = l.length by have := hi.out; omega)
      clear hz
      have HM : Aside0 (∀ x ∈ l, 0 ≤ x ∧ x < 128) := ⟨fun x hx => by have := risingB_mem HA.out hx; have := HP.out; omega⟩
      go_wp2_with (first | (go_at_call 80; (with_reducible refine (impl_Space_family.walk n _ _ l _ (Kd.C_drewN (Kd.C_below HR.out HXg.out.bel) _) HC.out HM.out).mono ?_); rintro e W2 ⟨b, rfl, HF, hbg, hbel⟩; have HX2 := Aside0.mk (HXg.out.next ((pw_below_drewN (Below.refl _ _) _).trans (hbel.mono (Nat.le_refl _)))); have HF := Aside0.mk HF; have k0 := HX2.out.c0; have k1 := HX2.out.c1; clear hbg hbel))
      have f0 := HF.out.at_ 0 (by decide) (by decide)
      rw [show (0 : Int).toNat = 0 from rfl] at f0
      obtain ⟨v0, hv0⟩ : ∃ v, v = (famOf l).getD 0 false := ⟨_, rfl⟩
      rw [← hv0] at f0
      have HV0 := Aside0.mk hv0
      clear hv0
      cases v0
      · have HB : Aside0 (isSpaceB n l = false) := ⟨by rw [HE.out, HA.out, ← HV0.out]; rfl⟩
        go_quiet (fail)
        go_wp2
        go_ret
        exact ⟨by rw [HB.out]; rfl, by repeat (first | exact HX2.out.bel | apply pw_below_drewN | apply below_drew1)⟩
      · have HAL := Aside0.mk (all_ok n l c0 n7)
        obtain ⟨m, hm2⟩ : ∃ m : Int, m = 2 ^ n.toNat - 1 := ⟨_, rfl⟩
        have m0 : 0 ≤ m := by have := HP.out; omega
        have m1 : m < 128 := by have := HP.out; omega
        have f1 := HF.out.at_ m m0 m1
        rw [← hm2] at HAL
        obtain ⟨v1, hv1⟩ : ∃ v, v = (famOf l).getD m.toNat false := ⟨_, rfl⟩
        rw [← hv1] at f1
        have HV1 := Aside0.mk hv1
        have HM2 := Aside0.mk hm2
        clear hv1 hm2
        have HK : Aside0 (∀ w', Below W2.heap.size W2 w' → Aside0 (Below W2.heap.size W2 w') ∧ w'.cell? ⟨g, 0, none⟩ = some (.int .i64 n) ∧ w'.cell? ⟨g, 1, none⟩ = some (.slice A l.length c) ∧ w'.cell? ⟨b, 0, none⟩ = some (.bool true) ∧ w'.cell? ⟨b, m.toNat, none⟩ = some (.bool v1)) :=
          ⟨fun w' hb => ⟨⟨hb⟩, pw_cell_below hb k0, pw_cell_below hb k1, pw_cell_below hb f0, pw_cell_below hb f1⟩⟩
        go_region_held3 (fun w' => Aside0 (Below W2.heap.size W2 w') ∧ w'.cell? ⟨g, 0, none⟩ = some (.int .i64 n) ∧ w'.cell? ⟨g, 1, none⟩ = some (.slice A l.length c) ∧ w'.cell? ⟨b, 0, none⟩ = some (.bool true) ∧ w'.cell? ⟨b, m.toNat, none⟩ = some (.bool v1)) (first | exact HK.out _ (below_drew1 (Below.refl _ _)) | exact HK.out _ (below_step (‹Aside0 (Below W2.heap.size W2 _) ∧ _›).1.out (by assumption))) (first | (go_at_call 98; (with_reducible refine (impl_Space_all.calls n _ _ l m _ ?sa ?sb HAL.out).mono ?_); (case sa => exact Kd.C_below (Kd.C_below HR.out HX2.out.bel) (‹Aside0 (Below W2.heap.size W2 _) ∧ _›).1.out); (case sb => exact HC.out); rintro e W3 ⟨rfl, hb3⟩))
        have HB3 := (‹Aside0 (Below W2.heap.size W2 _) ∧ _›).1
        have HX3 := Aside0.mk (HX2.out.next HB3.out)
        have HF3 := Aside0.mk (HF.out.below HB3.out)
        have q0 := HX3.out.c0
        have q1 := HX3.out.c1
        clear HK hb3 k0 k1 f0 f1
        cases v1
        · have HB : Aside0 (isSpaceB n l = false) := ⟨by rw [HE.out, HA.out, ← HV0.out, toNat_pow HM2.out, ← HV1.out]; rfl⟩
          go_wp2
          go_ret
          exact ⟨by rw [HB.out]; rfl, HX3.out.bel⟩
        · have HG : Aside0 (isSpaceB n l = unionsB (famOf l) l) := ⟨by rw [HE.out, HA.out, ← HV0.out, toNat_pow HM2.out, ← HV1.out]; rfl⟩
          clear HE HV0 HV1 HM2 m0 m1 HAL HS HX2 HF HXg gz0 gz1 s1 s2 s3 s4 s5 s6 s7 s8 HB3
          go_wp2
          go_loopw [70] (fun v70 wr => ∃ i : Int, Aside0 (0 ≤ i ∧ i ≤ l.length) ∧ v70 = .int .i64 i ∧ Aside0 (allTo (unionItem (famOf l) l) l i = true) ∧ Aside0 (Below W3.heap.size W3 wr)) (fun v70 _ => l.length - (intOf v70).toNat)
          case atStart => exact ⟨0, ⟨by omega⟩, rfl, ⟨rfl⟩, ⟨by repeat (first | exact Below.refl _ _ | apply pw_below_drewN | apply below_drew1)⟩⟩
          case round =>
            obtain ⟨k, hk, rfl, hz, HBr⟩ := hrel
            by_cases hlt : k < l.length
            · have k0 := hk.out.1
              have HZ := Aside0.mk (allTo_succ (unionItem (famOf l) l) l k k0 hlt)
              have HMEM := Aside0.mk (rd_mem k0 hlt)
              have HNOT : Aside0 (unionItem (famOf l) l (rd l k) = false → isSpaceB n l = false) := ⟨fun h => HG.out.trans (all_not HMEM.out h)⟩
              have hx := HM.out _ HMEM.out
              have HRA := Aside0.mk (Kd.C_below (Kd.C_below HR.out HX3.out.bel) HBr.out)
              have HXr := Aside0.mk (HX3.out.next HBr.out)
              have HFr := Aside0.mk (HF3.out.below HBr.out)
              obtain ⟨ad, e, hcell⟩ := Kd.at_int HRA.out k k0 hlt
              cases e
              clear q0 q1
              have q0 := HXr.out.c0
              have q1 := HXr.out.c1
              have hUI : unionItem (famOf l) l (rd l k) = ((decide (rd l k = 0) || !decide (innerF (famOf l) (rd l k).toNat = 0)) && unionRow (famOf l) l (rd l k)) := rfl
              generalize rd l k = x at *
              have HUI := Aside0.mk hUI
              clear hUI
              obtain ⟨x0, x1⟩ := hx
              by_cases hx0 : x = 0
              · have bx1 : (x == 0) = true := by simpa using hx0
                have bx2 : (x != 0) = false := by simpa using hx0
                have HX0 := Aside0.mk hx0
                clear hx0
                go_wp2
                go_loopw [85] (fun v85 w5 => ∃ i : Int, Aside0 (0 ≤ i ∧ i ≤ l.length) ∧ v85 = .int .i64 i ∧ Aside0 (allTo (fun y => (famOf l).getD (x.toNat ||| y.toNat) false) l i = true) ∧ Drawn0 wr w5) (fun v85 _ => l.length - (intOf v85).toNat)
                case atStart => exact ⟨0, ⟨by omega⟩, rfl, ⟨rfl⟩, by repeat (first | exact Drawn0.refl _ | apply Drawn0.step)⟩
                case round =>
                  obtain ⟨i, hi, rfl, hz5, ⟨nd5, rfl⟩⟩ := hrel
                  by_cases hlt5 : i < l.length
                  · have i0 := hi.out.1
                    have HZ5 := Aside0.mk (allTo_succ (fun y => (famOf l).getD (x.toNat ||| y.toNat) false) l i i0 hlt5)
                    have HMEM5 := Aside0.mk (rd_mem i0 hlt5)
                    have HNOT5 : Aside0 ((famOf l).getD (x.toNat ||| (rd l i).toNat) false = false → isSpaceB n l = false) := ⟨fun h => HNOT.out (HUI.out.trans (by rw [show unionRow (famOf l) l x = false from all_not HMEM5.out h, Bool.and_false]))⟩
                    have hy := HM.out _ HMEM5.out
                    obtain ⟨ad5, e5, hcell5⟩ := Kd.at_int HRA.out i i0 hlt5
                    cases e5
                    have hbo := bits_or x.toNat (rd l i).toNat (by omega) (by omega)
                    have hbl : x.toNat ||| (rd l i).toNat < 128 := Nat.or_lt_two_pow (n := 7) (by omega) (by omega)
                    rw [show ((x.toNat : Nat) : Int) = x by omega, show (((rd l i).toNat : Nat) : Int) = rd l i by omega] at hbo
                    generalize rd l i = y at *
                    obtain ⟨z, hz⟩ : ∃ z : Int, z = ((x.toNat ||| y.toNat : Nat) : Int) := ⟨_, rfl⟩
                    have z0 : 0 ≤ z := by omega
                    have z1 : z < 128 := by omega
                    have hzn : x.toNat ||| y.toNat = z.toNat := by omega
                    rw [← hz] at hbo
                    rw [hzn] at HZ5 HNOT5
                    clear hz hzn hbl hy
                    have hfc := HFr.out.at_ z z0 z1
                    obtain ⟨v, hv⟩ : ∃ v, v = (famOf l).getD z.toNat false := ⟨_, rfl⟩
                    rw [← hv] at hfc HZ5 HNOT5
                    clear hv
                    cases v
                    · have HB := Aside0.mk (HNOT5.out rfl)
                      go_wp2
                      go_ret
                      exact ⟨by rw [HB.out]; rfl, by repeat (first | exact HXr.out.bel | apply pw_below_drewN | apply below_drew1)⟩
                    · go_wp2
                      go_roundw
                      case rel => exact ⟨i + 1, ⟨by omega⟩, by first | rfl | go_num, ⟨by rw [HZ5.out, hz5.out]; rfl⟩, by repeat (first | exact Drawn0.refl _ | apply Drawn0.step)⟩
                      case measure => simp [intOf]; omega
                  · have HROW : Aside0 (unionRow (famOf l) l x = true) := ⟨by have := hz5.out; rw [allTo_end _ _ _ (by have := hi.out; omega)] at this; exact this⟩
                    have HDONE : Aside0 (unionItem (famOf l) l x = true) := ⟨HUI.out.trans (by rw [HROW.out]; simp [HX0.out])⟩
                    clear hz5
                    go_wp2
                    go_roundw
                    case rel => exact ⟨k + 1, ⟨by omega⟩, by first | rfl | go_num, ⟨by rw [HZ.out, hz.out, HDONE.out]; rfl⟩, ⟨by repeat (first | exact HBr.out | apply pw_below_drewN | apply below_drew1)⟩⟩
                    case measure => simp [intOf]; omega
              · have bx1 : (x == 0) = false := by simpa using hx0
                have bx2 : (x != 0) = true := by simpa using hx0
                by_cases hin : innerF (famOf l) x.toNat = 0
                · have HB := Aside0.mk (HNOT.out (HUI.out.trans (by simp [hx0, hin])))
                  have bi : (((innerF (famOf l) x.toNat : Nat) : Int) == 0) = true := by simp [hin]
                  clear hin hx0
                  go_wp2_with (first | (go_at_call 99; (with_reducible refine (impl_family_inner.walk b (famOf l) x _ HFr.out x0 x1).mono ?_); rintro e W4 ⟨rfl, hb4⟩))
                  go_ret
                  exact ⟨by rw [HB.out]; rfl, by repeat (first | exact (HXr.out.next hb4).bel | apply pw_below_drewN | apply below_drew1)⟩
                · have bi : (((innerF (famOf l) x.toNat : Nat) : Int) == 0) = false := by simpa using hin
                  go_wp2_with (first | (go_at_call 99; (with_reducible refine (impl_family_inner.walk b (famOf l) x _ HFr.out x0 x1).mono ?_); rintro e W4 ⟨rfl, hb4⟩; have HB4 := Aside0.mk hb4; clear hb4 q0 q1; have HX4 := Aside0.mk (HXr.out.next HB4.out); have q0 := HX4.out.c0; have q1 := HX4.out.c1))
                  have HR4 := Aside0.mk (Kd.C_below HRA.out HB4.out)
                  have HF4 := Aside0.mk (HFr.out.below HB4.out)
                  have HIN := Aside0.mk hin
                  clear hin hx0
                  go_loopw [85] (fun v85 w5 => ∃ i : Int, Aside0 (0 ≤ i ∧ i ≤ l.length) ∧ v85 = .int .i64 i ∧ Aside0 (allTo (fun y => (famOf l).getD (x.toNat ||| y.toNat) false) l i = true) ∧ Drawn0 W4 w5) (fun v85 _ => l.length - (intOf v85).toNat)
                  case atStart => exact ⟨0, ⟨by omega⟩, rfl, ⟨rfl⟩, by repeat (first | exact Drawn0.refl _ | apply Drawn0.step)⟩
                  case round =>
                    obtain ⟨i, hi, rfl, hz5, ⟨nd5, rfl⟩⟩ := hrel
                    by_cases hlt5 : i < l.length
                    · have i0 := hi.out.1
                      have HZ5 := Aside0.mk (allTo_succ (fun y => (famOf l).getD (x.toNat ||| y.toNat) false) l i i0 hlt5)
                      have HMEM5 := Aside0.mk (rd_mem i0 hlt5)
                      have HNOT5 : Aside0 ((famOf l).getD (x.toNat ||| (rd l i).toNat) false = false → isSpaceB n l = false) := ⟨fun h => HNOT.out (HUI.out.trans (by rw [show unionRow (famOf l) l x = false from all_not HMEM5.out h, Bool.and_false]))⟩
                      have hy := HM.out _ HMEM5.out
                      obtain ⟨ad5, e5, hcell5⟩ := Kd.at_int HR4.out i i0 hlt5
                      cases e5
                      have hbo := bits_or x.toNat (rd l i).toNat (by omega) (by omega)
                      have hbl : x.toNat ||| (rd l i).toNat < 128 := Nat.or_lt_two_pow (n := 7) (by omega) (by omega)
                      rw [show ((x.toNat : Nat) : Int) = x by omega, show (((rd l i).toNat : Nat) : Int) = rd l i by omega] at hbo
                      generalize rd l i = y at *
                      obtain ⟨z, hz⟩ : ∃ z : Int, z = ((x.toNat ||| y.toNat : Nat) : Int) := ⟨_, rfl⟩
                      have z0 : 0 ≤ z := by omega
                      have z1 : z < 128 := by omega
                      have hzn : x.toNat ||| y.toNat = z.toNat := by omega
                      rw [← hz] at hbo
                      rw [hzn] at HZ5 HNOT5
                      clear hz hzn hbl hy
                      have hfc := HF4.out.at_ z z0 z1
                      obtain ⟨v, hv⟩ : ∃ v, v = (famOf l).getD z.toNat false := ⟨_, rfl⟩
                      rw [← hv] at hfc HZ5 HNOT5
                      clear hv
                      cases v
                      · have HB := Aside0.mk (HNOT5.out rfl)
                        go_wp2
                        go_ret
                        exact ⟨by rw [HB.out]; rfl, by repeat (first | exact HX4.out.bel | apply pw_below_drewN | apply below_drew1)⟩
                      · go_wp2
                        go_roundw
                        case rel => exact ⟨i + 1, ⟨by omega⟩, by first | rfl | go_num, ⟨by rw [HZ5.out, hz5.out]; rfl⟩, by repeat (first | exact Drawn0.refl _ | apply Drawn0.step)⟩
                        case measure => simp [intOf]; omega
                    · have HROW : Aside0 (unionRow (famOf l) l x = true) := ⟨by have := hz5.out; rw [allTo_end _ _ _ (by have := hi.out; omega)] at this; exact this⟩
                      have HDONE : Aside0 (unionItem (famOf l) l x = true) := ⟨HUI.out.trans (by rw [HROW.out]; simp [HIN.out])⟩
                      clear hz5
                      go_wp2
                      go_roundw
                      case rel =>
                        ((repeat apply Exists.intro); exact ⟨⟨k + 1, ⟨by omega⟩, by first | rfl | go_num, ⟨by rw [HZ.out, hz.out, HDONE.out]; rfl⟩, ⟨by repeat (first | exact (below_step HBr.out HB4.out) | apply pw_below_drewN | apply below_drew1)⟩⟩, rfl, rfl, rfl, rfl⟩)
                      case measure => simp [intOf]; omega
            · have HB : Aside0 (isSpaceB n l = true) := ⟨by have := hz.out; rw [allTo_end _ _ _ (by have := hk.out; omega)] at this; exact HG.out.trans this⟩
              clear hz
              go_wp2
              go_ret
              exact ⟨by rw [HB.out]; rfl, by repeat (first | exact (HX3.out.next HBr.out).bel | apply pw_below_drewN | apply below_drew1)⟩

theorem impl_IsSpace.calls (a0_0 : Int) (A0_1 : Option Addr) (c0_1 : Nat) (l0_1 : List Int) (r : Bool) (w : World) (hr0_1 : Kd.C (Kd.int .i64) w A0_1 l0_1.length l0_1) (hc0_1 : l0_1.length ≤ c0_1) (h : impl_IsSpace.f a0_0 l0_1 = some r) :
    Calls Try.prog 48 #[.agg #[.int .i64 a0_0, .slice A0_1 l0_1.length c0_1]] w fun e w' => e = .returned (.bool r) ∧ Below w.heap.size w w' := by
  obtain rfl := Option.some.inj h
  by_cases hn : (decide (1 ≤ a0_0) && decide (a0_0 ≤ 7) && decide ((l0_1.length : Int) ≤ 2 ^ a0_0.toNat)) = true
  · exact impl_IsSpace.main a0_0 A0_1 c0_1 l0_1 w hr0_1 hc0_1 hn
  · have hn' : (decide (1 ≤ a0_0) && decide (a0_0 ≤ 7) && decide ((l0_1.length : Int) ≤ 2 ^ a0_0.toNat)) = false := by simpa using hn
    rw [show isSpaceB a0_0 l0_1 = false by unfold isSpaceB; rw [hn']; rfl]
    exact impl_IsSpace.early a0_0 A0_1 c0_1 l0_1 w hr0_1 hn'

-- HAND impl_newAsker: function 49
set_option maxHeartbeats 8000000 in
set_option maxRecDepth 100000 in
theorem impl_newAsker.calls (n : Int) (A : Option Addr) (c : Nat) (l : List Int) (w : World) :
    Calls Try.prog 49 #[.agg #[.int .i64 n, .slice A l.length c]] w fun e w' => ∃ (g : Nat) (m1 m2 : Value), e = .returned (.pointer (some ⟨g, 0, none⟩)) ∧ w'.heap[g]? = some (.cells #[.int .i64 n, .slice A l.length c, m1, m2] 106 (0, 0)) ∧ w.heap.size ≤ g ∧ Below w.heap.size w w' := by
  have hu := Try.underlying28
  have hu2 := Try.underlying106
  have hmm := @run_makeMap Try.prog
  go_enter Try.func49, Try.ntmps49
  go_wp2_with ((with_reducible refine gate_dst (N := 1) rfl ?_); refine box_event ?hg (N := 1) ?hd (cs := #[.int .i64 n, .slice A l.length c]) (t := 28) ?hr ?_; (case hd => rfl); (case hg => rfl); (case hr => first | (go_simp; done) | (go_simp; rfl)); intro g ge W gb Wb; have HXg := Aside0.mk (SpBox.mk_ ge gb Wb); have gz0 := HXg.out.c0; have gz1 := HXg.out.c1; clear ge gb Wb)
  go_ret
  refine ⟨W.heap.size + 1 + 1, .map (some W.heap.size), .map (some (W.heap.size + 1)), rfl, ?_, ?_, ?_⟩
  · show (((W.heap.push _).push _).push _)[W.heap.size + 1 + 1]? = some _
    rw [show W.heap.size + 1 + 1 = ((W.heap.push (.map #[] 0)).push (.map #[] 0)).size by simp]
    exact Array.getElem?_push_size
  · have := below_size HXg.out.bel
    omega
  · exact below_alloc (below_alloc (below_alloc HXg.out.bel _) _) _

/-! ### impl_run: function 71 -/
def impl_run.l0 : Nat → Int → FnII → List Int → Int → Int → Int → Option (List Int)
  | 0, _, _, _, _, _, _ => none
  | k + 1, x0, x1, x5, x6, x7, x8 => if x8 ≥ 0 then (if x5.length < 17592186044416 then ((some (x5 ++ [x8] : List Int)).bind fun y105 => (if 0 ≤ x8 then (if (Go.bits .and .i64 (shr .i64 x0 x8) 1) = 1 then ((FnII.f x1 (Go.bits .or .i64 x6 (shl .i64 1 x8)) x7).bind fun t108 => (impl_run.l0 k x0 x1 y105 (Go.bits .or .i64 x6 (shl .i64 1 x8)) x7 t108)) else ((FnII.f x1 x6 (Go.bits .or .i64 x7 (shl .i64 1 x8))).bind fun t109 => (impl_run.l0 k x0 x1 y105 x6 (Go.bits .or .i64 x7 (shl .i64 1 x8)) t109))) else (none))) else (none)) else (some x5)
def impl_run.f (k : Nat) (a0 : Int) (a1 : FnII) : Option (List Int) := (FnII.f a1 0 0).bind fun t104 => (impl_run.l0 k a0 a1 (([] : List Int)) 0 0 t104)
theorem impl_run.mono_l : ∀ k, (∀ y0 y1 y2 y3 y4 y5, LeO (impl_run.l0 k y0 y1 y2 y3 y4 y5) (impl_run.l0 (k + 1) y0 y1 y2 y3 y4 y5))
  | 0 => fun _ _ _ _ _ _ r h => by simp [impl_run.l0] at h
  | k + 1 => by
    have ih0 := impl_run.mono_l k
    · intro y0 y1 y2 y3 y4 y5
      unfold impl_run.l0
      repeat' first
      | (with_reducible exact ih0 _ _ _ _ _ _)
      | (with_reducible exact LeO.refl _)
      | (with_reducible exact LeO.none _)
      | (with_reducible refine LeO.ite ?_ ?_)
      | (with_reducible refine LeO.bind ?_ (fun _ => ?_))
      | exact ih0 _ _ _ _ _ _
      | exact LeO.none _
      | refine LeO.ite ?_ ?_
      | refine LeO.bind ?_ (fun _ => ?_)
theorem impl_run.mono : ∀ a0 a1 k, LeO (impl_run.f k a0 a1) (impl_run.f (k + 1) a0 a1) := by
  intro a0 a1 k
  have ih0 := impl_run.mono_l k
  unfold impl_run.f
  repeat' first
      | (with_reducible exact ih0 _ _ _ _ _ _)
      | (with_reducible exact LeO.refl _)
      | (with_reducible exact LeO.none _)
      | (with_reducible refine LeO.ite ?_ ?_)
      | (with_reducible refine LeO.bind ?_ (fun _ => ?_))
      | exact ih0 _ _ _ _ _ _
      | exact LeO.none _
      | refine LeO.ite ?_ ?_
      | refine LeO.bind ?_ (fun _ => ?_)
set_option maxHeartbeats 8000000 in
set_option maxRecDepth 100000 in
theorem impl_run.calls (k : Nat) (a0 : Int) (a1 : FnII) (ga1 : Nat) (rba1 : Array Value) (lba1 : Array Value) (r : List Int) (w : World) (HFa1 : Aside0 (FnII.Ok a1 ga1 rba1 lba1 w)) (eg1 : ∀ args w, (callFunc ga1 args).run Try.prog w = .ok (.enter ga1 args) w) (h : impl_run.f k a0 a1 = some r) :
    Calls Try.prog 71 #[.int .i64 a0, .func (.func ga1) rba1 lba1] w fun e w' => ∃ v0_ : Value, e = .returned (v0_) ∧ Kd.R (Kd.int .i64) 3 w' w.heap.size (fun _ => True) v0_ r ∧ Below w.heap.size w w' := by
  have HB := Aside0.mk (Below.refl w.heap.size w)
  have H : ((FnII.f a1 0 0).bind fun t104 => (impl_run.l0 k a0 a1 (([] : List Int)) 0 0 t104)) = some r := h
  clear h
  obtain ⟨y101, hy101⟩ : ∃ y_ : List Int, y_ = (([] : List Int)) := ⟨_, rfl⟩
  replace H : ((FnII.f a1 0 0).bind fun t104 => (impl_run.l0 k a0 a1 y101 0 0 t104)) = some r := by first | (rw [hy101]; with_reducible exact H) | (have H2_ := (Option.bind_some _ _).symm.trans H; rw [hy101]; with_reducible exact H2_) | (have H2_ := (Option.bind_some _ _).symm.trans H; with_reducible exact H2_) | with_reducible exact H | (rw [hy101]; exact H) | exact H
  have Ny101 := Aside0.mk hy101
  clear hy101
  replace H := Option.bind_eq_some_iff.mp H
  obtain ⟨t104, A30, H⟩ := H
  replace H : (impl_run.l0 k a0 a1 y101 0 0 t104) = some r := H
  have A3 := Aside0.mk A30
  clear A30
  have H' := Aside0.mk H
  clear H
  go_enter Try.func71, Try.ntmps71
  go_wp2_with (first | ((with_reducible refine gate_dst (N := 9) rfl ?_); refine Kd.R_lit (Kd.int .i64) _ 3 ?hg (N := 9) ?hd (xs := ([] : List Int)) (inner := []) (ok := fun _ => True) (okp := fun _ => True) ?hr ?hp (fun _ hk => hk) trivial (Below.refl _ _) (Nat.le_refl _) (by simp) ?_; (case hd => rfl); (case hg => rfl); (case hr => first | (go_simp; done) | (go_simp; rfl)); (case hp => exact (Reps.none _ _)); intro v102 w4 ho5 hb hg_ hnew_; clear hg_ hnew_; (first | rw [← Ny101.out] at ho5 | (simp only [Int.reduceToNat] at ho5; rw [← Ny101.out] at ho5)); have n0_ := Aside0.mk (Kd.R_lower ho5 (below_size (by repeat (first | (with_reducible first | exact HB.out | apply below_alloc | apply pw_below_drewN | apply below_drew1) | exact HB.out)))); have n1_ := Aside0.mk (below_step (by repeat (first | (with_reducible first | exact HB.out | apply below_alloc | apply pw_below_drewN | apply below_drew1) | exact HB.out)) hb); clear HB; have HO103 := n0_; have HB := n1_; clear n0_ n1_; clear hb ho5) | (go_at_fn ga1; (with_reducible refine (FnII.calls a1 0 0 t104 _ ?side1 A3.out).mono ?_); (case side1 => exact FnII.Ok.below HFa1.out (by repeat (first | (with_reducible first | exact HB.out | apply below_alloc | apply pw_below_drewN | apply below_drew1) | exact HB.out))); rintro e w6 ⟨rfl, hb⟩; have n0_ := Aside0.mk (Kd.R_below (by (with_reducible repeat (first | apply Kd.R_alloc | apply Kd.R_drewN | apply Kd.R_drew)); exact HO103.out) hb); have n1_ := Aside0.mk (below_step (by repeat (first | (with_reducible first | exact HB.out | apply below_alloc | apply pw_below_drewN | apply below_drew1) | exact HB.out)) hb); clear HO103; clear HB; have HO103 := n0_; have HB := n1_; clear n0_ n1_; (try clear hb); (try clear hb2); (try clear hk); (try clear hi)))
  go_loopg [5, 6, 7, 8] k (fun kq v5 v6 v7 v8 w' => ∃ (x5_1 : List Int) (x6_1 : Int) (x7_1 : Int) (x8_1 : Int), v6 = .int .i64 x6_1 ∧ v7 = .int .i64 x7_1 ∧ v8 = .int .i64 x8_1 ∧ Aside0 (impl_run.l0 kq a0 a1 x5_1 x6_1 x7_1 x8_1 = some r) ∧ Aside0 (kq ≤ k) ∧ Aside0 (Kd.R (Kd.int .i64) 3 w' w.heap.size (fun _ => True) v5 x5_1) ∧ Aside0 (Below w.heap.size w w'))
  case atStart => exact ⟨(y101), (0), (0), (t104), (by first | rfl | (simp; done) | (simp [*]; done)), (by first | rfl | (simp; done) | (simp [*]; done)), (by first | rfl | (simp; done) | (simp [*]; done)), H', ⟨Nat.le_refl _⟩, ⟨by (with_reducible repeat (first | apply Kd.R_alloc | apply Kd.R_drewN | apply Kd.R_drew)); exact HO103.out⟩, ⟨by repeat (first | (with_reducible first | exact HB.out | apply below_alloc | apply pw_below_drewN | apply below_drew1) | exact HB.out)⟩⟩
  case round =>
    clear H'
    try clear p2
    obtain ⟨x5_1, x6_1, x7_1, x8_1, rfl, rfl, rfl, HA, HK1, HO_5, HB⟩ := hrel
    cases gk with
    | zero => exact absurd HA.out (by simp [impl_run.l0])
    | succ k1 =>
      have H := HA.out
      clear HA
      simp only [impl_run.l0] at H
      by_cases c7 : x8_1 ≥ 0
      · rw [if_pos c7] at H
        have c7b0 : decide (0 ≤ x8_1) = true := decide_eq_true c7
        clear c7
        by_cases c8 : x5_1.length < 17592186044416
        · rw [if_pos c8] at H
          have LMc8 := Aside0.mk c8
          clear c8
          obtain ⟨y105, hy105⟩ : ∃ y_ : List Int, y_ = (x5_1 ++ [x8_1]) := ⟨_, rfl⟩
          replace H : (if 0 ≤ x8_1 then (if (Go.bits .and .i64 (shr .i64 a0 x8_1) 1) = 1 then ((FnII.f a1 (Go.bits .or .i64 x6_1 (shl .i64 1 x8_1)) x7_1).bind fun t108 => (impl_run.l0 k1 a0 a1 y105 (Go.bits .or .i64 x6_1 (shl .i64 1 x8_1)) x7_1 t108)) else ((FnII.f a1 x6_1 (Go.bits .or .i64 x7_1 (shl .i64 1 x8_1))).bind fun t109 => (impl_run.l0 k1 a0 a1 y105 x6_1 (Go.bits .or .i64 x7_1 (shl .i64 1 x8_1)) t109))) else (none)) = some r := by first | (rw [hy105]; with_reducible exact H) | (have H2_ := (Option.bind_some _ _).symm.trans H; rw [hy105]; with_reducible exact H2_) | (have H2_ := (Option.bind_some _ _).symm.trans H; with_reducible exact H2_) | with_reducible exact H | (rw [hy105]; exact H) | exact H
          have Ny105 := Aside0.mk hy105
          clear hy105
          by_cases c9 : 0 ≤ x8_1
          · rw [if_pos c9] at H
            have c9b0 := eq_true c9
            have c9b1 : decide (0 ≤ x8_1) = true := decide_eq_true c9
            clear c9
            obtain ⟨ji10, hji10⟩ : ∃ j_ : Int, (shr .i64 a0 x8_1) = j_ := ⟨_, rfl⟩
            replace H : (if (Go.bits .and .i64 (ji10) 1) = 1 then ((FnII.f a1 (Go.bits .or .i64 x6_1 (shl .i64 1 x8_1)) x7_1).bind fun t108 => (impl_run.l0 k1 a0 a1 y105 (Go.bits .or .i64 x6_1 (shl .i64 1 x8_1)) x7_1 t108)) else ((FnII.f a1 x6_1 (Go.bits .or .i64 x7_1 (shl .i64 1 x8_1))).bind fun t109 => (impl_run.l0 k1 a0 a1 y105 x6_1 (Go.bits .or .i64 x7_1 (shl .i64 1 x8_1)) t109))) = some r := by first | (rw [hji10] at H; exact H) | (simp only [hji10] at H ⊢; exact H)
            have hji10_ : (a0 / 2 ^ min x8_1.toNat 64) = ji10 := hji10
            have hji10z : x8_1 ≤ 64 → (a0 / 2 ^ x8_1.toNat) = ji10 := shr_small hji10
            by_cases c11 : (Go.bits .and .i64 (ji10) 1) = 1
            · rw [if_pos c11] at H
              have c11b0 : ((Go.bits .and .i64 (ji10) 1) == 1) = true := beq_iff_eq.mpr c11
              have c11b1 : ((Go.bits .and .i64 (ji10) 1) != 1) = false := bne_eq_false_iff_eq.mpr c11
              clear c11
              have c12b0 := eq_true (of_decide_eq_true (by first | (with_reducible assumption) | assumption) : 0 ≤ x8_1)
              obtain ⟨ji13, hji13⟩ : ∃ j_ : Int, (shl .i64 1 x8_1) = j_ := ⟨_, rfl⟩
              replace H : ((FnII.f a1 (Go.bits .or .i64 x6_1 (ji13)) x7_1).bind fun t108 => (impl_run.l0 k1 a0 a1 y105 (Go.bits .or .i64 x6_1 (ji13)) x7_1 t108)) = some r := by first | (rw [hji13] at H; exact H) | (simp only [hji13] at H ⊢; exact H)
              have hji13_ : (IntKind.i64.wrap (1 * 2 ^ min x8_1.toNat 64)) = ji13 := hji13
              have hji13z : x8_1 ≤ 64 → (IntKind.i64.wrap (1 * 2 ^ x8_1.toNat)) = ji13 := shl_small hji13
              have hji13u : (IntKind.i64.wrap (2 ^ min x8_1.toNat 64)) = ji13 := by have h_ := hji13_; rw [Int.one_mul] at h_; exact h_
              have hji13v : x8_1 ≤ 64 → (IntKind.i64.wrap (2 ^ x8_1.toNat)) = ji13 := fun hle_ => by have h_ := hji13z hle_; rw [Int.one_mul] at h_; exact h_
              have hji13y : (wrap64 (1 * 2 ^ min x8_1.toNat 64)) = ji13 := (i64_w _).symm.trans hji13_
              have hji13x : x8_1 ≤ 64 → (wrap64 (1 * 2 ^ x8_1.toNat)) = ji13 := fun h_ => (i64_w _).symm.trans (hji13z h_)
              replace H := Option.bind_eq_some_iff.mp H
              obtain ⟨t108, A140, H⟩ := H
              replace H : (impl_run.l0 k1 a0 a1 y105 (Go.bits .or .i64 x6_1 (ji13)) x7_1 t108) = some r := H
              have A14 := Aside0.mk A140
              clear A140
              have H' := Aside0.mk H
              clear H
              go_wp2_with (first | ((with_reducible refine gate_builtin (b := .append) (xs := #[.tmp 20, .tmp 22]) rfl ?_); at_builtin; refine Kd.R_append (Kd.int .i64) (w0 := w) w.heap.size rfl (.tmp 20) (.tmp 22) 22 3 (.int .i64 0) 8 rfl Try.underlying22 info3 rfl (by decide) (by omega) u5 x5_1 x8_1 [.int .i64 x8_1] (fun _ => True) (fun _ => False) rfl rfl ?aP (fun _ hk => hk.elim) ?aF ?aO ?aB ?aS ?aL ?_; (case aP => exact rfl); (case aB => exact (by repeat (first | (with_reducible first | exact HB.out | apply below_alloc | apply pw_below_drewN | apply below_drew1) | exact HB.out))); (case aF => exact (fun _ _ => trivial)); (case aO => exact (by (with_reducible repeat (first | apply Kd.R_alloc | apply Kd.R_drewN | apply Kd.R_drew)); exact HO_5.out)); (case aS => exact (below_size (by repeat (first | (with_reducible first | exact HB.out | apply below_alloc | apply pw_below_drewN | apply below_drew1) | exact HB.out)))); (case aL => have := LMc8.out; omega); intro v106 w15 ho hb hg hat; rw [← Ny105.out] at ho; have n0_ := Aside0.mk (hb); have n1_ := Aside0.mk (ho); clear HB; clear HO_5; have HB := n0_; have HO107 := n1_; clear n0_ n1_; clear ho hb hg hat) | (go_at_fn ga1; (with_reducible refine (FnII.calls a1 (Go.bits .or .i64 x6_1 (ji13)) x7_1 t108 _ ?side1 A14.out).mono ?_); (case side1 => exact FnII.Ok.below HFa1.out (by repeat (first | (with_reducible first | exact HB.out | apply below_alloc | apply pw_below_drewN | apply below_drew1) | exact HB.out))); rintro e w16 ⟨rfl, hb⟩; have n0_ := Aside0.mk (Kd.R_below (by (with_reducible repeat (first | apply Kd.R_alloc | apply Kd.R_drewN | apply Kd.R_drew)); exact HO107.out) hb); have n1_ := Aside0.mk (below_step (by repeat (first | (with_reducible first | exact HB.out | apply below_alloc | apply pw_below_drewN | apply below_drew1) | exact HB.out)) hb); clear HO107; clear HB; have HO107 := n0_; have HB := n1_; clear n0_ n1_; (try clear hb); (try clear hb2); (try clear hk); (try clear hi)))
              go_roundg k1
              case measure => have := HK1.out; omega
              case rel => exact ⟨(y105), (Go.bits .or .i64 x6_1 (ji13)), (x7_1), (t108), (by first | rfl | (simp; done) | (simp only [← hji13] <;> (first | rfl | simp)) | (simp [*]; done)), (by first | rfl | (simp; done) | (simp [*]; done)), (by first | rfl | (simp; done) | (simp [*]; done)), H', ⟨by have := HK1.out; omega⟩, ⟨by (with_reducible repeat (first | apply Kd.R_alloc | apply Kd.R_drewN | apply Kd.R_drew)); exact HO107.out⟩, ⟨by repeat (first | (with_reducible first | exact HB.out | apply below_alloc | apply pw_below_drewN | apply below_drew1) | exact HB.out)⟩⟩
            · rw [if_neg c11] at H
              have c11b0 : ((Go.bits .and .i64 (ji10) 1) == 1) = false := beq_eq_false_iff_ne.mpr c11
              have c11b1 : ((Go.bits .and .i64 (ji10) 1) != 1) = true := bne_iff_ne.mpr c11
              have c17b0 := eq_true (of_decide_eq_true (by first | (with_reducible assumption) | assumption) : 0 ≤ x8_1)
              obtain ⟨ji18, hji18⟩ : ∃ j_ : Int, (shl .i64 1 x8_1) = j_ := ⟨_, rfl⟩
              replace H : ((FnII.f a1 x6_1 (Go.bits .or .i64 x7_1 (ji18))).bind fun t109 => (impl_run.l0 k1 a0 a1 y105 x6_1 (Go.bits .or .i64 x7_1 (ji18)) t109)) = some r := by first | (rw [hji18] at H; exact H) | (simp only [hji18] at H ⊢; exact H)
              have hji18_ : (IntKind.i64.wrap (1 * 2 ^ min x8_1.toNat 64)) = ji18 := hji18
              have hji18z : x8_1 ≤ 64 → (IntKind.i64.wrap (1 * 2 ^ x8_1.toNat)) = ji18 := shl_small hji18
              have hji18u : (IntKind.i64.wrap (2 ^ min x8_1.toNat 64)) = ji18 := by have h_ := hji18_; rw [Int.one_mul] at h_; exact h_
              have hji18v : x8_1 ≤ 64 → (IntKind.i64.wrap (2 ^ x8_1.toNat)) = ji18 := fun hle_ => by have h_ := hji18z hle_; rw [Int.one_mul] at h_; exact h_
              have hji18y : (wrap64 (1 * 2 ^ min x8_1.toNat 64)) = ji18 := (i64_w _).symm.trans hji18_
              have hji18x : x8_1 ≤ 64 → (wrap64 (1 * 2 ^ x8_1.toNat)) = ji18 := fun h_ => (i64_w _).symm.trans (hji18z h_)
              replace H := Option.bind_eq_some_iff.mp H
              obtain ⟨t109, A190, H⟩ := H
              replace H : (impl_run.l0 k1 a0 a1 y105 x6_1 (Go.bits .or .i64 x7_1 (ji18)) t109) = some r := H
              have A19 := Aside0.mk A190
              clear A190
              have H' := Aside0.mk H
              clear H
              go_wp2_with (first | ((with_reducible refine gate_builtin (b := .append) (xs := #[.tmp 20, .tmp 22]) rfl ?_); at_builtin; refine Kd.R_append (Kd.int .i64) (w0 := w) w.heap.size rfl (.tmp 20) (.tmp 22) 22 3 (.int .i64 0) 8 rfl Try.underlying22 info3 rfl (by decide) (by omega) u5 x5_1 x8_1 [.int .i64 x8_1] (fun _ => True) (fun _ => False) rfl rfl ?aP (fun _ hk => hk.elim) ?aF ?aO ?aB ?aS ?aL ?_; (case aP => exact rfl); (case aB => exact (by repeat (first | (with_reducible first | exact HB.out | apply below_alloc | apply pw_below_drewN | apply below_drew1) | exact HB.out))); (case aF => exact (fun _ _ => trivial)); (case aO => exact (by (with_reducible repeat (first | apply Kd.R_alloc | apply Kd.R_drewN | apply Kd.R_drew)); exact HO_5.out)); (case aS => exact (below_size (by repeat (first | (with_reducible first | exact HB.out | apply below_alloc | apply pw_below_drewN | apply below_drew1) | exact HB.out)))); (case aL => have := LMc8.out; omega); intro v106 w20 ho hb hg hat; rw [← Ny105.out] at ho; have n0_ := Aside0.mk (hb); have n1_ := Aside0.mk (ho); clear HB; clear HO_5; have HB := n0_; have HO107 := n1_; clear n0_ n1_; clear ho hb hg hat) | (go_at_fn ga1; (with_reducible refine (FnII.calls a1 x6_1 (Go.bits .or .i64 x7_1 (ji18)) t109 _ ?side1 A19.out).mono ?_); (case side1 => exact FnII.Ok.below HFa1.out (by repeat (first | (with_reducible first | exact HB.out | apply below_alloc | apply pw_below_drewN | apply below_drew1) | exact HB.out))); rintro e w21 ⟨rfl, hb⟩; have n0_ := Aside0.mk (Kd.R_below (by (with_reducible repeat (first | apply Kd.R_alloc | apply Kd.R_drewN | apply Kd.R_drew)); exact HO107.out) hb); have n1_ := Aside0.mk (below_step (by repeat (first | (with_reducible first | exact HB.out | apply below_alloc | apply pw_below_drewN | apply below_drew1) | exact HB.out)) hb); clear HO107; clear HB; have HO107 := n0_; have HB := n1_; clear n0_ n1_; (try clear hb); (try clear hb2); (try clear hk); (try clear hi)))
              go_roundg k1
              case measure => have := HK1.out; omega
              case rel => exact ⟨(y105), (x6_1), (Go.bits .or .i64 x7_1 (ji18)), (t109), (by first | rfl | (simp; done) | (simp [*]; done)), (by first | rfl | (simp; done) | (simp only [← hji18] <;> (first | rfl | simp)) | (simp [*]; done)), (by first | rfl | (simp; done) | (simp [*]; done)), H', ⟨by have := HK1.out; omega⟩, ⟨by (with_reducible repeat (first | apply Kd.R_alloc | apply Kd.R_drewN | apply Kd.R_drew)); exact HO107.out⟩, ⟨by repeat (first | (with_reducible first | exact HB.out | apply below_alloc | apply pw_below_drewN | apply below_drew1) | exact HB.out)⟩⟩
          · rw [if_neg c9] at H
            exact absurd H (by simp)
        · rw [if_neg c8] at H
          exact absurd H (by simp)
      · rw [if_neg c7] at H
        have c7b0 : decide (0 ≤ x8_1) = false := decide_eq_false c7
        clear c7
        obtain rfl := Option.some.inj H
        go_wp2
        go_ret
        exact ⟨_, by first | rfl | (simp [errW_none, errW_some] <;> rfl) | (simp [*, errW_none, errW_some] <;> rfl), by (with_reducible repeat (first | apply Kd.R_alloc | apply Kd.R_drewN | apply Kd.R_drew)); exact HO_5.out, by repeat (first | (with_reducible first | exact HB.out | apply below_alloc | apply pw_below_drewN | apply below_drew1) | exact HB.out)⟩

/-! ### impl_part: function 102 -/
def impl_part.f (a0 : Int) (a1 : Int) : Option (Bool) := some ((Go.bits .andNot .i64 a0 a1) == 0)
set_option maxHeartbeats 8000000 in
set_option maxRecDepth 100000 in
theorem impl_part.calls (a0 : Int) (a1 : Int) (r : Bool) (w : World) (h : impl_part.f a0 a1 = some r) :
    Calls Try.prog 102 #[.int .i64 a0, .int .i64 a1] w fun e w' => e = .returned (.bool r) ∧ Drawn0 w w' := by
  have H : (some ((Go.bits .andNot .i64 a0 a1) == 0)) = some r := h
  clear h
  obtain rfl := Option.some.inj H
  go_enter Try.func102, Try.ntmps102
  go_wp2
  go_ret
  exact ⟨by first | rfl | (simp; done) | (simp [*]; done), by repeat (first | exact Drawn0.refl _ | apply Drawn0.step)⟩

-- HAND with impl.part
theorem part_ok {x y : Int} (hx : I128 x) (hy : I128 y) : impl_part.f x y = some (decide (nd x.toNat y.toNat = 0)) := by
  unfold impl_part.f
  rw [nd_int hx hy]
  congr 1
  rw [Bool.eq_iff_iff, beq_iff_eq, decide_eq_true_eq]
  omega

/-! ### impl_Space_left: function 56 -/
def impl_Space_left.l0 : Nat → Int → Int → List Int → List Int → Int → Int → Option (List Int)
  | 0, _, _, _, _, _, _ => none
  | k + 1, x1, x2, x7, x12, x13, x14 => if x14 < x13 then (if 0 ≤ x14 then (if x14 < (x12.length : Int) then ((impl_part.f x1 (rd x12 x14)).bind fun t106 => (if t106 = true then (if (Go.bits .and .i64 (rd x12 x14) x2) = 0 then (if x7.length < 17592186044416 then (impl_Space_left.l0 k x1 x2 (x7 ++ [rd x12 x14]) x12 x13 (wrap64 (x14 + 1))) else (none)) else (impl_Space_left.l0 k x1 x2 x7 x12 x13 (wrap64 (x14 + 1)))) else (impl_Space_left.l0 k x1 x2 x7 x12 x13 (wrap64 (x14 + 1))))) else (none)) else (none)) else (some x7)
def impl_Space_left.f (k : Nat) (a0_0 : Int) (l0_1 : List Int) (a1 : Int) (a2 : Int) : Option (List Int) := impl_Space_left.l0 k a1 a2 (([] : List Int)) l0_1 (l0_1.length : Int) 0
theorem impl_Space_left.mono_l : ∀ k, (∀ y0 y1 y2 y3 y4 y5, LeO (impl_Space_left.l0 k y0 y1 y2 y3 y4 y5) (impl_Space_left.l0 (k + 1) y0 y1 y2 y3 y4 y5))
  | 0 => fun _ _ _ _ _ _ r h => by simp [impl_Space_left.l0] at h
  | k + 1 => by
    have ih0 := impl_Space_left.mono_l k
    · intro y0 y1 y2 y3 y4 y5
      unfold impl_Space_left.l0
      repeat' first
      | (with_reducible exact ih0 _ _ _ _ _ _)
      | (with_reducible exact LeO.refl _)
      | (with_reducible exact LeO.none _)
      | (with_reducible refine LeO.ite ?_ ?_)
      | (with_reducible refine LeO.bind ?_ (fun _ => ?_))
      | exact ih0 _ _ _ _ _ _
      | exact LeO.none _
      | refine LeO.ite ?_ ?_
      | refine LeO.bind ?_ (fun _ => ?_)
theorem impl_Space_left.mono : ∀ a0 a1 a2 a3 k, LeO (impl_Space_left.f k a0 a1 a2 a3) (impl_Space_left.f (k + 1) a0 a1 a2 a3) := by
  intro a0 a1 a2 a3 k
  have ih0 := impl_Space_left.mono_l k
  unfold impl_Space_left.f
  repeat' first
      | (with_reducible exact ih0 _ _ _ _ _ _)
      | (with_reducible exact LeO.refl _)
      | (with_reducible exact LeO.none _)
      | (with_reducible refine LeO.ite ?_ ?_)
      | (with_reducible refine LeO.bind ?_ (fun _ => ?_))
      | exact ih0 _ _ _ _ _ _
      | exact LeO.none _
      | refine LeO.ite ?_ ?_
      | refine LeO.bind ?_ (fun _ => ?_)
set_option maxHeartbeats 8000000 in
set_option maxRecDepth 100000 in
theorem impl_Space_left.calls (k : Nat) (a0_0 : Int) (A0_1 : Option Addr) (c0_1 : Nat) (l0_1 : List Int) (a1 : Int) (a2 : Int) (r : List Int) (w : World) (hr0_1 : Kd.C (Kd.int .i64) w A0_1 l0_1.length l0_1) (hc0_1 : l0_1.length ≤ c0_1) (h : impl_Space_left.f k a0_0 l0_1 a1 a2 = some r) :
    Calls Try.prog 56 #[.agg #[.int .i64 a0_0, .slice A0_1 l0_1.length c0_1], .int .i64 a1, .int .i64 a2] w fun e w' => ∃ v0_ : Value, e = .returned (v0_) ∧ Kd.R (Kd.int .i64) 3 w' w.heap.size (fun _ => True) v0_ r ∧ Below w.heap.size w w' := by
  have hu28 := Try.underlying28
  have HR0_1 := Aside0.mk hr0_1
  have HC0_1 := Aside0.mk hc0_1
  clear hr0_1 hc0_1
  have HB := Aside0.mk (Below.refl w.heap.size w)
  have H : (impl_Space_left.l0 k a1 a2 (([] : List Int)) l0_1 (l0_1.length : Int) 0) = some r := h
  clear h
  obtain ⟨y102, hy102⟩ : ∃ y_ : List Int, y_ = (([] : List Int)) := ⟨_, rfl⟩
  replace H : (impl_Space_left.l0 k a1 a2 y102 l0_1 (l0_1.length : Int) 0) = some r := by first | (rw [hy102]; with_reducible exact H) | (have H2_ := (Option.bind_some _ _).symm.trans H; rw [hy102]; with_reducible exact H2_) | (have H2_ := (Option.bind_some _ _).symm.trans H; with_reducible exact H2_) | with_reducible exact H | (rw [hy102]; exact H) | exact H
  have Ny102 := Aside0.mk hy102
  clear hy102
  have H' := Aside0.mk H
  clear H
  go_enter Try.func56, Try.ntmps56
  go_wp2_with (first | ((with_reducible refine gate_dst (N := 3) rfl ?_); refine box_event ?hg (N := 3) ?hd (cs := #[.int .i64 a0_0, .slice A0_1 l0_1.length c0_1]) (t := 28) ?hr ?_; (case hd => rfl); (case hg => rfl); (case hr => first | (go_simp; done) | (go_simp; rfl)); intro gb101 hg w4 hbox hb; have n0_ := Aside0.mk (below_step (by repeat (first | (with_reducible first | exact HB.out | apply below_alloc | apply pw_below_drewN | apply below_drew1) | exact HB.out)) hb); have n1_ := Aside0.mk (hbox); have n2_ := Aside0.mk ((by rw [hg]; exact (below_size (by repeat (first | (with_reducible first | exact HB.out | apply below_alloc | apply pw_below_drewN | apply below_drew1) | exact HB.out))) : w.heap.size ≤ gb101)); have n3_ := Aside0.mk ((by rw [hg]; exact (below_size (by repeat (first | (with_reducible first | exact HB.out | apply below_alloc | apply pw_below_drewN | apply below_drew1) | exact HB.out))) : w.heap.size ≤ gb101)); clear HB; have HB := n0_; have BK101 := n1_; have GW101 := n2_; have GE101 := n3_; clear n0_ n1_ n2_ n3_; clear hb hbox hg) | ((with_reducible refine gate_dst (N := 10) rfl ?_); refine Kd.R_lit (Kd.int .i64) _ 3 ?hg (N := 10) ?hd (xs := ([] : List Int)) (inner := []) (ok := fun _ => True) (okp := fun _ => True) ?hr ?hp (fun _ hk => hk) trivial (Below.refl _ _) (Nat.le_refl _) (by simp) ?_; (case hd => rfl); (case hg => rfl); (case hr => first | (go_simp; done) | (go_simp; rfl)); (case hp => exact (Reps.none _ _)); intro v103 w5 ho6 hb hg_ hnew_; clear hg_ hnew_; (first | rw [← Ny102.out] at ho6 | (simp only [Int.reduceToNat] at ho6; rw [← Ny102.out] at ho6)); have n0_ := Aside0.mk (Kd.R_lower ho6 (below_size (by repeat (first | (with_reducible first | exact HB.out | apply below_alloc | apply pw_below_drewN | apply below_drew1 | refine below_set ?_ GE101.out) | exact HB.out)))); have n1_ := Aside0.mk (blk_below (g := gb101) (o := .cells #[.int .i64 a0_0, .slice A0_1 l0_1.length c0_1] 28 (0, 0)) (by (with_reducible repeat (first | refine blk_drewN ?_ _ | refine blk_drew ?_ | refine blk_alloc ?_ _)); exact BK101.out) hb); have n2_ := Aside0.mk (below_step (by repeat (first | (with_reducible first | exact HB.out | apply below_alloc | apply pw_below_drewN | apply below_drew1 | refine below_set ?_ GE101.out) | exact HB.out)) hb); clear BK101; clear HB; have HO104 := n0_; have BK101 := n1_; have HB := n2_; clear n0_ n1_ n2_; clear hb ho6; have hcz7_0 : w5.cell? ⟨gb101, 0, none⟩ = some (.int .i64 a0_0) := (blk_cell BK101.out 0).trans rfl; have hcz7_1 : w5.cell? ⟨gb101, 1, none⟩ = some (.slice A0_1 l0_1.length c0_1) := (blk_cell BK101.out 1).trans rfl; have hfz7_0 := blk_frozen BK101.out 0; have hfz7_1 := blk_frozen BK101.out 1))
  go_loopg [7, 14] k (fun kq v7 v14 w' => ∃ (x7_1 : List Int) (x14_1 : Int), v14 = .int .i64 x14_1 ∧ Aside0 (impl_Space_left.l0 kq a1 a2 x7_1 l0_1 (l0_1.length : Int) x14_1 = some r) ∧ Aside0 (kq ≤ k) ∧ Aside0 (Kd.R (Kd.int .i64) 3 w' w.heap.size (fun _ => True) v7 x7_1) ∧ Aside0 (w'.heap[gb101]? = some (.cells #[.int .i64 a0_0, (.slice A0_1 l0_1.length c0_1)] 28 (0, 0))) ∧ Aside0 (Below w.heap.size w w'))
  case atStart => exact ⟨(y102), (0), (by first | rfl | (simp; done) | (simp [*]; done)), H', ⟨Nat.le_refl _⟩, ⟨by (with_reducible repeat (first | apply Kd.R_alloc | apply Kd.R_drewN | apply Kd.R_drew)); exact HO104.out⟩, ⟨by (with_reducible repeat (first | refine blk_drewN ?_ _ | refine blk_drew ?_ | refine blk_alloc ?_ _)); exact BK101.out⟩, ⟨by repeat (first | (with_reducible first | exact HB.out | apply below_alloc | apply pw_below_drewN | apply below_drew1 | refine below_set ?_ GE101.out) | exact HB.out)⟩⟩
  case round =>
    clear H'
    try clear p2
    try clear c5
    try clear hcz7_0
    try clear hcz7_1
    try clear hfz7_0
    try clear hfz7_1
    obtain ⟨x7_1, x14_1, rfl, HA, HK1, HO_7, BK101, HB⟩ := hrel
    cases gk with
    | zero => exact absurd HA.out (by simp [impl_Space_left.l0])
    | succ k1 =>
      have H := HA.out
      clear HA
      simp only [impl_Space_left.l0] at H
      by_cases c8 : x14_1 < (l0_1.length : Int)
      · rw [if_pos c8] at H
        have c8b0 : decide (x14_1 < (l0_1.length : Int)) = true := decide_eq_true c8
        clear c8
        by_cases c9 : 0 ≤ x14_1
        · rw [if_pos c9] at H
          have c9b0 : decide (0 ≤ x14_1) = true := decide_eq_true c9
          clear c9
          by_cases c10 : x14_1 < (l0_1.length : Int)
          · rw [if_pos c10] at H
            have c10b0 : decide (x14_1 < (l0_1.length : Int)) = true := decide_eq_true c10
            clear c10
            replace H := Option.bind_eq_some_iff.mp H
            obtain ⟨t106, A110, H⟩ := H
            replace H : (if t106 = true then (if (Go.bits .and .i64 (rd l0_1 x14_1) a2) = 0 then (if x7_1.length < 17592186044416 then (impl_Space_left.l0 k1 a1 a2 (x7_1 ++ [rd l0_1 x14_1]) l0_1 (l0_1.length : Int) (wrap64 (x14_1 + 1))) else (none)) else (impl_Space_left.l0 k1 a1 a2 x7_1 l0_1 (l0_1.length : Int) (wrap64 (x14_1 + 1)))) else (impl_Space_left.l0 k1 a1 a2 x7_1 l0_1 (l0_1.length : Int) (wrap64 (x14_1 + 1)))) = some r := H
            have A11 := Aside0.mk A110
            clear A110
            by_cases c12 : t106 = true
            · subst c12
              have H1 : (if (Go.bits .and .i64 (rd l0_1 x14_1) a2) = 0 then (if x7_1.length < 17592186044416 then (impl_Space_left.l0 k1 a1 a2 (x7_1 ++ [rd l0_1 x14_1]) l0_1 (l0_1.length : Int) (wrap64 (x14_1 + 1))) else (none)) else (impl_Space_left.l0 k1 a1 a2 x7_1 l0_1 (l0_1.length : Int) (wrap64 (x14_1 + 1)))) = some r := by rw [if_pos rfl] at H; exact H
              clear H
              have H := H1
              clear H1
              by_cases c13 : (Go.bits .and .i64 (rd l0_1 x14_1) a2) = 0
              · rw [if_pos c13] at H
                have c13b0 : ((Go.bits .and .i64 (rd l0_1 x14_1) a2) == 0) = true := beq_iff_eq.mpr c13
                have c13b1 : ((Go.bits .and .i64 (rd l0_1 x14_1) a2) != 0) = false := bne_eq_false_iff_eq.mpr c13
                clear c13
                by_cases c14 : x7_1.length < 17592186044416
                · rw [if_pos c14] at H
                  have LMc14 := Aside0.mk c14
                  clear c14
                  obtain ⟨y107, hy107⟩ : ∃ y_ : List Int, y_ = (x7_1 ++ [rd l0_1 x14_1]) := ⟨_, rfl⟩
                  replace H : (impl_Space_left.l0 k1 a1 a2 y107 l0_1 (l0_1.length : Int) (wrap64 (x14_1 + 1))) = some r := by first | (rw [hy107]; with_reducible exact H) | (have H2_ := (Option.bind_some _ _).symm.trans H; rw [hy107]; with_reducible exact H2_) | (have H2_ := (Option.bind_some _ _).symm.trans H; with_reducible exact H2_) | with_reducible exact H | (rw [hy107]; exact H) | exact H
                  have Ny107 := Aside0.mk hy107
                  clear hy107
                  have H' := Aside0.mk H
                  clear H
                  have p105 : 0 ≤ (x14_1 : Int) := of_decide_eq_true (by first | (with_reducible assumption) | assumption)
                  have q105 : x14_1 < (l0_1.length : Int) := of_decide_eq_true (by first | (with_reducible assumption) | assumption)
                  obtain ⟨ad105, e105, hx105_0⟩ := Kd.at_int HR0_1.out x14_1 p105 q105
                  cases e105
                  replace hx105_0 := (HB.out.cell (World.block_lt_of_cell? w _ hx105_0)).trans hx105_0
                  replace p105 := eq_true p105
                  replace q105 := eq_true q105
                  go_wp2_with (first | ((with_reducible refine gate_callee (f := 102) rfl ?_); refine goesL_ (some 20) rfl rfl Try.func102 (by kernel_rfl) rfl #[.int .i64 a1, .int .i64 (rd l0_1 x14_1)] rfl (by (try simp only [List.map_toArray, List.map_cons, List.map_nil]); first | done | rfl | (simp only [List.length_drop, List.length_take]; rfl)) ?_; (with_reducible refine (impl_part.calls a1 (rd l0_1 x14_1) true _ A11.out).mono ?_); rintro e w' ⟨rfl, ⟨nd, rfl⟩⟩; refine ⟨_, rfl, ?_⟩) | ((with_reducible refine gate_builtin (b := .append) (xs := #[.tmp 27, .tmp 29]) rfl ?_); at_builtin; refine Kd.R_append (Kd.int .i64) (w0 := w) w.heap.size rfl (.tmp 27) (.tmp 29) 22 3 (.int .i64 0) 8 rfl Try.underlying22 info3 rfl (by decide) (by omega) u7 x7_1 (rd l0_1 x14_1) [.int .i64 (rd l0_1 x14_1)] (fun _ => True) (fun _ => False) rfl rfl ?aP (fun _ hk => hk.elim) ?aF ?aO ?aB ?aS ?aL ?_; (case aP => exact rfl); (case aB => exact (by repeat (first | (with_reducible first | exact HB.out | apply below_alloc | apply pw_below_drewN | apply below_drew1 | refine below_set ?_ GE101.out) | exact HB.out))); (case aF => exact (fun _ _ => trivial)); (case aO => exact (by (with_reducible repeat (first | apply Kd.R_alloc | apply Kd.R_drewN | apply Kd.R_drew)); exact HO_7.out)); (case aS => exact (below_size (by repeat (first | (with_reducible first | exact HB.out | apply below_alloc | apply pw_below_drewN | apply below_drew1 | refine below_set ?_ GE101.out) | exact HB.out)))); (case aL => have := LMc14.out; omega); intro v108 w15 ho hb hg hat; rw [← Ny107.out] at ho; have n0_ := Aside0.mk (blk_grown (g := gb101) (o := .cells #[.int .i64 a0_0, .slice (some ad105) l0_1.length c0_1] 28 (0, 0)) (by (with_reducible repeat (first | refine blk_drewN ?_ _ | refine blk_drew ?_ | refine blk_alloc ?_ _)); exact BK101.out) hg (Kd.R_ne HO_7.out BK101.out (by decide))); have n1_ := Aside0.mk (hb); have n2_ := Aside0.mk (ho); clear BK101; clear HB; clear HO_7; have BK101 := n0_; have HB := n1_; have HO109 := n2_; clear n0_ n1_ n2_; clear ho hb hg hat))
                  go_roundg k1
                  case measure => have := HK1.out; omega
                  case rel => exact ⟨(y107), (wrap64 (x14_1 + 1)), (by first | rfl | (simp; done) | (simp [*]; done)), H', ⟨by have := HK1.out; omega⟩, ⟨by (with_reducible repeat (first | apply Kd.R_alloc | apply Kd.R_drewN | apply Kd.R_drew)); exact HO109.out⟩, ⟨by (with_reducible repeat (first | refine blk_drewN ?_ _ | refine blk_drew ?_ | refine blk_alloc ?_ _)); exact BK101.out⟩, ⟨by repeat (first | (with_reducible first | exact HB.out | apply below_alloc | apply pw_below_drewN | apply below_drew1 | refine below_set ?_ GE101.out) | exact HB.out)⟩⟩
                · rw [if_neg c14] at H
                  exact absurd H (by simp)
              · rw [if_neg c13] at H
                have c13b0 : ((Go.bits .and .i64 (rd l0_1 x14_1) a2) == 0) = false := beq_eq_false_iff_ne.mpr c13
                have c13b1 : ((Go.bits .and .i64 (rd l0_1 x14_1) a2) != 0) = true := bne_iff_ne.mpr c13
                have H' := Aside0.mk H
                clear H
                have p105 : 0 ≤ (x14_1 : Int) := of_decide_eq_true (by first | (with_reducible assumption) | assumption)
                have q105 : x14_1 < (l0_1.length : Int) := of_decide_eq_true (by first | (with_reducible assumption) | assumption)
                obtain ⟨ad105, e105, hx105_0⟩ := Kd.at_int HR0_1.out x14_1 p105 q105
                cases e105
                replace hx105_0 := (HB.out.cell (World.block_lt_of_cell? w _ hx105_0)).trans hx105_0
                replace p105 := eq_true p105
                replace q105 := eq_true q105
                go_wp2_with (first | ((with_reducible refine gate_callee (f := 102) rfl ?_); refine goesL_ (some 20) rfl rfl Try.func102 (by kernel_rfl) rfl #[.int .i64 a1, .int .i64 (rd l0_1 x14_1)] rfl (by (try simp only [List.map_toArray, List.map_cons, List.map_nil]); first | done | rfl | (simp only [List.length_drop, List.length_take]; rfl)) ?_; (with_reducible refine (impl_part.calls a1 (rd l0_1 x14_1) true _ A11.out).mono ?_); rintro e w' ⟨rfl, ⟨nd, rfl⟩⟩; refine ⟨_, rfl, ?_⟩))
                go_roundg k1
                case measure => have := HK1.out; omega
                case rel => exact ⟨(x7_1), (wrap64 (x14_1 + 1)), (by first | rfl | (simp; done) | (simp [*]; done)), H', ⟨by have := HK1.out; omega⟩, ⟨by (with_reducible repeat (first | apply Kd.R_alloc | apply Kd.R_drewN | apply Kd.R_drew)); exact HO_7.out⟩, ⟨by (with_reducible repeat (first | refine blk_drewN ?_ _ | refine blk_drew ?_ | refine blk_alloc ?_ _)); exact BK101.out⟩, ⟨by repeat (first | (with_reducible first | exact HB.out | apply below_alloc | apply pw_below_drewN | apply below_drew1 | refine below_set ?_ GE101.out) | exact HB.out)⟩⟩
            · replace c12 := Bool.eq_false_iff.mpr c12
              subst c12
              have H1 : (impl_Space_left.l0 k1 a1 a2 x7_1 l0_1 (l0_1.length : Int) (wrap64 (x14_1 + 1))) = some r := by rw [if_neg (show ¬ (false = true) by decide)] at H; exact H
              clear H
              have H := H1
              clear H1
              have H' := Aside0.mk H
              clear H
              have p105 : 0 ≤ (x14_1 : Int) := of_decide_eq_true (by first | (with_reducible assumption) | assumption)
              have q105 : x14_1 < (l0_1.length : Int) := of_decide_eq_true (by first | (with_reducible assumption) | assumption)
              obtain ⟨ad105, e105, hx105_0⟩ := Kd.at_int HR0_1.out x14_1 p105 q105
              cases e105
              replace hx105_0 := (HB.out.cell (World.block_lt_of_cell? w _ hx105_0)).trans hx105_0
              replace p105 := eq_true p105
              replace q105 := eq_true q105
              go_wp2_with (first | ((with_reducible refine gate_callee (f := 102) rfl ?_); refine goesL_ (some 20) rfl rfl Try.func102 (by kernel_rfl) rfl #[.int .i64 a1, .int .i64 (rd l0_1 x14_1)] rfl (by (try simp only [List.map_toArray, List.map_cons, List.map_nil]); first | done | rfl | (simp only [List.length_drop, List.length_take]; rfl)) ?_; (with_reducible refine (impl_part.calls a1 (rd l0_1 x14_1) false _ A11.out).mono ?_); rintro e w' ⟨rfl, ⟨nd, rfl⟩⟩; refine ⟨_, rfl, ?_⟩))
              go_roundg k1
              case measure => have := HK1.out; omega
              case rel => exact ⟨(x7_1), (wrap64 (x14_1 + 1)), (by first | rfl | (simp; done) | (simp [*]; done)), H', ⟨by have := HK1.out; omega⟩, ⟨by (with_reducible repeat (first | apply Kd.R_alloc | apply Kd.R_drewN | apply Kd.R_drew)); exact HO_7.out⟩, ⟨by (with_reducible repeat (first | refine blk_drewN ?_ _ | refine blk_drew ?_ | refine blk_alloc ?_ _)); exact BK101.out⟩, ⟨by repeat (first | (with_reducible first | exact HB.out | apply below_alloc | apply pw_below_drewN | apply below_drew1 | refine below_set ?_ GE101.out) | exact HB.out)⟩⟩
          · rw [if_neg c10] at H
            exact absurd H (by simp)
        · rw [if_neg c9] at H
          exact absurd H (by simp)
      · rw [if_neg c8] at H
        have c8b0 : decide (x14_1 < (l0_1.length : Int)) = false := decide_eq_false c8
        clear c8
        obtain rfl := Option.some.inj H
        go_wp2
        go_ret
        exact ⟨_, by first | rfl | (simp [errW_none, errW_some] <;> rfl) | (simp [*, errW_none, errW_some] <;> rfl), by (with_reducible repeat (first | apply Kd.R_alloc | apply Kd.R_drewN | apply Kd.R_drew)); exact HO_7.out, by repeat (first | (with_reducible first | exact HB.out | apply below_alloc | apply pw_below_drewN | apply below_drew1 | refine below_set ?_ GE101.out) | exact HB.out)⟩

-- HAND with (impl.Space).left
theorem left_loop (l : List Int) (y n : Int) (hy : I128 y) (hn : I128 n) (hM : ∀ x ∈ l, I128 x) (hlen : l.length < 17592186044416) : ∀ (b a out : List Int), a ++ b = l → out.length ≤ a.length → Ev (fun k => impl_Space_left.l0 k y n out l l.length a.length) (out ++ b.filter (keeps y n))
  | [], a, out, hab, ho => by
    rw [List.append_nil] at hab
    subst hab
    exact Ev.succ (fun k => by simp only [impl_Space_left.l0]; rw [if_neg (by omega)]) (Ev.const (by simp))
  | x :: b, a, out, hab, ho => by
    have hlt : a.length < l.length := by rw [← hab]; simp
    have hrd : rd l (a.length : Int) = x := by rw [← hab]; exact rd_append a b x
    have hx := hM x (by rw [← hab]; simp)
    have hk : keeps y n x = (decide (nd y.toNat x.toNat = 0) && decide (x.toNat &&& n.toNat = 0)) := rfl
    have hrest : ∀ out' : List Int, out'.length ≤ a.length + 1 → Ev (fun k => impl_Space_left.l0 k y n out' l l.length (wrap64 ((a.length : Int) + 1))) (out' ++ b.filter (keeps y n)) := fun out' ho' => by
      have := left_loop l y n hy hn hM hlen b (a ++ [x]) out' (by rw [List.append_assoc]; exact hab) (by simpa using ho')
      rw [List.length_append, List.length_singleton] at this
      rw [wrap_succ (by omega) (by omega)]
      push_cast at this
      exact this
    refine Ev.succ (fun k => by simp only [impl_Space_left.l0]; rw [if_pos (by omega), if_pos (by omega), if_pos (by omega), hrd]) ?_
    refine Ev.bindc (part_ok hy hx) ?_
    cases h1 : decide (nd y.toNat x.toNat = 0) with
    | false =>
      rw [List.filter_cons_of_neg (by rw [hk, h1]; simp)]
      exact Ev.to (fun k => by rw [if_neg (by decide)]) (hrest out (by omega))
    | true =>
      by_cases h2 : x.toNat &&& n.toNat = 0
      · rw [List.filter_cons_of_pos (by rw [hk, h1]; simpa using h2)]
        refine Ev.to (fun k => by rw [if_pos rfl, and_int hx hn, if_pos (by omega), if_pos (by omega)]) (Ev.val (hrest (out ++ [x]) (by simp; omega)) (by simp))
      · rw [List.filter_cons_of_neg (by rw [hk, h1]; simpa using h2)]
        exact Ev.to (fun k => by rw [if_pos rfl, and_int hx hn, if_neg (by omega)]) (hrest out (by omega))
theorem left_ok {l : List Int} (a0 : Int) {y n : Int} (hy : I128 y) (hn : I128 n) (hM : ∀ x ∈ l, I128 x) (hlen : l.length < 17592186044416) : Ev (fun k => impl_Space_left.f k a0 l y n) (leftL l y n) := left_loop l y n hy hn hM hlen l [] [] rfl (Nat.le_refl _)

/-! ### impl_open: function 100 -/
def impl_open.l0 : Nat → Int → Int → List Int → Int → Int → Option (List Int)
  | 0, _, _, _, _, _ => none
  | k + 1, x3, x4, x7, x8, x9 => if x9 < x8 then (if 0 ≤ x9 then (if x9 < (x7.length : Int) then (impl_open.l0 k (Go.bits .and .i64 x3 (rd x7 x9)) (Go.bits .or .i64 x4 (rd x7 x9)) x7 x8 (wrap64 (x9 + 1))) else (none)) else (none)) else ((impl_items.f k (Go.bits .andNot .i64 x4 x3)).bind fun t102 => (some t102))
def impl_open.f (k : Nat) (l0 : List Int) : Option (List Int) := impl_open.l0 k 127 0 l0 (l0.length : Int) 0
theorem impl_open.mono_l : ∀ k, (∀ y0 y1 y2 y3 y4, LeO (impl_open.l0 k y0 y1 y2 y3 y4) (impl_open.l0 (k + 1) y0 y1 y2 y3 y4))
  | 0 => fun _ _ _ _ _ r h => by simp [impl_open.l0] at h
  | k + 1 => by
    have ih0 := impl_open.mono_l k
    · intro y0 y1 y2 y3 y4
      unfold impl_open.l0
      repeat' first
      | (with_reducible exact ih0 _ _ _ _ _)
      | (with_reducible exact impl_items.mono _ _)
      | (with_reducible exact LeO.refl _)
      | (with_reducible exact LeO.none _)
      | (with_reducible refine LeO.ite ?_ ?_)
      | (with_reducible refine LeO.bind ?_ (fun _ => ?_))
      | exact ih0 _ _ _ _ _
      | exact impl_items.mono _ _
      | exact LeO.none _
      | refine LeO.ite ?_ ?_
      | refine LeO.bind ?_ (fun _ => ?_)
theorem impl_open.mono : ∀ a0 k, LeO (impl_open.f k a0) (impl_open.f (k + 1) a0) := by
  intro a0 k
  have ih0 := impl_open.mono_l k
  unfold impl_open.f
  repeat' first
      | (with_reducible exact ih0 _ _ _ _ _)
      | (with_reducible exact impl_items.mono _ _)
      | (with_reducible exact LeO.refl _)
      | (with_reducible exact LeO.none _)
      | (with_reducible refine LeO.ite ?_ ?_)
      | (with_reducible refine LeO.bind ?_ (fun _ => ?_))
      | exact ih0 _ _ _ _ _
      | exact impl_items.mono _ _
      | exact LeO.none _
      | refine LeO.ite ?_ ?_
      | refine LeO.bind ?_ (fun _ => ?_)
set_option maxHeartbeats 8000000 in
set_option maxRecDepth 100000 in
theorem impl_open.calls (k : Nat) (A0 : Option Addr) (c0 : Nat) (l0 : List Int) (r : List Int) (w : World) (hr0 : Kd.C (Kd.int .i64) w A0 l0.length l0) (hc0 : l0.length ≤ c0) (h : impl_open.f k l0 = some r) :
    Calls Try.prog 100 #[.slice A0 l0.length c0] w fun e w' => ∃ v0_ : Value, e = .returned (v0_) ∧ Kd.R (Kd.int .i64) 3 w' w.heap.size (fun _ => True) v0_ r ∧ Below w.heap.size w w' := by
  have HR0 := Aside0.mk hr0
  have HC0 := Aside0.mk hc0
  clear hr0 hc0
  have HB := Aside0.mk (Below.refl w.heap.size w)
  have H : (impl_open.l0 k 127 0 l0 (l0.length : Int) 0) = some r := h
  clear h
  have H' := Aside0.mk H
  clear H
  go_enter Try.func100, Try.ntmps100
  go_wp2
  go_loopg [3, 4, 9] k (fun kq v3 v4 v9 w' => ∃ (x3_1 : Int) (x4_1 : Int) (x9_1 : Int), v3 = .int .i64 x3_1 ∧ v4 = .int .i64 x4_1 ∧ v9 = .int .i64 x9_1 ∧ Aside0 (impl_open.l0 kq x3_1 x4_1 l0 (l0.length : Int) x9_1 = some r) ∧ Aside0 (kq ≤ k) ∧ Aside0 (Below w.heap.size w w'))
  case atStart => exact ⟨(127), (0), (0), (by first | rfl | (simp; done) | (simp [*]; done)), (by first | rfl | (simp; done) | (simp [*]; done)), (by first | rfl | (simp; done) | (simp [*]; done)), H', ⟨Nat.le_refl _⟩, ⟨by repeat (first | (with_reducible first | exact HB.out | apply below_alloc | apply pw_below_drewN | apply below_drew1) | exact HB.out)⟩⟩
  case round =>
    clear H'
    try clear c1
    obtain ⟨x3_1, x4_1, x9_1, rfl, rfl, rfl, HA, HK1, HB⟩ := hrel
    cases gk with
    | zero => exact absurd HA.out (by simp [impl_open.l0])
    | succ k1 =>
      have H := HA.out
      clear HA
      simp only [impl_open.l0] at H
      by_cases c2 : x9_1 < (l0.length : Int)
      · rw [if_pos c2] at H
        have c2b0 : decide (x9_1 < (l0.length : Int)) = true := decide_eq_true c2
        clear c2
        by_cases c3 : 0 ≤ x9_1
        · rw [if_pos c3] at H
          have c3b0 : decide (0 ≤ x9_1) = true := decide_eq_true c3
          clear c3
          by_cases c4 : x9_1 < (l0.length : Int)
          · rw [if_pos c4] at H
            have c4b0 : decide (x9_1 < (l0.length : Int)) = true := decide_eq_true c4
            clear c4
            have H' := Aside0.mk H
            clear H
            have p101 : 0 ≤ (x9_1 : Int) := of_decide_eq_true (by first | (with_reducible assumption) | assumption)
            have q101 : x9_1 < (l0.length : Int) := of_decide_eq_true (by first | (with_reducible assumption) | assumption)
            obtain ⟨ad101, e101, hx101_0⟩ := Kd.at_int HR0.out x9_1 p101 q101
            cases e101
            replace hx101_0 := (HB.out.cell (World.block_lt_of_cell? w _ hx101_0)).trans hx101_0
            replace p101 := eq_true p101
            replace q101 := eq_true q101
            go_wp2
            go_roundg k1
            case measure => have := HK1.out; omega
            case rel => exact ⟨(Go.bits .and .i64 x3_1 (rd l0 x9_1)), (Go.bits .or .i64 x4_1 (rd l0 x9_1)), (wrap64 (x9_1 + 1)), (by first | rfl | (simp; done) | (simp [*]; done)), (by first | rfl | (simp; done) | (simp [*]; done)), (by first | rfl | (simp; done) | (simp [*]; done)), H', ⟨by have := HK1.out; omega⟩, ⟨by repeat (first | (with_reducible first | exact HB.out | apply below_alloc | apply pw_below_drewN | apply below_drew1) | exact HB.out)⟩⟩
          · rw [if_neg c4] at H
            exact absurd H (by simp)
        · rw [if_neg c3] at H
          exact absurd H (by simp)
      · rw [if_neg c2] at H
        have c2b0 : decide (x9_1 < (l0.length : Int)) = false := decide_eq_false c2
        clear c2
        replace H := Option.bind_eq_some_iff.mp H
        obtain ⟨t102, A50, H⟩ := H
        replace H : (some t102) = some r := H
        have A5 := Aside0.mk A50
        clear A50
        obtain rfl := Option.some.inj H
        go_wp2_with (first | ((with_reducible refine gate_callee (f := 82) rfl ?_); refine goesL_ (some 23) rfl rfl Try.func82 (by kernel_rfl) rfl #[.int .i64 (Go.bits .andNot .i64 x4_1 x3_1)] rfl (by (try simp only [List.map_toArray, List.map_cons, List.map_nil]); first | done | rfl | (simp only [List.length_drop, List.length_take]; rfl)) ?_; (with_reducible refine (impl_items.calls k1 (Go.bits .andNot .i64 x4_1 x3_1) t102 _ A5.out).mono ?_); rintro e w6 ⟨v103, rfl, ho0, hb⟩; refine ⟨_, rfl, ?_⟩; have n0_ := Aside0.mk (Kd.R_lower ho0 (below_size (by repeat (first | (with_reducible first | exact HB.out | apply below_alloc | apply pw_below_drewN | apply below_drew1) | exact HB.out)))); have n1_ := Aside0.mk (below_step (by repeat (first | (with_reducible first | exact HB.out | apply below_alloc | apply pw_below_drewN | apply below_drew1) | exact HB.out)) hb); clear HB; have HO104 := n0_; have HB := n1_; clear n0_ n1_; (try clear hb); (try clear hb2); (try clear hk); (try clear hi); (try clear ho0)))
        go_ret
        exact ⟨_, by first | rfl | (simp [errW_none, errW_some] <;> rfl) | (simp [*, errW_none, errW_some] <;> rfl), by (with_reducible repeat (first | apply Kd.R_alloc | apply Kd.R_drewN | apply Kd.R_drew)); exact HO104.out, by repeat (first | (with_reducible first | exact HB.out | apply below_alloc | apply pw_below_drewN | apply below_drew1) | exact HB.out)⟩

-- HAND with impl.open+impl.items
theorem open_loop (L : List Int) (hM : ∀ x ∈ L, I128 x) (hl : L.length ≤ 128) : ∀ (B A : List Int) (a o : Nat), A ++ B = L → a < 128 → o < 128 → Ev (fun k => impl_open.l0 k a o L L.length A.length) (itemsL ((nd (orA B o) (andA B a) : Nat) : Int))
  | [], A, a, o, hA, ha, ho => by
    rw [List.append_nil] at hA
    subst hA
    show Ev _ (itemsL ((nd o a : Nat) : Int))
    have hlt : nd o a < 128 := Nat.lt_of_le_of_lt (sub_le (fun j hj => by rw [nd_testBit, Bool.and_eq_true] at hj; exact hj.1)) ho
    refine Ev.succ (fun k => by simp only [impl_open.l0]; rw [if_neg (by omega), bits_nd o a (by omega) (by omega)]) ?_
    exact Ev.bind (itemsE (by omega) (by omega)) (Ev.const rfl)
  | x :: B, A, a, o, hA, ha, ho => by
    have hlt : A.length < L.length := by rw [← hA]; simp
    have hrd : rd L (A.length : Int) = x := by rw [← hA]; exact rd_append A B x
    obtain ⟨x0, x1⟩ := hM x (by rw [← hA]; simp)
    obtain ⟨m, rfl⟩ := Int.eq_ofNat_of_zero_le x0
    have hn := open_loop L hM hl B (A ++ [(m : Int)]) (a &&& m) (o ||| m) (by rw [List.append_assoc]; exact hA) (Nat.lt_of_le_of_lt Nat.and_le_left ha) (Nat.or_lt_two_pow (n := 7) ho (show m < 2 ^ 7 by omega))
    rw [List.length_append, List.length_singleton] at hn
    push_cast at hn
    refine Ev.succ (fun k => by simp only [impl_open.l0]; rw [if_pos (by omega), if_pos (by omega), if_pos (by omega), hrd, bits_and a m (by omega) (by omega), bits_or o m (by omega) (by omega), wrap_succ (by omega) (by omega)]) ?_
    exact hn
theorem open_ok (L : List Int) (hM : ∀ x ∈ L, I128 x) (hl : L.length ≤ 128) : Ev (fun k => impl_open.f k L) (itemsL (openS L : Int)) := by
  unfold impl_open.f
  exact open_loop L hM hl L [] 127 0 rfl (by decide) (by decide)

-- HAND impl_asker_half: function 72
set_option maxHeartbeats 8000000 in
set_option maxRecDepth 100000 in
theorem impl_asker_half.calls (g : Nat) (n : Int) (A : Option Addr) (c : Nat) (l : List Int) (m1 m2 : Value) (yes no : Int) (L O : List Int) (kL kO : Nat) (w : World) (hb : w.heap[g]? = some (.cells #[.int .i64 n, .slice A l.length c, m1, m2] 106 (0, 0))) (hr : Kd.C (Kd.int .i64) w A l.length l) (hc : l.length ≤ c) (hL : impl_Space_left.f kL n l yes no = some L) (hO : impl_open.f kO L = some O) (hi : ∀ i ∈ O, 0 ≤ i ∧ i < 7) :
    Calls Try.prog 72 #[.pointer (some ⟨g, 0, none⟩), .int .i64 yes, .int .i64 no] w fun e w' => e = .returned (.int .i64 (halfV L O)) ∧ Below w.heap.size w w' := by
  have hu := Try.underlying28
  have hu2 := Try.underlying106
  have q0 : w.cell? ⟨g, 0, none⟩ = some (.int .i64 n) := (blk_cell hb 0).trans rfl
  have q1 : w.cell? ⟨g, 1, none⟩ = some (.slice A l.length c) := (blk_cell hb 1).trans rfl
  have HR := Aside0.mk hr
  have HC := Aside0.mk hc
  have HL := Aside0.mk hL
  have HO := Aside0.mk hO
  have HI := Aside0.mk hi
  clear hr hc hL hO hi hb
  go_enter Try.func72, Try.ntmps72
  go_wp2_with (first | (go_at_call 56; (with_reducible refine (impl_Space_left.calls kL n _ _ l yes no L _ ?ca HC.out HL.out).mono ?_); (case ca => repeat (first | exact HR.out | (with_reducible refine Kd.C_drewN ?_ _) | (with_reducible refine Kd.C_drew ?_))); rintro e w1 ⟨v1, rfl, hR1, hb1⟩; obtain ⟨A1, c1, rfl⟩ := Kd.R_slice hR1; have HR1 := Aside0.mk hR1; have HB1 := Aside0.mk (show Below w.heap.size w w1 from by first | exact hb1 | exact below_since hb1 | exact below_since1 hb1); clear hR1 hb1) | (go_at_call 100; (with_reducible refine (impl_open.calls kO _ _ L O _ ?cb ?cc HO.out).mono ?_); (case cb => repeat (first | exact (Kd.R_reads' HR1.out).2.2 | (with_reducible refine Kd.C_drewN ?_ _) | (with_reducible refine Kd.C_drew ?_))); (case cc => exact (Kd.R_reads' HR1.out).2.1); rintro e w2 ⟨v2, rfl, hR2, hb2⟩; obtain ⟨A2, c2, rfl⟩ := Kd.R_slice hR2; have HC2 := Aside0.mk (Kd.R_reads' hR2).2.2; have HC1 := Aside0.mk (Kd.C_below (Kd.R_reads' HR1.out).2.2 (show Below w1.heap.size w1 w2 from by first | exact hb2 | exact below_since hb2 | exact below_since1 hb2)); have HB2 := Aside0.mk (below_step HB1.out (show Below w1.heap.size w1 w2 from by first | exact hb2 | exact below_since hb2 | exact below_since1 hb2)); clear hR2 hb2))
  have hmL := Kd.C_max HC1.out
  have hmO := Kd.C_max HC2.out
  go_loopw [25, 7, 8] (fun v25 v7 v8 wr => ∃ j : Nat, Aside0 (j ≤ O.length) ∧ v25 = .int .i64 j ∧ v7 = .int .i64 ((O.take j).foldl (halfNext L) (-1, 0)).1 ∧ v8 = .int .i64 ((O.take j).foldl (halfNext L) (-1, 0)).2 ∧ Aside0 (Kd.C (Kd.int .i64) wr A1 L.length L) ∧ Aside0 (Kd.C (Kd.int .i64) wr A2 O.length O) ∧ Aside0 (Below w.heap.size w wr)) (fun v25 _ _ _ => O.length - (intOf v25).toNat)
  case atStart => exact ⟨0, ⟨by omega⟩, rfl, rfl, rfl, HC1, HC2, HB2⟩
  case round =>
    obtain ⟨j, hj, rfl, rfl, rfl, HC1j, HC2j, HBj⟩ := hrel
    by_cases hlt : j < O.length
    · obtain ⟨ad, e, hcell⟩ := Kd.at_int HC2j.out (j : Int) (by omega) (by omega)
      have hi := HI.out _ (rd_mem (l := O) (i := (j : Int)) (by omega) (by omega))
      have HTJ := Aside0.mk (take_rd O j hlt)
      obtain ⟨i, hI⟩ : ∃ i, i = rd O j := ⟨_, rfl⟩
      rw [← hI] at hi hcell HTJ
      clear hI
      cases e
      rw [Int.toNat_natCast] at hcell
      obtain ⟨i0, i1⟩ := hi
      obtain ⟨s, hs⟩ : ∃ s, s = (O.take j).foldl (halfNext L) (-1, 0) := ⟨_, rfl⟩
      rw [← hs]
      have HSE := Aside0.mk hs
      clear hs
      go_wp2
      go_loopw [31, 12] (fun v31 v12 wr2 => ∃ q : Nat, Aside0 (q ≤ L.length) ∧ v31 = .int .i64 q ∧ v12 = .int .i64 ((L.take q).foldl (halfStep i) 0) ∧ Aside0 (Kd.C (Kd.int .i64) wr2 A1 L.length L) ∧ Aside0 (Kd.C (Kd.int .i64) wr2 (some ad) O.length O) ∧ Aside0 (Below w.heap.size w wr2)) (fun v31 _ _ => L.length - (intOf v31).toNat)
      case atStart => exact ⟨0, ⟨by omega⟩, rfl, rfl, ⟨by repeat (first | exact HC1j.out | (with_reducible refine Kd.C_drewN ?_ _) | (with_reducible refine Kd.C_drew ?_))⟩, ⟨by repeat (first | exact HC2j.out | (with_reducible refine Kd.C_drewN ?_ _) | (with_reducible refine Kd.C_drew ?_))⟩, ⟨by repeat (first | exact HBj.out | apply pw_below_drewN | apply below_drew1)⟩⟩
      case round =>
        obtain ⟨q, hq, rfl, rfl, HC1q, HC2q, HBq⟩ := hrel
        obtain ⟨d, hd⟩ : ∃ d, d = (L.take q).foldl (halfStep i) 0 := ⟨_, rfl⟩
        rw [← hd]
        have HD := Aside0.mk hd
        clear hd
        by_cases hql : q < L.length
        · obtain ⟨ad1, e1, hcell1⟩ := Kd.at_int HC1q.out (q : Int) (by omega) (by omega)
          have HTQ := Aside0.mk (take_rd L q hql)
          obtain ⟨x, hX⟩ : ∃ x, x = rd L q := ⟨_, rfl⟩
          rw [← hX] at hcell1 HTQ
          clear hX
          cases e1
          rw [Int.toNat_natCast] at hcell1
          go_wp2
          go_roundw
          case rel => exact ⟨q + 1, ⟨by omega⟩, by first | rfl | go_num, by rw [HTQ.out, List.foldl_append, ← HD.out]; rfl, ⟨by repeat (first | exact HC1q.out | (with_reducible refine Kd.C_drewN ?_ _) | (with_reducible refine Kd.C_drew ?_))⟩, ⟨by repeat (first | exact HC2q.out | (with_reducible refine Kd.C_drewN ?_ _) | (with_reducible refine Kd.C_drew ?_))⟩, ⟨by repeat (first | exact HBq.out | apply pw_below_drewN | apply below_drew1)⟩⟩
          case measure => simp [intOf]; omega
        · have HDE : Aside0 (d = halfSum L i) := ⟨by rw [HD.out, List.take_of_length_le (by omega)]; rfl⟩
          clear HD
          have HN : Aside0 ((O.take (j + 1)).foldl (halfNext L) (-1, 0) = halfNext L s i) := ⟨by rw [HTJ.out, List.foldl_append, ← HSE.out]; rfl⟩
          clear HTJ HSE
          by_cases h1 : s.1 < 0
          · have HN1 : Aside0 (halfNext L s i = (i, absM d)) := ⟨by unfold halfNext; rw [if_pos h1, ← HDE.out]⟩
            clear HDE
            go_wp2
            all_goals go_roundw
            all_goals first | (case rel => exact ⟨j + 1, ⟨by omega⟩, by first | rfl | go_num, by rw [HN.out, HN1.out], by first | (rw [HN.out, HN1.out]; done) | (rw [HN.out, HN1.out]; rfl) | (rw [HN.out, HN1.out]; unfold absM; rfl), ⟨by repeat (first | exact HC1q.out | (with_reducible refine Kd.C_drewN ?_ _) | (with_reducible refine Kd.C_drew ?_))⟩, ⟨by repeat (first | exact HC2q.out | (with_reducible refine Kd.C_drewN ?_ _) | (with_reducible refine Kd.C_drew ?_))⟩, ⟨by repeat (first | exact HBq.out | apply pw_below_drewN | apply below_drew1)⟩⟩) | (case measure => simp [intOf]; omega)
          · by_cases h2 : (if d < wrap64 (-d) then wrap64 (-d) else d) < s.2
            · have HN1 : Aside0 (halfNext L s i = (i, absM d)) := ⟨by unfold halfNext; rw [if_neg h1, ← HDE.out, if_pos (show absM d < s.2 from h2)]⟩
              clear HDE
              go_wp2
              all_goals go_roundw
              all_goals first | (case rel => exact ⟨j + 1, ⟨by omega⟩, by first | rfl | go_num, by rw [HN.out, HN1.out], by first | (rw [HN.out, HN1.out]; done) | (rw [HN.out, HN1.out]; rfl) | (rw [HN.out, HN1.out]; unfold absM; rfl), ⟨by repeat (first | exact HC1q.out | (with_reducible refine Kd.C_drewN ?_ _) | (with_reducible refine Kd.C_drew ?_))⟩, ⟨by repeat (first | exact HC2q.out | (with_reducible refine Kd.C_drewN ?_ _) | (with_reducible refine Kd.C_drew ?_))⟩, ⟨by repeat (first | exact HBq.out | apply pw_below_drewN | apply below_drew1)⟩⟩) | (case measure => simp [intOf]; omega)
            · have HN1 : Aside0 (halfNext L s i = s) := ⟨by unfold halfNext; rw [if_neg h1, ← HDE.out, if_neg (show ¬ absM d < s.2 from h2)]⟩
              clear HDE
              go_wp2
              all_goals go_roundw
              all_goals first | (case rel => exact ⟨j + 1, ⟨by omega⟩, by first | rfl | go_num, by rw [HN.out, HN1.out], by first | (rw [HN.out, HN1.out]; done) | (rw [HN.out, HN1.out]; rfl) | (rw [HN.out, HN1.out]; unfold absM; rfl), ⟨by repeat (first | exact HC1q.out | (with_reducible refine Kd.C_drewN ?_ _) | (with_reducible refine Kd.C_drew ?_))⟩, ⟨by repeat (first | exact HC2q.out | (with_reducible refine Kd.C_drewN ?_ _) | (with_reducible refine Kd.C_drew ?_))⟩, ⟨by repeat (first | exact HBq.out | apply pw_below_drewN | apply below_drew1)⟩⟩) | (case measure => simp [intOf]; omega)
    · go_wp2
      go_ret
      exact ⟨by rw [List.take_of_length_le (by omega)]; rfl, by repeat (first | exact HBj.out | apply pw_below_drewN | apply below_drew1)⟩

-- HAND impl_HalfWorst: function 33
/-- What is asked next, by halving. -/
def halfΦ (n : Int) (l : List Int) : FnII := fun y m => if isSpaceB n l = true ∧ (0 ≤ y ∧ y < 128) ∧ 0 ≤ m ∧ m < 128 then some (halfV (leftL l y m) (itemsL (openS (leftL l y m) : Int))) else none
theorem halfΦ_some {n : Int} {l : List Int} {y m r : Int} (h : FnII.f (halfΦ n l) y m = some r) : ∃ k L O, impl_Space_left.f k n l y m = some L ∧ impl_open.f k L = some O ∧ (∀ i ∈ O, 0 ≤ i ∧ i < 7) ∧ r = halfV L O := by
  unfold FnII.f halfΦ at h
  by_cases hc : isSpaceB n l = true ∧ (0 ≤ y ∧ y < 128) ∧ 0 ≤ m ∧ m < 128
  · rw [if_pos hc] at h
    obtain rfl := Option.some.inj h
    have hMl := isSpaceB_i128 hc.1
    have hll := isSpaceB_len hc.1
    obtain ⟨k1, h1⟩ := left_ok (l := l) n (y := y) (n := m) hc.2.1 hc.2.2 hMl (by omega)
    obtain ⟨k2, h2⟩ := open_ok (leftL l y m) (fun x hx => hMl x (leftL_sub hx)) (Nat.le_trans (leftL_length l y m) hll)
    refine ⟨k1 + k2, _, _, h1 _ (by omega), h2 _ (by omega), fun i hi => ?_, rfl⟩
    have := itemsL_mem hi
    omega
  · rw [if_neg hc] at h
    cases h
def impl_HalfWorst.l0 (φ : FnII) (l : List Int) : Nat → Int → Int → Option (Int × Bool)
  | 0, _, _ => none
  | k + 1, most, i => if i < (l.length : Int) then (impl_run.f k (rd l i) φ).bind fun t => impl_HalfWorst.l0 φ l k (if most < (t.length : Int) then (t.length : Int) else most) (i + 1) else some (most, true)
theorem impl_HalfWorst.mono_l (φ : FnII) (l : List Int) : ∀ (k : Nat) (a i : Int), LeO (impl_HalfWorst.l0 φ l k a i) (impl_HalfWorst.l0 φ l (k + 1) a i)
  | 0, a, i => fun r h => by simp [impl_HalfWorst.l0] at h
  | k + 1, a, i => by
    show LeO (if i < (l.length : Int) then (impl_run.f k (rd l i) φ).bind fun t => impl_HalfWorst.l0 φ l k (if a < (t.length : Int) then (t.length : Int) else a) (i + 1) else some (a, true)) (if i < (l.length : Int) then (impl_run.f (k + 1) (rd l i) φ).bind fun t => impl_HalfWorst.l0 φ l (k + 1) (if a < (t.length : Int) then (t.length : Int) else a) (i + 1) else some (a, true))
    exact LeO.ite (LeO.bind (impl_run.mono _ _ k) fun t => impl_HalfWorst.mono_l φ l k _ _) (LeO.refl _)
def impl_HalfWorst.f (k : Nat) (a0_0 : Int) (l0_1 : List Int) : Option (Int × Bool) := if isSpaceB a0_0 l0_1 = true then impl_HalfWorst.l0 (halfΦ a0_0 l0_1) l0_1 k 0 0 else some (0, false)
theorem impl_HalfWorst.mono (y0 : Int) (y1 : List Int) (k : Nat) : LeO (impl_HalfWorst.f k y0 y1) (impl_HalfWorst.f (k + 1) y0 y1) := by
  unfold impl_HalfWorst.f
  exact LeO.ite (impl_HalfWorst.mono_l _ _ k _ _) (LeO.refl _)
set_option maxHeartbeats 8000000 in
set_option maxRecDepth 100000 in
theorem impl_HalfWorst.calls (k : Nat) (n : Int) (A : Option Addr) (c : Nat) (l : List Int) (r1 : Int) (r2 : Bool) (w : World) (hr : Kd.C (Kd.int .i64) w A l.length l) (hc : l.length ≤ c) (h : impl_HalfWorst.f k n l = some (r1, r2)) :
    Calls Try.prog 33 #[.agg #[.int .i64 n, .slice A l.length c]] w fun e w' => e = .returned (.tuple #[.int .i64 r1, .bool r2]) ∧ Below w.heap.size w w' := by
  have hu := Try.underlying28
  have HR := Aside0.mk hr
  have HC := Aside0.mk hc
  have hmx := Kd.C_max hr
  clear hr hc
  unfold impl_HalfWorst.f at h
  cases hS : isSpaceB n l with
  | false =>
    rw [hS, if_neg (by decide)] at h
    obtain ⟨rfl, rfl⟩ : (0 : Int) = r1 ∧ false = r2 := by simpa using h
    have HS : Aside0 (impl_IsSpace.f n l = some false) := ⟨congrArg some hS⟩
    clear h hS
    go_enter Try.func33, Try.ntmps33
    go_wp2_with (first | ((with_reducible refine gate_dst (N := 1) rfl ?_); refine box_event ?hg (N := 1) ?hd (cs := #[.int .i64 n, .slice A l.length c]) (t := 28) ?hr ?_; (case hd => rfl); (case hg => rfl); (case hr => first | (go_simp; done) | (go_simp; rfl)); intro g ge W gb Wb; have HXg := Aside0.mk (SpBox.mk_ ge gb Wb); have gz0 := HXg.out.c0; have gz1 := HXg.out.c1; clear ge gb Wb) | (go_at_call 48; (with_reducible refine (impl_IsSpace.calls n _ _ l false _ (by repeat (first | exact Kd.C_below HR.out HXg.out.bel | (with_reducible refine Kd.C_drewN ?_ _) | (with_reducible refine Kd.C_drew ?_))) HC.out HS.out).mono ?_); rintro e W2 ⟨rfl, hbel_⟩; have HX2 := Aside0.mk (SpBox.next HXg.out (by first | exact hbel_ | exact below_since hbel_ | exact below_since1 hbel_)); skip; clear hbel_))
    go_ret2
    exact ⟨rfl, (by repeat (first | exact HX2.out.bel | apply pw_below_drewN | apply below_drew1))⟩
  | true =>
    rw [hS, if_pos rfl] at h
    have HH := Aside0.mk h
    have HS : Aside0 (impl_IsSpace.f n l = some true) := ⟨congrArg some hS⟩
    clear h hS
    have HEG : Aside0 (∀ args w, (callFunc 72 args).run Try.prog w = .ok (.enter 72 args) w) := ⟨enters_of Try.func72 (by kernel_rfl) rfl⟩
    go_enter Try.func33, Try.ntmps33
    go_wp2_with (first | ((with_reducible refine gate_dst (N := 1) rfl ?_); refine box_event ?hg (N := 1) ?hd (cs := #[.int .i64 n, .slice A l.length c]) (t := 28) ?hr ?_; (case hd => rfl); (case hg => rfl); (case hr => first | (go_simp; done) | (go_simp; rfl)); intro g ge W gb Wb; have HXg := Aside0.mk (SpBox.mk_ ge gb Wb); have gz0 := HXg.out.c0; have gz1 := HXg.out.c1; clear ge gb Wb) | (go_at_call 48; (with_reducible refine (impl_IsSpace.calls n _ _ l true _ (by repeat (first | exact Kd.C_below HR.out HXg.out.bel | (with_reducible refine Kd.C_drewN ?_ _) | (with_reducible refine Kd.C_drew ?_))) HC.out HS.out).mono ?_); rintro e W2 ⟨rfl, hbel_⟩; have HX2 := Aside0.mk (SpBox.next HXg.out (by first | exact hbel_ | exact below_since hbel_ | exact below_since1 hbel_)); have q0 := HX2.out.c0; have q1 := HX2.out.c1; clear hbel_) | (go_at_call 49; (with_reducible refine (impl_newAsker.calls n A c l _).mono ?_); rintro e W4 ⟨g4, m1, m2, rfl, hg4, hn4, hb4⟩; have HX4 := Aside0.mk (SpBox.next HX2.out (by first | exact hb4 | exact below_since hb4 | exact below_since1 hb4)); have k0 := HX4.out.c0; have k1 := HX4.out.c1; have HF4 : Aside0 (FnII.Ok (halfΦ n l) 72 #[.pointer (some ⟨g4, 0, none⟩)] #[] W4) := ⟨fun W5 x y r hb5 hrr => (fun ⟨kk, L, O, h1, h2, h3, h4⟩ => by rw [h4]; exact impl_asker_half.calls g4 n A c l m1 m2 x y L O kk kk W5 (blk_below hg4 hb5) (Kd.C_below (Kd.C_below HR.out HX4.out.bel) hb5) HC.out h1 h2 h3) (halfΦ_some hrr)⟩; clear hg4 hn4 hb4))
    go_loopg [16, 5] k (fun kq v16 v5 wr => ∃ (i most : Int), v16 = .int .i64 i ∧ v5 = .int .i64 most ∧ Aside0 (0 ≤ i ∧ i ≤ l.length) ∧ Aside0 (impl_HalfWorst.l0 (halfΦ n l) l kq most i = some (r1, r2)) ∧ Aside0 (kq ≤ k) ∧ Aside0 (Below W4.heap.size W4 wr))
    case atStart => exact ⟨0, 0, rfl, rfl, ⟨by omega⟩, HH, ⟨Nat.le_refl _⟩, ⟨by repeat (first | exact Below.refl _ _ | apply pw_below_drewN | apply below_drew1)⟩⟩
    case round =>
      clear HH
      obtain ⟨i, most, rfl, rfl, hi, HA, HK, HB⟩ := hrel
      cases gk with
      | zero => exact absurd HA.out (by simp [impl_HalfWorst.l0])
      | succ kn =>
        have H := HA.out
        clear HA
        simp only [impl_HalfWorst.l0] at H
        obtain ⟨i0, i1⟩ := hi.out
        by_cases hlt : i < (l.length : Int)
        · rw [if_pos hlt] at H
          obtain ⟨t, hrun, H⟩ := Option.bind_eq_some_iff.1 H
          have HRUN := Aside0.mk hrun
          have H' := Aside0.mk H
          clear H hrun
          have HRD := Aside0.mk (Kd.C_below (Kd.C_below HR.out HX4.out.bel) HB.out)
          obtain ⟨ad, e, hcell⟩ := Kd.at_int HRD.out i i0 hlt
          cases e
          by_cases hmt : most < (t.length : Int)
          · rw [if_pos hmt] at H'
            go_wp2_with (go_at_call 71; (refine (impl_run.calls kn (rd l i) (halfΦ n l) 72 #[.pointer (some ⟨g4, 0, none⟩)] #[] t _ ⟨?cf⟩ HEG.out HRUN.out).mono ?_); (case cf => exact FnII.Ok.below HF4.out (by repeat (first | exact HB.out | apply pw_below_drewN | apply below_drew1))); rintro e W5 ⟨v5_, rfl, hv5, hb5⟩; obtain ⟨A5, c5, rfl⟩ := Kd.R_slice hv5; have HB5 := Aside0.mk (below_step (show Below W4.heap.size W4 _ from by repeat (first | exact HB.out | apply pw_below_drewN | apply below_drew1)) hb5); clear hb5 hv5)
            go_roundg kn
            case measure => have := HK.out; omega
            case rel => exact ⟨i + 1, (t.length : Int), by first | rfl | go_num, by first | rfl | go_num | (simp [hmt]; done), ⟨by omega⟩, H', ⟨by have := HK.out; omega⟩, ⟨by repeat (first | exact HB5.out | apply pw_below_drewN | apply below_drew1)⟩⟩
          · rw [if_neg hmt] at H'
            go_wp2_with (go_at_call 71; (refine (impl_run.calls kn (rd l i) (halfΦ n l) 72 #[.pointer (some ⟨g4, 0, none⟩)] #[] t _ ⟨?cf⟩ HEG.out HRUN.out).mono ?_); (case cf => exact FnII.Ok.below HF4.out (by repeat (first | exact HB.out | apply pw_below_drewN | apply below_drew1))); rintro e W5 ⟨v5_, rfl, hv5, hb5⟩; obtain ⟨A5, c5, rfl⟩ := Kd.R_slice hv5; have HB5 := Aside0.mk (below_step (show Below W4.heap.size W4 _ from by repeat (first | exact HB.out | apply pw_below_drewN | apply below_drew1)) hb5); clear hb5 hv5)
            go_roundg kn
            case measure => have := HK.out; omega
            case rel => exact ⟨i + 1, most, by first | rfl | go_num, by first | rfl | go_num | (simp [hmt]; done), ⟨by omega⟩, H', ⟨by have := HK.out; omega⟩, ⟨by repeat (first | exact HB5.out | apply pw_below_drewN | apply below_drew1)⟩⟩
        · rw [if_neg hlt] at H
          obtain ⟨rfl, rfl⟩ : most = r1 ∧ true = r2 := by simpa using H
          clear H
          go_wp2
          go_ret2
          exact ⟨rfl, below_step HX4.out.bel HB.out⟩

end Go.Proofs.Ytomcemkfpfjogaa.Q
