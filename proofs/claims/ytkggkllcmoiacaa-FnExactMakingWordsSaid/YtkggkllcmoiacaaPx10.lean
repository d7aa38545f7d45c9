/- Contracts of functions that the laws reach: a call returns what the plain Lean function of the same name tells. Conditions: those of each theorem. Made by gen.py, a program of this session, over the print of the translation. -/
import Derived.Test.YtkggkllcmoiacaaPx0
import Derived.Test.YtkggkllcmoiacaaPx1
import Derived.Test.YtkggkllcmoiacaaPx2
import Derived.Test.YtkggkllcmoiacaaPx3
import Derived.Test.YtkggkllcmoiacaaPx6
import Derived.Test.YtkggkllcmoiacaaPx7
import Derived.Test.YtkggkllcmoiacaaPx8
import Derived.Test.YtkggkllcmoiacaaPx9
namespace Go.Proofs.Ytkggkllcmoiacaa.Q
open Go.RowKit Go.Proofs.YtkggkllcmoiacaaW.PrintWords Go.Proofs.YtkggkllcmoiacaaW.PrintLast Go.Proofs.YtkggkllcmoiacaaW.PrintMore
attribute [local go_sem] max2_int min2_int max_two min_two max_three min_three max_four min_four   -- for this text's walks alone
set_option linter.unusedVariables false
set_option linter.unusedSimpArgs false

-- HAND impl_family_outer: function 63
set_option maxHeartbeats 8000000 in
set_option maxRecDepth 100000 in
theorem impl_family_outer.walkC (ad0 : Addr) (F : List Bool) (x : Int) (w : World) (hF : FamC w ad0 F) (h0 : 0 ≤ x) (h1 : x < 128) :
    Calls Try.prog 63 #[.pointer (some ad0), .int .i64 x] w fun e w' => e = .returned (.int .i64 (outerF F x.toNat)) ∧ Drawn0 w w' := by
  obtain ⟨x, rfl⟩ := Int.eq_ofNat_of_zero_le h0
  have HX := Aside0.mk (show x < 128 by omega)
  have HF := Aside0.mk hF
  clear h0 h1 hF
  rw [Int.toNat_natCast]
  go_enter Try.func63, Try.ntmps63
  go_wp2
  go_loopw [5, 7] (fun v5 v7 wr => ∃ (i : Int) (a : Nat), Aside0 (0 ≤ i ∧ i ≤ 7) ∧ v7 = .int .i64 i ∧ Aside0 (a < 128) ∧ v5 = .int .i64 a ∧ Aside0 (outK F x i.toNat = a) ∧ Drawn0 w wr) (fun _ v7 _ => 7 - (intOf v7).toNat)
  case atStart => exact ⟨0, 0, ⟨by decide⟩, rfl, ⟨by decide⟩, rfl, ⟨rfl⟩, Drawn0.refl _⟩
  case round =>
    obtain ⟨i, a, hi, rfl, ha, rfl, hf, ⟨n, rfl⟩⟩ := hrel
    by_cases hlt : i < 7
    · have i0 := hi.out.1
      have HO := Aside0.mk (bits_or a (2 ^ i.toNat) (lt63 ha.out) (lt63 (pow_lt128 i0 hlt)))
      have HOL := Aside0.mk (Nat.or_lt_two_pow (n := 7) ha.out (pow_lt128 i0 hlt))
      have HS := Aside0.mk (show outK F x (i + 1).toNat = if (!x.testBit i.toNat && F.getD (x ||| 2 ^ i.toNat) false) = true then a ||| 2 ^ i.toNat else a by rw [show (i + 1).toNat = i.toNat + 1 by omega, outK_succ, hf.out])
      obtain ⟨z, z0, z1, hz, hz2⟩ := and_one x i i0 (by omega) HX.out
      obtain ⟨r1, r2⟩ := shr_ways hz (by omega)
      clear hz
      by_cases hb : x.testBit i.toNat = true
      · rw [if_pos hb] at hz2
        rw [hb] at HS
        go_wp2
        go_quiet (fail)
        go_wp2
        go_roundw
        case rel => exact ⟨i + 1, a, ⟨by have := hi.out; omega⟩, by first | rfl | go_num, ha, rfl, ⟨by simpa using HS.out⟩, by repeat (first | exact Drawn0.refl _ | apply Drawn0.step)⟩
        case measure => simp [intOf]; omega
      · have hb' : x.testBit i.toNat = false := by simpa using hb
        rw [if_neg hb] at hz2
        rw [hb'] at HS
        clear hb hb'
        have hy := bits_or x (2 ^ i.toNat) (lt63 HX.out) (lt63 (pow_lt128 i0 hlt))
        have hylt : x ||| 2 ^ i.toNat < 128 := Nat.or_lt_two_pow (n := 7) HX.out (pow_lt128 i0 hlt)
        obtain ⟨j, hj⟩ : ∃ j, j = ((2 ^ i.toNat : Nat) : Int) := ⟨_, rfl⟩
        rw [← hj] at hy HO
        obtain ⟨s1, s2, s3, s4, s5, s6, s7, s8⟩ := shl_ways ((shl_nat i0 (by omega)).trans hj.symm) (by omega)
        clear hj
        obtain ⟨y, hY⟩ : ∃ y : Int, y = (x ||| 2 ^ i.toNat : Nat) := ⟨_, rfl⟩
        have y0 : 0 ≤ y := by omega
        have y1 : y < 128 := by omega
        have hYn : x ||| 2 ^ i.toNat = y.toNat := by omega
        rw [← hY] at hy
        rw [hYn] at HS
        clear hY hYn hylt
        have hfc := HF.out.at_ y y0 y1
        obtain ⟨v, hv⟩ : ∃ v, v = F.getD y.toNat false := ⟨_, rfl⟩
        rw [← hv] at hfc HS
        clear hv
        cases v
        all_goals
          go_wp2
          go_quiet (fail)
          go_wp2
        · go_roundw
          case rel => exact ⟨i + 1, a, ⟨by have := hi.out; omega⟩, by first | rfl | go_num, ha, rfl, ⟨by simpa using HS.out⟩, by repeat (first | exact Drawn0.refl _ | apply Drawn0.step)⟩
          case measure => simp [intOf]; omega
        · go_roundw
          case rel => exact ⟨i + 1, a ||| 2 ^ i.toNat, ⟨by have := hi.out; omega⟩, by first | rfl | go_num, HOL, by first | rfl | (rw [← HO.out]), ⟨by simpa using HS.out⟩, by repeat (first | exact Drawn0.refl _ | apply Drawn0.step)⟩
          case measure => simp [intOf]; omega
    · have HW := Aside0.mk (show (a : Int) = outerF F x by rw [← outK_7, ← hf.out, show i.toNat = 7 by have := hi.out; omega])
      clear hf
      go_wp2
      go_ret
      exact ⟨by have := HW.out; first | (rw [this]; done) | (simp; omega) | omega, by repeat (first | exact Drawn0.refl _ | apply Drawn0.step)⟩
theorem impl_family_outer.walk (b : Nat) (F : List Bool) (x : Int) (w : World) (hF : FamAt w b F) (h0 : 0 ≤ x) (h1 : x < 128) :
    Calls Try.prog 63 #[.pointer (some ⟨b, 0, none⟩), .int .i64 x] w fun e w' => e = .returned (.int .i64 (outerF F x.toNat)) ∧ Drawn0 w w' := impl_family_outer.walkC ⟨b, 0, none⟩ F x w hF.c h0 h1
def impl_family_outer.f (l0 : List Bool) (a1 : Int) : Option Int := if l0.length = 128 ∧ 0 ≤ a1 ∧ a1 < 128 then some (outerF l0 a1.toNat) else none
theorem impl_family_outer.calls (A0 : Option Addr) (c0 : Nat) (l0 : List Bool) (a1 : Int) (r : Int) (w : World) (hr0 : Kd.C Kd.bool w A0 l0.length l0) (hc0 : l0.length ≤ c0) (h : impl_family_outer.f l0 a1 = some r) :
    Calls Try.prog 63 #[.pointer A0, .int .i64 a1] w fun e w' => e = .returned (.int .i64 r) ∧ Drawn0 w w' := by
  unfold impl_family_outer.f at h
  split at h
  · rename_i hl
    have e := Option.some.inj h
    subst e
    obtain ⟨ad, rfl, HF⟩ := FamC.of_reads hr0 hl.1
    exact impl_family_outer.walkC ad l0 a1 w HF hl.2.1 hl.2.2
  · cases h

-- HAND with (*impl.family).outer
theorem outer_f (F : List Bool) (hF : F.length = 128) (x : Int) (h0 : 0 ≤ x) (h1 : x < 128) : impl_family_outer.f F x = some (outerF F x.toNat : Int) := by
  unfold impl_family_outer.f
  rw [if_pos ⟨hF, h0, h1⟩]

/-! ### impl_Space_toward: function 53 -/
def impl_Space_toward.l0 : Nat → List Int → Int → Int → List Bool → Option (List Int)
 | 0, _, _, _, _ => none
 | k + 1, x1, x2, x3, x9 => if x2 = x3 then (some x1) else ((impl_family_outer.f x9 x2).bind fun t105 => ((impl_items.f k (Go.bits .and .i64 t105 x3)).bind fun t106 => (if (t106.length : Int) = 0 then (some x1) else (if 0 < (t106.length : Int) then (if x1.length < 17592186044416 then (if 0 ≤ (rd t106 0) then (impl_Space_toward.l0 k (x1 ++ [rd t106 0]) (Go.bits .or .i64 x2 (shl .i64 1 (rd t106 0))) x3 x9) else (none)) else (none)) else (none)))))
def impl_Space_toward.f (k : Nat) (a0_0 : Int) (l0_1 : List Int) (l1 : List Int) (a2 : Int) (a3 : Int) : Option (List Int) := (impl_Space_family.f a0_0 l0_1).bind fun t102 => (impl_Space_toward.l0 k l1 a2 a3 t102)
theorem impl_Space_toward.mono_l : ∀ k, (∀ y0 y1 y2 y3, LeO (impl_Space_toward.l0 k y0 y1 y2 y3) (impl_Space_toward.l0 (k + 1) y0 y1 y2 y3))
 | 0 => fun _ _ _ _ r h => by simp [impl_Space_toward.l0] at h
 | k + 1 => by
  have ih0 := impl_Space_toward.mono_l k
  ·
   intro y0 y1 y2 y3
   unfold impl_Space_toward.l0
   repeat' first
   | (with_reducible exact ih0 _ _ _ _)
   | (with_reducible exact impl_items.mono _ _)
   | (with_reducible exact LeO.refl _)
   | (with_reducible exact LeO.none _)
   | (with_reducible refine LeO.ite ?_ ?_)
   | (with_reducible refine LeO.bind ?_ (fun _ => ?_))
   | exact ih0 _ _ _ _
   | exact impl_items.mono _ _
   | exact LeO.none _
   | refine LeO.ite ?_ ?_
   | refine LeO.bind ?_ (fun _ => ?_)
theorem impl_Space_toward.mono : ∀ a0 a1 a2 a3 a4 k, LeO (impl_Space_toward.f k a0 a1 a2 a3 a4) (impl_Space_toward.f (k + 1) a0 a1 a2 a3 a4) := by
 intro a0 a1 a2 a3 a4 k
 have ih0 := impl_Space_toward.mono_l k
 unfold impl_Space_toward.f
 repeat' first
   | (with_reducible exact ih0 _ _ _ _)
   | (with_reducible exact impl_items.mono _ _)
   | (with_reducible exact LeO.refl _)
   | (with_reducible exact LeO.none _)
   | (with_reducible refine LeO.ite ?_ ?_)
   | (with_reducible refine LeO.bind ?_ (fun _ => ?_))
   | exact ih0 _ _ _ _
   | exact impl_items.mono _ _
   | exact LeO.none _
   | refine LeO.ite ?_ ?_
   | refine LeO.bind ?_ (fun _ => ?_)
def impl_Space_toward.T5 : Bool × List (List Nat × List Nat) := (true, [([], []), ([], []), ([1], [1]), ([2], [2]), ([3], [3]), ([0, 4], [0, 4]), ([], []), ([], []), ([7], [7]), ([8], [8]), ([9], [9]), ([6, 10], [6, 10]), ([5, 5, 0, 1, 2, 3, 4, 5], [0, 5]), ([11, 12, 0, 1, 2, 3, 4, 5, 6, 7, 8, 9, 10, 11, 12], [6, 11])])
def impl_Space_toward.B5 : List Nat := [0, 0, 2, 6, 14, 31, 0, 0, 128, 384, 896, 1984, 63, 8191]
theorem impl_Space_toward.tab5 : rtab .any (opsOf Try.f53 5) = impl_Space_toward.T5 := by kernel_rfl
theorem impl_Space_toward.bits5 : waitsOk impl_Space_toward.T5.2 impl_Space_toward.B5 = true := by kernel_rfl
set_option maxHeartbeats 8000000 in
set_option maxRecDepth 100000 in
theorem impl_Space_toward.calls (k : Nat) (a0_0 : Int) (A0_1 : Option Addr) (c0_1 : Nat) (l0_1 : List Int) (P1_ : Nat → Prop) (u9000_ : Value) (l1 : List Int) (a2 : Int) (a3 : Int) (r : List Int) (w0 w : World) (hB : Below w0.heap.size w0 w) (hr0_1 : ∀ W_, Kept w W_ (fun k_ => P1_ k_) → Kd.C (Kd.int .i64) W_ A0_1 l0_1.length l0_1) (hc0_1 : l0_1.length ≤ c0_1) (ho1 : Kd.R (Kd.int .i64) 3 w w0.heap.size P1_ u9000_ l1) (h : impl_Space_toward.f k a0_0 l0_1 l1 a2 a3 = some r) :
  Calls Try.prog 53 #[.agg #[.int .i64 a0_0, .slice A0_1 l0_1.length c0_1], u9000_, .int .i64 a2, .int .i64 a3] w fun e w' => ∃ v0_ : Value, e = .returned (v0_) ∧ Kd.R (Kd.int .i64) 3 w' w0.heap.size (fun k_ => (P1_ k_ ∨ w.heap.size ≤ k_)) v0_ r ∧ Below w0.heap.size w0 w' ∧ Kept w w' (fun k_ => P1_ k_) := by
 have hu28 := Try.underlying28
 have HR0_1 := asd hr0_1
 have HC0_1 := asd hc0_1
 clear hr0_1 hc0_1
 have HO1 := asd (show Kd.R (Kd.int .i64) 3 w w0.heap.size (fun k_ => (P1_ k_ ∨ w.heap.size ≤ k_)) u9000_ l1 from Kd.R_mono ho1 (fun k_ hk => (.inl hk)))
 have HK := asd (Kept.refl w (fun k_ => P1_ k_))
 have HW0 := asd hB.size
 have HB := asd hB
 clear hB
 have H : ((impl_Space_family.f a0_0 l0_1).bind fun t102 => (impl_Space_toward.l0 k l1 a2 a3 t102)) = some r := h
 clear h
 replace H := Option.bind_eq_some_iff.mp H
 obtain ⟨t102, A50, H⟩ := H
 replace H : (impl_Space_toward.l0 k l1 a2 a3 t102) = some r := H
 have A5 := asd A50
 clear A50
 have HLt102 := asd (impl_Space_family.len A5.out)
 have H' := asd H
 clear H
 go_enter Try.func53, Try.ntmps53
 go_wp2_with (first | ((with_reducible refine gate_dst (N := 4) rfl ?_); refine box_event ?hg (N := 4) ?hd (cs := #[.int .i64 a0_0, .slice A0_1 l0_1.length c0_1]) (t := 28) ?hr ?_; (case hd => rfl); (case hg => rfl); (case hr => first | (go_simp; done) | (go_simp; rfl)); intro gb101 hg w6 hbox hb; have n0_ := asd (Kd.R_below (upR <| HO1.out) hb); have n1_ := asd (Kept.below (S := (fun k_ => P1_ k_)) (by repeat (first | (with_reducible first | exact HK.out | apply Kept.alloc | apply Kept.drewN | apply Kept.drew) | exact HK.out)) hb); have n2_ := asd (below_step (by repeat (first | (with_reducible first | exact HB.out | apply below_alloc | apply pw_below_drewN | apply below_drew1) | exact HB.out)) hb); have n3_ := asd (hbox); have n4_ := asd ((by rw [hg]; exact (by first | exact HK.out.1 | exact (show Kept w _ (fun k_ => P1_ k_) from by repeat (first | (with_reducible first | exact HK.out | apply Kept.alloc | apply Kept.drewN | apply Kept.drew) | exact HK.out)).1) : w.heap.size ≤ gb101)); have n5_ := asd ((by rw [hg]; exact (below_size (by repeat (first | (with_reducible first | exact HB.out | apply below_alloc | apply pw_below_drewN | apply below_drew1) | exact HB.out))) : w0.heap.size ≤ gb101)); clear HO1; clear HK; clear HB; have HO1 := n0_; have HK := n1_; have HB := n2_; have BK101 := n3_; have GW101 := n4_; have GE101 := n5_; clear n0_ n1_ n2_ n3_ n4_ n5_; clear hb hbox hg; have hcz7_0 : w6.cell? ⟨gb101, 0, none⟩ = some (.int .i64 a0_0) := (blk_cell BK101.out 0).trans rfl; have hcz7_1 : w6.cell? ⟨gb101, 1, none⟩ = some (.slice A0_1 l0_1.length c0_1) := (blk_cell BK101.out 1).trans rfl; have hfz7_0 := blk_frozen BK101.out 0; have hfz7_1 := blk_frozen BK101.out 1) | ((with_reducible refine gate_callee (f := 44) rfl ?_); refine goesL_ (some 12) rfl rfl Try.func44 (by kernel_rfl) rfl #[.agg #[.int .i64 a0_0, .slice A0_1 l0_1.length c0_1]] rfl (by (try simp only [List.map_toArray, List.map_cons, List.map_nil]); first | done | rfl | (simp only [List.length_drop, List.length_take]; rfl)) ?_; (with_reducible refine (impl_Space_family.calls a0_0 _ _ l0_1 t102 _ ?side1 ?side2 A5.out).mono ?_); (case side1 => exact Kd.C_kept_now HR0_1.out (by repeat (first | (with_reducible first | exact HK.out | apply Kept.alloc | apply Kept.drewN | apply Kept.drew | refine Kept.setCell ?_ (.inr GW101.out) _) | exact HK.out))); (case side2 => exact HC0_1.out); rintro e w8 ⟨v103, rfl, ho0, hb⟩; refine ⟨_, rfl, ?_⟩; have n0_ := asd (Kd.R_below (upR <| HO1.out) hb); have n1_ := asd (Kd.R_lower (Kd.R_newM (M := fun k_ => (P1_ k_ ∨ w.heap.size ≤ k_)) ho0 (by first | exact HK.out.1 | exact (show Kept w _ (fun k_ => P1_ k_) from by repeat (first | (with_reducible first | exact HK.out | apply Kept.alloc | apply Kept.drewN | apply Kept.drew | refine Kept.setCell ?_ (.inr GW101.out) _) | exact HK.out)).1) (fun k_ h_ => .inr h_)) (below_size (by repeat (first | (with_reducible first | exact HB.out | apply below_alloc | apply pw_below_drewN | apply below_drew1 | refine below_set ?_ GE101.out) | exact HB.out)))); have n2_ := asd (blk_below (upB BK101.out) hb); have n3_ := asd (Kept.below (S := (fun k_ => P1_ k_)) (by repeat (first | (with_reducible first | exact HK.out | apply Kept.alloc | apply Kept.drewN | apply Kept.drew | refine Kept.setCell ?_ (.inr GW101.out) _) | exact HK.out)) hb); have n4_ := asd (below_step (by repeat (first | (with_reducible first | exact HB.out | apply below_alloc | apply pw_below_drewN | apply below_drew1 | refine below_set ?_ GE101.out) | exact HB.out)) hb); clear HO1; clear BK101; clear HK; clear HB; have HO1 := n0_; have HO104 := n1_; have BK101 := n2_; have HK := n3_; have HB := n4_; clear n0_ n1_ n2_ n3_ n4_; (try clear hb); (try clear hb2); (try clear hk); (try clear hi); (try clear ho0)))
 go_loopg [1, 2] k (fun kq v1 v2 w' => ∃ (x1_1 : List Int) (x2_1 : Int), v2 = .int .i64 x2_1 ∧ Aside0 (impl_Space_toward.l0 kq x1_1 x2_1 a3 t102 = some r) ∧ Aside0 (kq ≤ k) ∧ Aside0 (Kd.R (Kd.int .i64) 3 w' w0.heap.size (fun k_ => (P1_ k_ ∨ w.heap.size ≤ k_)) v1 x1_1) ∧ Aside0 (Kd.R Kd.bool 62 w' w0.heap.size (fun k_ => (P1_ k_ ∨ w.heap.size ≤ k_)) v103 t102) ∧ Aside0 (w'.heap[gb101]? = some (.cells #[.int .i64 a0_0, (.slice A0_1 l0_1.length c0_1)] 28 (0, 0))) ∧ Aside0 (Kept w w' (fun k_ => P1_ k_)) ∧ Aside0 (Below w0.heap.size w0 w'))
 case atStart => exact ⟨(l1), (a2), (by first | rfl | (simp; done) | (simp [*]; done)), H', ⟨Nat.le_refl _⟩, ⟨by (with_reducible repeat (first | apply Kd.R_alloc | apply Kd.R_drewN | apply Kd.R_drew)); exact HO1.out⟩, ⟨by (with_reducible repeat (first | apply Kd.R_alloc | apply Kd.R_drewN | apply Kd.R_drew)); exact Kd.R_mono HO104.out (fun _ hk => hk.1)⟩, ⟨by (with_reducible repeat (first | refine blk_drewN ?_ _ | refine blk_drew ?_ | refine blk_alloc ?_ _)); exact BK101.out⟩, ⟨by repeat (first | (with_reducible first | exact HK.out | apply Kept.alloc | apply Kept.drewN | apply Kept.drew | refine Kept.setCell ?_ (.inr GW101.out) _) | exact HK.out)⟩, ⟨by repeat (first | (with_reducible first | exact HB.out | apply below_alloc | apply pw_below_drewN | apply below_drew1 | refine below_set ?_ GE101.out) | exact HB.out)⟩⟩
 case round =>
  clear H'
  try clear p2
  try clear c4
  try clear c5
  try clear hcz7_0
  try clear hcz7_1
  try clear hfz7_0
  try clear hfz7_1
  try clear HO_1; try clear HO_9; try clear HK; skip
  obtain ⟨x1_1, x2_1, rfl, HA, HK1, HO_1, HO_9, BK101, HK, HB⟩ := hrel
  cases gk with
  | zero => exact absurd HA.out (by simp [impl_Space_toward.l0])
  | succ k1 =>
   have H := HA.out
   clear HA
   simp only [impl_Space_toward.l0] at H
   by_cases c9 : x2_1 = a3
   ·
    rw [if_pos c9] at H
    have c9b0 : (x2_1 == a3) = true := beq_iff_eq.mpr c9
    have c9b1 : (x2_1 != a3) = false := bne_eq_false_iff_eq.mpr c9
    clear c9
    obtain rfl := Option.some.inj H
    go_wp2
    go_ret
    exact ⟨_, by first | rfl | (simp [errW_none, errW_some] <;> rfl) | (simp [*, errW_none, errW_some] <;> rfl), by (with_reducible repeat (first | apply Kd.R_alloc | apply Kd.R_drewN | apply Kd.R_drew)); exact HO_1.out, by repeat (first | (with_reducible first | exact HB.out | apply below_alloc | apply pw_below_drewN | apply below_drew1 | refine below_set ?_ GE101.out) | exact HB.out), by repeat (first | (with_reducible first | exact HK.out | apply Kept.alloc | apply Kept.drewN | apply Kept.drew | refine Kept.setCell ?_ (.inr GW101.out) _) | exact HK.out)⟩
   ·
    rw [if_neg c9] at H
    have c9b0 : (x2_1 == a3) = false := beq_eq_false_iff_ne.mpr c9
    have c9b1 : (x2_1 != a3) = true := bne_iff_ne.mpr c9
    replace H := Option.bind_eq_some_iff.mp H
    obtain ⟨t105, A100, H⟩ := H
    replace H : ((impl_items.f k1 (Go.bits .and .i64 t105 a3)).bind fun t106 => (if (t106.length : Int) = 0 then (some x1_1) else (if 0 < (t106.length : Int) then (if x1_1.length < 17592186044416 then (if 0 ≤ (rd t106 0) then (impl_Space_toward.l0 k1 (x1_1 ++ [rd t106 0]) (Go.bits .or .i64 x2_1 (shl .i64 1 (rd t106 0))) a3 t102) else (none)) else (none)) else (none)))) = some r := H
    have A10 := asd A100
    clear A100
    replace H := Option.bind_eq_some_iff.mp H
    obtain ⟨t106, A110, H⟩ := H
    replace H : (if (t106.length : Int) = 0 then (some x1_1) else (if 0 < (t106.length : Int) then (if x1_1.length < 17592186044416 then (if 0 ≤ (rd t106 0) then (impl_Space_toward.l0 k1 (x1_1 ++ [rd t106 0]) (Go.bits .or .i64 x2_1 (shl .i64 1 (rd t106 0))) a3 t102) else (none)) else (none)) else (none))) = some r := H
    have A11 := asd A110
    clear A110
    by_cases c12 : (t106.length : Int) = 0
    ·
     rw [if_pos c12] at H
     have c12b0 : ((t106.length : Int) == 0) = true := beq_iff_eq.mpr c12
     have c12b1 : ((t106.length : Int) != 0) = false := bne_eq_false_iff_eq.mpr c12
     clear c12
     obtain rfl := Option.some.inj H
     obtain ⟨Ao13, co13, eo13⟩ := Kd.R_slice HO_9.out
     subst eo13
     (try simp only [ptrOf_slice])
     go_wp2_with (first | ((with_reducible refine gate_callee (f := 63) rfl ?_); refine goesL_ (some 18) rfl rfl Try.func63 (by kernel_rfl) rfl #[.pointer Ao13, .int .i64 x2_1] rfl (by (try simp only [List.map_toArray, List.map_cons, List.map_nil]); first | done | rfl | (simp only [List.length_drop, List.length_take]; rfl)) ?_; (with_reducible refine (impl_family_outer.calls _ co13 t102 x2_1 t105 _ ?side1 ?side2 A10.out).mono ?_); (case side1 => repeat (first | exact (Kd.R_reads' HO_9.out).2.2 | (with_reducible refine Kd.C_alloc ?_ _) | (with_reducible refine Kd.C_drewN ?_ _) | (with_reducible refine Kd.C_drew ?_))); (case side2 => exact (Kd.R_reads' HO_9.out).2.1); rintro e w' ⟨rfl, ⟨nd, rfl⟩⟩; refine ⟨_, rfl, ?_⟩) | ((with_reducible refine gate_callee (f := 57) rfl ?_); refine goesL_ (some 21) rfl rfl Try.func57 (by kernel_rfl) rfl #[.int .i64 (Go.bits .and .i64 t105 a3)] rfl (by (try simp only [List.map_toArray, List.map_cons, List.map_nil]); first | done | rfl | (simp only [List.length_drop, List.length_take]; rfl)) ?_; (with_reducible refine (impl_items.calls k1 (Go.bits .and .i64 t105 a3) t106 _ A11.out).mono ?_); rintro e w14 ⟨v107, rfl, ho0, hb⟩; refine ⟨_, rfl, ?_⟩; have n0_ := asd (Kd.R_elder' (upR <| HO_1.out) (Kd.R_base ho0) hb); have n1_ := asd (Kd.R_below (upR <| HO_9.out) hb); have n2_ := asd (Kd.R_lower (Kd.R_new' (Kd.R_newM (M := fun k_ => (P1_ k_ ∨ w.heap.size ≤ k_)) ho0 (by first | exact HK.out.1 | exact (show Kept w _ (fun k_ => P1_ k_) from by repeat (first | (with_reducible first | exact HK.out | apply Kept.alloc | apply Kept.drewN | apply Kept.drew | refine Kept.setCell ?_ (.inr GW101.out) _) | exact HK.out)).1) (fun k_ h_ => .inr h_)) (Kd.R_lt (upR <| HO_1.out))) (below_size (by repeat (first | (with_reducible first | exact HB.out | apply below_alloc | apply pw_below_drewN | apply below_drew1 | refine below_set ?_ GE101.out) | exact HB.out)))); have n3_ := asd (blk_below (upB BK101.out) hb); have n4_ := asd (Kept.below (S := (fun k_ => P1_ k_)) (by repeat (first | (with_reducible first | exact HK.out | apply Kept.alloc | apply Kept.drewN | apply Kept.drew | refine Kept.setCell ?_ (.inr GW101.out) _) | exact HK.out)) hb); have n5_ := asd (below_step (by repeat (first | (with_reducible first | exact HB.out | apply below_alloc | apply pw_below_drewN | apply below_drew1 | refine below_set ?_ GE101.out) | exact HB.out)) hb); clear HO_1; clear HO_9; clear BK101; clear HK; clear HB; have HO_1 := n0_; have HO_9 := n1_; have HO108 := n2_; have BK101 := n3_; have HK := n4_; have HB := n5_; clear n0_ n1_ n2_ n3_ n4_ n5_; (try clear hb); (try clear hb2); (try clear hk); (try clear hi); (try clear ho0); obtain ⟨Ao15, co15, eo15⟩ := Kd.R_slice HO108.out; subst eo15))
     go_ret
     exact ⟨_, by first | rfl | (simp [errW_none, errW_some] <;> rfl) | (simp [*, errW_none, errW_some] <;> rfl), by (with_reducible repeat (first | apply Kd.R_alloc | apply Kd.R_drewN | apply Kd.R_drew)); exact Kd.R_mono HO_1.out (fun _ hk => hk.1), by repeat (first | (with_reducible first | exact HB.out | apply below_alloc | apply pw_below_drewN | apply below_drew1 | refine below_set ?_ GE101.out) | exact HB.out), by repeat (first | (with_reducible first | exact HK.out | apply Kept.alloc | apply Kept.drewN | apply Kept.drew | refine Kept.setCell ?_ (.inr GW101.out) _) | exact HK.out)⟩
    ·
     rw [if_neg c12] at H
     have c12b0 : ((t106.length : Int) == 0) = false := beq_eq_false_iff_ne.mpr c12
     have c12b1 : ((t106.length : Int) != 0) = true := bne_iff_ne.mpr c12
     have c12b2 : ¬ (t106 = []) := fun h_ => c12 (by rw [h_]; rfl)
     by_cases c16 : 0 < (t106.length : Int)
     ·
      rw [if_pos c16] at H
      have c16b0 : decide (0 < (t106.length : Int)) = true := decide_eq_true c16
      have c16b1 : decide (0 < t106.length) = true := decide_eq_true (by omega)
      clear c16
      by_cases c17 : x1_1.length < 17592186044416
      ·
       rw [if_pos c17] at H
       have LMc17 := asd c17
       clear c17
       obtain ⟨y110, hy110⟩ : ∃ y_ : List Int, y_ = (x1_1 ++ [rd t106 0]) := ⟨_, rfl⟩
       replace H : (if 0 ≤ (rd t106 0) then (impl_Space_toward.l0 k1 y110 (Go.bits .or .i64 x2_1 (shl .i64 1 (rd t106 0))) a3 t102) else (none)) = some r := by first | (rw [hy110]; with_reducible exact H) | (have H2_ := (Option.bind_some _ _).symm.trans H; rw [hy110]; with_reducible exact H2_) | (have H2_ := (Option.bind_some _ _).symm.trans H; with_reducible exact H2_) | with_reducible exact H | (rw [hy110]; exact H) | exact H
       have Ny110 := asd hy110
       clear hy110
       by_cases c18 : 0 ≤ (rd t106 0)
       ·
        rw [if_pos c18] at H
        have c18b0 := eq_true c18
        have c18b1 : decide (0 ≤ (rd t106 0)) = true := decide_eq_true c18
        clear c18
        obtain ⟨ji19, hji19⟩ : ∃ j_ : Int, (shl .i64 1 (rd t106 0)) = j_ := ⟨_, rfl⟩
        replace H : (impl_Space_toward.l0 k1 y110 (Go.bits .or .i64 x2_1 (ji19)) a3 t102) = some r := by first | (rw [hji19] at H; exact H) | (simp only [hji19] at H ⊢; exact H)
        (try rw [hji19] at A10)
        (try rw [hji19] at A11)
        have hji19_ : (IntKind.i64.wrap (1 * 2 ^ min (rd t106 0).toNat 64)) = ji19 := hji19
        have hji19z : (rd t106 0) ≤ 64 → (IntKind.i64.wrap (1 * 2 ^ (rd t106 0).toNat)) = ji19 := shl_small hji19
        have hji19u : (IntKind.i64.wrap (2 ^ min (rd t106 0).toNat 64)) = ji19 := by have h_ := hji19_; rw [Int.one_mul] at h_; exact h_
        have hji19v : (rd t106 0) ≤ 64 → (IntKind.i64.wrap (2 ^ (rd t106 0).toNat)) = ji19 := fun hle_ => by have h_ := hji19z hle_; rw [Int.one_mul] at h_; exact h_
        have hji19y : (wrap64 (1 * 2 ^ min (rd t106 0).toNat 64)) = ji19 := (i64_w _).symm.trans hji19_
        have hji19x : (rd t106 0) ≤ 64 → (wrap64 (1 * 2 ^ (rd t106 0).toNat)) = ji19 := fun h_ => (i64_w _).symm.trans (hji19z h_)
        have H' := asd H
        clear H
        obtain ⟨Ao20, co20, eo20⟩ := Kd.R_slice HO_9.out
        subst eo20
        (try simp only [ptrOf_slice])
        try go_wp2_with (first | ((with_reducible refine gate_callee (f := 63) rfl ?_); refine goesL_ (some 18) rfl rfl Try.func63 (by kernel_rfl) rfl #[.pointer Ao20, .int .i64 x2_1] rfl (by (try simp only [List.map_toArray, List.map_cons, List.map_nil]); first | done | rfl | (simp only [List.length_drop, List.length_take]; rfl)) ?_; (with_reducible refine (impl_family_outer.calls _ co20 t102 x2_1 t105 _ ?side1 ?side2 A10.out).mono ?_); (case side1 => repeat (first | exact (Kd.R_reads' HO_9.out).2.2 | (with_reducible refine Kd.C_alloc ?_ _) | (with_reducible refine Kd.C_drewN ?_ _) | (with_reducible refine Kd.C_drew ?_))); (case side2 => exact (Kd.R_reads' HO_9.out).2.1); rintro e w' ⟨rfl, ⟨nd, rfl⟩⟩; refine ⟨_, rfl, ?_⟩) | ((with_reducible refine gate_callee (f := 57) rfl ?_); refine goesL_ (some 21) rfl rfl Try.func57 (by kernel_rfl) rfl #[.int .i64 (Go.bits .and .i64 t105 a3)] rfl (by (try simp only [List.map_toArray, List.map_cons, List.map_nil]); first | done | rfl | (simp only [List.length_drop, List.length_take]; rfl)) ?_; (with_reducible refine (impl_items.calls k1 (Go.bits .and .i64 t105 a3) t106 _ A11.out).mono ?_); rintro e w21 ⟨v107, rfl, ho0, hb⟩; refine ⟨_, rfl, ?_⟩; have n0_ := asd (Kd.R_elder' (upR <| HO_1.out) (Kd.R_base ho0) hb); have n1_ := asd (Kd.R_below (upR <| HO_9.out) hb); have n2_ := asd (Kd.R_lower (Kd.R_new' (Kd.R_newM (M := fun k_ => (P1_ k_ ∨ w.heap.size ≤ k_)) ho0 (by first | exact HK.out.1 | exact (show Kept w _ (fun k_ => P1_ k_) from by repeat (first | (with_reducible first | exact HK.out | apply Kept.alloc | apply Kept.drewN | apply Kept.drew | refine Kept.setCell ?_ (.inr GW101.out) _) | exact HK.out)).1) (fun k_ h_ => .inr h_)) (Kd.R_lt (upR <| HO_1.out))) (below_size (by repeat (first | (with_reducible first | exact HB.out | apply below_alloc | apply pw_below_drewN | apply below_drew1 | refine below_set ?_ GE101.out) | exact HB.out)))); have n3_ := asd (blk_below (upB BK101.out) hb); have n4_ := asd (Kept.below (S := (fun k_ => P1_ k_)) (by repeat (first | (with_reducible first | exact HK.out | apply Kept.alloc | apply Kept.drewN | apply Kept.drew | refine Kept.setCell ?_ (.inr GW101.out) _) | exact HK.out)) hb); have n5_ := asd (below_step (by repeat (first | (with_reducible first | exact HB.out | apply below_alloc | apply pw_below_drewN | apply below_drew1 | refine below_set ?_ GE101.out) | exact HB.out)) hb); clear HO_1; clear HO_9; clear BK101; clear HK; clear HB; have HO_1 := n0_; have HO_9 := n1_; have HO108 := n2_; have BK101 := n3_; have HK := n4_; have HB := n5_; clear n0_ n1_ n2_ n3_ n4_ n5_; (try clear hb); (try clear hb2); (try clear hk); (try clear hi); (try clear ho0); obtain ⟨Ao22, co22, eo22⟩ := Kd.R_slice HO108.out; subst eo22))
        have n0_ := asd (Kd.R_drew HO_1.out)
        have n1_ := asd (Kd.R_drew HO_9.out)
        have n2_ := asd (Kd.R_drew HO108.out)
        have n3_ := asd (blk_drew BK101.out)
        have n4_ := asd (Kept.drew HK.out)
        have n5_ := asd (below_drew1 HB.out)
        clear HO_1
        clear HO_9
        clear HO108
        clear BK101
        clear HK
        clear HB
        have HO_1 := n0_
        have HO_9 := n1_
        have HO108 := n2_
        have BK101 := n3_
        have HK := n4_
        have HB := n5_
        clear n0_ n1_ n2_ n3_ n4_ n5_
        have p109 : 0 ≤ (0 : Int) := (by omega)
        have q109 : 0 < (t106.length : Int) := of_decide_eq_true (by first | (with_reducible assumption) | assumption)
        obtain ⟨ad109, e109, hx109_0⟩ := Kd.at_int (Kd.R_reads' HO108.out).2.2 0 p109 q109
        cases e109
        have qi109 : (0 < t106.length) = True := eq_true (by omega)
        (try rw [show ((0 : Int)).toNat = 0 from rfl] at hx109_0)
        (try rw [Addr.add_zero'] at hx109_0)
        replace p109 := eq_true p109
        replace q109 := eq_true q109
        have p113 : 0 ≤ (0 : Int) := (by omega)
        have q113 : 0 < (t106.length : Int) := of_decide_eq_true (by first | (with_reducible assumption) | assumption)
        obtain ⟨ad113, e113, hx113_0⟩ := Kd.at_int (Kd.R_reads' HO108.out).2.2 0 p113 q113
        obtain rfl : ad109 = ad113 := (by injection e113)
        have qi113 : (0 < t106.length) = True := eq_true (by omega)
        (try rw [show ((0 : Int)).toNat = 0 from rfl] at hx113_0)
        (try rw [Addr.add_zero'] at hx113_0)
        replace p113 := eq_true p113
        replace q113 := eq_true q113
        refine start_ (n := 14) (S := fun w' => w'.cell? ad109 = some (.int .i64 (rd t106 0)) ∧ w'.cell? ad109 = some (.int .i64 (rd t106 0))) (ds := []) #[false, false, false, false, false, false, false, false, false, false, false, false, false, false] (by kernel_rfl) rfl rfl ⟨hx109_0, hx113_0⟩ (fun hHeld => ?_); refine with_tabW impl_Space_toward.tab5 impl_Space_toward.bits5 (fun HT_ HW_ => ?_)
        generalize w21.drew = w23 at HO_1 HO_9 HO108 BK101 HK HB hx109_0 hx113_0 hHeld ⊢
        refine pure_ (i := 0) (N := some 25) (v := ?_) (a' := ?_) #[true, false, false, false, false, false, false, false, false, false, false, false, false, false] rfl rfl (any_of HT_.out (by kernel_rfl)) (fun _ _ _ h => h) (Or.inl ⟨by rfl, ?_⟩) ?_ ?_
        rotate_left
        ·
         intro w'
         go_simp
         with_reducible rfl
        rotate_left
        ·
         simp only [Act.put, List.setIfInBounds_toArray, List.set_cons_zero, List.set_cons_succ, i64_w, i32_w]
         rfl
        refine pure_ (i := 1) (N := some 26) (v := ?_) (a' := ?_) #[true, true, false, false, false, false, false, false, false, false, false, false, false, false] rfl rfl (any_of HT_.out (by kernel_rfl)) (fun _ _ _ h => h) (Or.inl ⟨by rfl, ?_⟩) ?_ ?_
        rotate_left
        ·
         intro w'
         go_simp
         with_reducible rfl
        rotate_left
        ·
         simp only [Act.put, List.setIfInBounds_toArray, List.set_cons_zero, List.set_cons_succ, i64_w, i32_w]
         rfl
        refine pure_ (i := 2) (N := some 27) (v := ?_) (a' := ?_) #[true, true, true, false, false, false, false, false, false, false, false, false, false, false] rfl rfl (any_of HT_.out (by kernel_rfl)) (fun _ _ _ h => h) (Or.inl ⟨by rfl, ?_⟩) ?_ ?_
        rotate_left
        ·
         intro w'
         go_simp
         with_reducible rfl
        rotate_left
        ·
         simp only [Act.put, List.setIfInBounds_toArray, List.set_cons_zero, List.set_cons_succ, i64_w, i32_w]
         rfl
        refine pure_ (i := 6) (N := some 31) (v := ?_) (a' := ?_) #[true, true, true, false, false, false, true, false, false, false, false, false, false, false] rfl rfl (any_of HT_.out (by kernel_rfl)) (fun _ _ _ h => h) (Or.inl ⟨by rfl, ?_⟩) ?_ ?_
        rotate_left
        ·
         intro w'
         go_simp
         with_reducible rfl
        rotate_left
        ·
         simp only [Act.put, List.setIfInBounds_toArray, List.set_cons_zero, List.set_cons_succ, i64_w, i32_w]
         rfl
        refine pure_ (i := 7) (N := some 32) (v := ?_) (a' := ?_) #[true, true, true, false, false, false, true, true, false, false, false, false, false, false] rfl rfl (any_of HT_.out (by kernel_rfl)) (fun _ _ _ h => h) (Or.inl ⟨by rfl, ?_⟩) ?_ ?_
        rotate_left
        ·
         intro w'
         go_simp
         with_reducible rfl
        rotate_left
        ·
         simp only [Act.put, List.setIfInBounds_toArray, List.set_cons_zero, List.set_cons_succ, i64_w, i32_w]
         rfl
        refine pure_ (i := 8) (N := some 33) (v := ?_) (a' := ?_) #[true, true, true, false, false, false, true, true, true, false, false, false, false, false] rfl rfl (any_of HT_.out (by kernel_rfl)) (fun _ _ _ h => h) (Or.inl ⟨by rfl, ?_⟩) ?_ ?_
        rotate_left
        ·
         intro w'
         go_simp
         with_reducible rfl
        rotate_left
        ·
         simp only [Act.put, List.setIfInBounds_toArray, List.set_cons_zero, List.set_cons_succ, i64_w, i32_w]
         rfl
        refine take_ (i := 3) (N := some 28) (v := ?_) (a' := ?_) #[true, true, true, true, false, false, true, true, true, false, false, false, false, false] rfl rfl (take_ofW HT_.out HW_.out (by kernel_rfl)) (fun _ _ _ h => h) (Or.inl ⟨by rfl, ?_⟩) hHeld ?_ ?_
        rotate_left
        ·
         rintro w' ⟨s0, s1⟩
         go_simp
         with_reducible rfl
        rotate_left
        ·
         simp only [Act.put, List.setIfInBounds_toArray, List.set_cons_zero, List.set_cons_succ, i64_w, i32_w]
         rfl
        refine take_ (i := 9) (N := some 34) (v := ?_) (a' := ?_) #[true, true, true, true, false, false, true, true, true, true, false, false, false, false] rfl rfl (take_ofW HT_.out HW_.out (by kernel_rfl)) (fun _ _ _ h => h) (Or.inl ⟨by rfl, ?_⟩) hHeld ?_ ?_
        rotate_left
        ·
         rintro w' ⟨s0, s1⟩
         go_simp
         with_reducible rfl
        rotate_left
        ·
         simp only [Act.put, List.setIfInBounds_toArray, List.set_cons_zero, List.set_cons_succ, i64_w, i32_w]
         rfl
        refine pure_ (i := 10) (N := some 35) (v := ?_) (a' := ?_) #[true, true, true, true, false, false, true, true, true, true, true, false, false, false] rfl rfl (any_of HT_.out (by kernel_rfl)) (fun _ _ _ h => h) (Or.inl ⟨by rfl, ?_⟩) ?_ ?_
        rotate_left
        ·
         intro w'
         go_simp
         with_reducible rfl
        rotate_left
        ·
         simp only [Act.put, List.setIfInBounds_toArray, List.set_cons_zero, List.set_cons_succ, i64_w, i32_w]
         rfl
        refine pure_ (i := 11) (N := some 36) (v := ?_) (a' := ?_) #[true, true, true, true, false, false, true, true, true, true, true, true, false, false] rfl rfl (any_of HT_.out (by kernel_rfl)) (fun _ _ _ h => h) (Or.inl ⟨by rfl, ?_⟩) ?_ ?_
        rotate_left
        ·
         intro w'
         go_simp
         with_reducible rfl
        rotate_left
        ·
         simp only [Act.put, List.setIfInBounds_toArray, List.set_cons_zero, List.set_cons_succ, i64_w, i32_w]
         rfl
        refine one_ (i := 4) (N := some 29) #[true, true, true, true, true, false, true, true, true, true, true, true, false, false] rfl rfl (one_of HT_.out (by kernel_rfl)) (by decide) (fun K hK => ?_)
        refine value_ (w1 := ?_) (v := ?_) (by rfl) rfl ?_ ?_
        rotate_left 2
        ·
         go_simp
         constructor
         ·
          rfl
         ·
          rfl
        refine hK.out _ _ ⟨(World.cell?_alloc_lt _ _ _ (World.block_lt_of_cell? _ _ (hHeld.1))).trans (hHeld.1), (World.cell?_alloc_lt _ _ _ (World.block_lt_of_cell? _ _ (hHeld.2))).trans (hHeld.2)⟩ (fun hHeld => ?_)
        clear hK K
        refine norm_ (a' := ?_) ?_ ?_
        rotate_left
        ·
         show Act.put _ (some 29) _ = _
         simp only [Act.put, List.setIfInBounds_toArray, List.set_cons_zero, List.set_cons_succ, i64_w, i32_w]
         rfl
        refine one_ (i := 5) (N := some 30) #[true, true, true, true, true, true, true, true, true, true, true, true, false, false] rfl rfl (one_of HT_.out (by kernel_rfl)) (by decide) (fun K hK => ?_)
        refine Kd.R_append_step (Kd.int .i64) (w0 := w0) w0.heap.size (by rfl) (.tmp 25) (.tmp 29) 22 3 (.int .i64 0) 8 rfl Try.underlying22 info3 rfl (by decide) (by omega) u1 x1_1 (rd t106 0) [.int .i64 (rd t106 0)] (fun k_ => (P1_ k_ ∨ w.heap.size ≤ k_) ∧ some k_ ≠ (.slice (some ad109) t106.length co22 : Value).ownBlock) (fun _ => False) rfl rfl ?aP (fun _ hk => hk.elim) ?aF ?aO ?aB ?aS ?aL ?_
        (case aP => exact rfl)
        (case aB => exact (by repeat (first | (with_reducible first | exact HB.out | apply below_alloc | apply pw_below_drewN | apply below_drew1 | refine below_set ?_ GE101.out) | exact HB.out)))
        (case aF => exact (fun k_ hk => ⟨(.inr (Nat.le_trans (by first | exact HK.out.1 | exact (show Kept w _ (fun k_ => P1_ k_) from by repeat (first | (with_reducible first | exact HK.out | apply Kept.alloc | apply Kept.drewN | apply Kept.drew | refine Kept.setCell ?_ (.inr GW101.out) _) | exact HK.out)).1) hk)), Kd.fresh' (Kd.R_lt (upR <| HO108.out)) k_ hk⟩))
        (case aO => exact (upR <| HO_1.out))
        (case aS => exact (below_size (by repeat (first | (with_reducible first | exact HB.out | apply below_alloc | apply pw_below_drewN | apply below_drew1 | refine below_set ?_ GE101.out) | exact HB.out))))
        (case aL => have := LMc17.out; omega)
        intro v111 w24 ho hb hg hat
        (first | have HS0_ := cell_grown hg (hHeld.1) (by first | (rw [add_block]; exact (fun e_ => ((HO_1.out.1 _ e_.symm).2) rfl)) | (show some (Addr.add _ _).block ≠ _; rw [add_block]; exact (fun e_ => ((HO_1.out.1 _ e_.symm).2) rfl)) | exact (fun e_ => ((HO_1.out.1 _ e_.symm).2) rfl)) | have HS0_ := cell_grown hg (cell_unalloc (hHeld.1) (by first | (rw [add_block]; exact Kd.R_lt HO108.out _ rfl) | (show (Addr.add _ _).block < _; rw [add_block]; exact Kd.R_lt HO108.out _ rfl) | exact Kd.R_lt HO108.out _ rfl)) (by first | (rw [add_block]; exact (fun e_ => ((HO_1.out.1 _ e_.symm).2) rfl)) | (show some (Addr.add _ _).block ≠ _; rw [add_block]; exact (fun e_ => ((HO_1.out.1 _ e_.symm).2) rfl)) | exact (fun e_ => ((HO_1.out.1 _ e_.symm).2) rfl)))
        (first | have HS1_ := cell_grown hg (hHeld.2) (by first | (rw [add_block]; exact (fun e_ => ((HO_1.out.1 _ e_.symm).2) rfl)) | (show some (Addr.add _ _).block ≠ _; rw [add_block]; exact (fun e_ => ((HO_1.out.1 _ e_.symm).2) rfl)) | exact (fun e_ => ((HO_1.out.1 _ e_.symm).2) rfl)) | have HS1_ := cell_grown hg (cell_unalloc (hHeld.2) (by first | (rw [add_block]; exact Kd.R_lt HO108.out _ rfl) | (show (Addr.add _ _).block < _; rw [add_block]; exact Kd.R_lt HO108.out _ rfl) | exact Kd.R_lt HO108.out _ rfl)) (by first | (rw [add_block]; exact (fun e_ => ((HO_1.out.1 _ e_.symm).2) rfl)) | (show some (Addr.add _ _).block ≠ _; rw [add_block]; exact (fun e_ => ((HO_1.out.1 _ e_.symm).2) rfl)) | exact (fun e_ => ((HO_1.out.1 _ e_.symm).2) rfl)))
        rw [← Ny110.out] at ho
        have n0_ := asd (Kd.R_over' (upR <| HO_9.out) (Kd.R_typed (upR <| HO_1.out)) (by decide) hg)
        have n1_ := asd (blk_grown (upB BK101.out) hg (Kd.R_ne HO_1.out BK101.out (by decide)))
        have n2_ := asd (Kd.R_after (ok := (fun k_ => (P1_ k_ ∨ w.heap.size ≤ k_))) (upR <| Kd.R_mono HO108.out (fun _ hk => ⟨hk.1.1, hk.2⟩)) hg hat)
        have n3_ := asd (hb)
        have n4_ := asd (Kept.of_grown (S := (fun k_ => P1_ k_)) hg (by repeat (first | (with_reducible first | exact HK.out | apply Kept.alloc | apply Kept.drewN | apply Kept.drew | refine Kept.setCell ?_ (.inr GW101.out) _) | exact HK.out)) (fun k_ e_ => (HO_1.out.1 k_ e_).1))
        have n5_ := asd (ho)
        clear HO_9
        clear BK101
        clear HO108
        clear HB
        clear HK
        clear HO_1
        have HO_9 := n0_
        have BK101 := n1_
        have HO108 := n2_
        have HB := n3_
        have HK := n4_
        have HO112 := n5_
        clear n0_ n1_ n2_ n3_ n4_ n5_
        clear ho hb hg hat
        refine hK.out _ _ ⟨HS0_, HS1_⟩ (fun hHeld => ?_)
        clear hK K
        refine norm_ (a' := ?_) ?_ ?_
        rotate_left
        ·
         show Act.put _ (some 30) _ = _
         simp only [Act.put, List.setIfInBounds_toArray, List.set_cons_zero, List.set_cons_succ, i64_w, i32_w]
         rfl
        refine pure_ (i := 12) (N := some 1) (v := ?_) (a' := ?_) #[true, true, true, true, true, true, true, true, true, true, true, true, true, false] rfl rfl (any_of HT_.out (by kernel_rfl)) (fun _ _ _ h => h) (Or.inl ⟨by rfl, ?_⟩) ?_ ?_
        rotate_left
        ·
         intro w'
         go_simp
         with_reducible rfl
        rotate_left
        ·
         simp only [Act.put, List.setIfInBounds_toArray, List.set_cons_zero, List.set_cons_succ, i64_w, i32_w]
         rfl
        refine pure_ (i := 13) (N := some 2) (v := ?_) (a' := ?_) #[true, true, true, true, true, true, true, true, true, true, true, true, true, true] rfl rfl (any_of HT_.out (by kernel_rfl)) (fun _ _ _ h => h) (Or.inl ⟨by rfl, ?_⟩) ?_ ?_
        rotate_left
        ·
         intro w'
         go_simp
         with_reducible rfl
        rotate_left
        ·
         simp only [Act.put, List.setIfInBounds_toArray, List.set_cons_zero, List.set_cons_succ, i64_w, i32_w]
         rfl
        refine done_ (done_of HT_.out (by kernel_rfl)) ?_
        try go_wp2
        go_roundg k1
        case measure => have := HK1.out; omega
        case rel => exact ⟨(y110), (Go.bits .or .i64 x2_1 (ji19)), (by first | rfl | (simp; done) | (simp only [← hji19] <;> (first | rfl | simp)) | (simp [*]; done)), H', ⟨by have := HK1.out; omega⟩, ⟨by (with_reducible repeat (first | apply Kd.R_alloc | apply Kd.R_drewN | apply Kd.R_drew)); exact Kd.R_mono HO112.out (fun _ hk => hk.1)⟩, ⟨by (with_reducible repeat (first | apply Kd.R_alloc | apply Kd.R_drewN | apply Kd.R_drew)); exact HO_9.out⟩, ⟨by (with_reducible repeat (first | refine blk_drewN ?_ _ | refine blk_drew ?_ | refine blk_alloc ?_ _)); exact BK101.out⟩, ⟨by repeat (first | (with_reducible first | exact HK.out | apply Kept.alloc | apply Kept.drewN | apply Kept.drew | refine Kept.setCell ?_ (.inr GW101.out) _) | exact HK.out)⟩, ⟨by repeat (first | (with_reducible first | exact HB.out | apply below_alloc | apply pw_below_drewN | apply below_drew1 | refine below_set ?_ GE101.out) | exact HB.out)⟩⟩
       ·
        rw [if_neg c18] at H
        exact absurd H (by simp)
      ·
       rw [if_neg c17] at H
       exact absurd H (by simp)
     ·
      rw [if_neg c16] at H
      exact absurd H (by simp)

/-! ### impl_Space_through: function 35 -/
def impl_Space_through.l0 : Nat → List Int → Int → List Int → Int → Int → Int → List Int → Option (List Int)
 | 0, _, _, _, _, _, _, _ => none
 | k + 1, x5, x6, x15, x16, x17, x102000, x102001 => if x17 < x16 then (if 0 ≤ x17 then (if x17 < (x15.length : Int) then ((impl_Space_toward.f k x102000 x102001 x5 x6 (rd x15 x17)).bind fun t113 => (impl_Space_through.l0 k t113 (rd x15 x17) x15 x16 (wrap64 (x17 + 1)) x102000 x102001)) else (none)) else (none)) else (some x5)
def impl_Space_through.f (k : Nat) (a0_0 : Int) (l0_1 : List Int) (l1 : List Int) : Option (List Int) := (slices_Clone_int_int.f l1).bind fun t105 => ((impl_Space_all.f a0_0 l0_1).bind fun t108 => (if t105.length < 17592186044416 then ((some (t105 ++ [t108] : List Int)).bind fun y109 => (impl_Space_through.l0 k (([] : List Int)) 0 y109 (y109.length : Int) 0 a0_0 l0_1)) else (none)))
theorem impl_Space_through.mono_l : ∀ k, (∀ y0 y1 y2 y3 y4 y5 y6, LeO (impl_Space_through.l0 k y0 y1 y2 y3 y4 y5 y6) (impl_Space_through.l0 (k + 1) y0 y1 y2 y3 y4 y5 y6))
 | 0 => fun _ _ _ _ _ _ _ r h => by simp [impl_Space_through.l0] at h
 | k + 1 => by
  have ih0 := impl_Space_through.mono_l k
  ·
   intro y0 y1 y2 y3 y4 y5 y6
   unfold impl_Space_through.l0
   repeat' first
   | (with_reducible exact ih0 _ _ _ _ _ _ _)
   | (with_reducible exact impl_Space_toward.mono _ _ _ _ _ _)
   | (with_reducible exact LeO.refl _)
   | (with_reducible exact LeO.none _)
   | (with_reducible refine LeO.ite ?_ ?_)
   | (with_reducible refine LeO.bind ?_ (fun _ => ?_))
   | exact ih0 _ _ _ _ _ _ _
   | exact impl_Space_toward.mono _ _ _ _ _ _
   | exact LeO.none _
   | refine LeO.ite ?_ ?_
   | refine LeO.bind ?_ (fun _ => ?_)
theorem impl_Space_through.mono : ∀ a0 a1 a2 k, LeO (impl_Space_through.f k a0 a1 a2) (impl_Space_through.f (k + 1) a0 a1 a2) := by
 intro a0 a1 a2 k
 have ih0 := impl_Space_through.mono_l k
 unfold impl_Space_through.f
 repeat' first
   | (with_reducible exact ih0 _ _ _ _ _ _ _)
   | (with_reducible exact impl_Space_toward.mono _ _ _ _ _ _)
   | (with_reducible exact LeO.refl _)
   | (with_reducible exact LeO.none _)
   | (with_reducible refine LeO.ite ?_ ?_)
   | (with_reducible refine LeO.bind ?_ (fun _ => ?_))
   | exact ih0 _ _ _ _ _ _ _
   | exact impl_Space_toward.mono _ _ _ _ _ _
   | exact LeO.none _
   | refine LeO.ite ?_ ?_
   | refine LeO.bind ?_ (fun _ => ?_)
def impl_Space_through.T2 : Bool × List (List Nat × List Nat) := (true, [([], []), ([0], [0]), ([], []), ([2, 1], [2]), ([3], [3]), ([1, 4, 3], [1, 4]), ([5], [5]), ([], [])])
def impl_Space_through.B2 : List Nat := [0, 1, 0, 7, 15, 31, 63, 0]
theorem impl_Space_through.tab2 : rtab .any (opsOf Try.f35 2) = impl_Space_through.T2 := by kernel_rfl
theorem impl_Space_through.bits2 : waitsOk impl_Space_through.T2.2 impl_Space_through.B2 = true := by kernel_rfl
set_option maxHeartbeats 8000000 in
set_option maxRecDepth 100000 in
theorem impl_Space_through.calls (k : Nat) (a0_0 : Int) (A0_1 : Option Addr) (c0_1 : Nat) (l0_1 : List Int) (A1 : Option Addr) (c1 : Nat) (l1 : List Int) (r : List Int) (w : World) (hr0_1 : Kd.C (Kd.int .i64) w A0_1 l0_1.length l0_1) (hc0_1 : l0_1.length ≤ c0_1) (hr1 : Kd.C (Kd.int .i64) w A1 l1.length l1) (hc1 : l1.length ≤ c1) (h : impl_Space_through.f k a0_0 l0_1 l1 = some r) :
  Calls Try.prog 35 #[.agg #[.int .i64 a0_0, .slice A0_1 l0_1.length c0_1], .slice A1 l1.length c1] w fun e w' => ∃ v0_ : Value, e = .returned (v0_) ∧ Kd.R (Kd.int .i64) 3 w' w.heap.size (fun _ => True) v0_ r ∧ Below w.heap.size w w' := by
 have hu28 := Try.underlying28
 have HR0_1 := asd hr0_1
 have HC0_1 := asd hc0_1
 clear hr0_1 hc0_1
 have HR1 := asd hr1
 have HC1 := asd hc1
 clear hr1 hc1
 have HB := asd (Below.refl w.heap.size w)
 have H : ((slices_Clone_int_int.f l1).bind fun t105 => ((impl_Space_all.f a0_0 l0_1).bind fun t108 => (if t105.length < 17592186044416 then ((some (t105 ++ [t108] : List Int)).bind fun y109 => (impl_Space_through.l0 k (([] : List Int)) 0 y109 (y109.length : Int) 0 a0_0 l0_1)) else (none)))) = some r := h
 clear h
 obtain ⟨y102, hy102⟩ : ∃ y_ : List Int, y_ = (([] : List Int)) := ⟨_, rfl⟩
 replace H : ((slices_Clone_int_int.f l1).bind fun t105 => ((impl_Space_all.f a0_0 l0_1).bind fun t108 => (if t105.length < 17592186044416 then ((some (t105 ++ [t108] : List Int)).bind fun y109 => (impl_Space_through.l0 k y102 0 y109 (y109.length : Int) 0 a0_0 l0_1)) else (none)))) = some r := by first | (rw [hy102]; with_reducible exact H) | (have H2_ := (Option.bind_some _ _).symm.trans H; rw [hy102]; with_reducible exact H2_) | (have H2_ := (Option.bind_some _ _).symm.trans H; with_reducible exact H2_) | with_reducible exact H | (rw [hy102]; exact H) | exact H
 have Ny102 := asd hy102
 clear hy102
 replace H := Option.bind_eq_some_iff.mp H
 obtain ⟨t105, A30, H⟩ := H
 replace H : ((impl_Space_all.f a0_0 l0_1).bind fun t108 => (if t105.length < 17592186044416 then ((some (t105 ++ [t108] : List Int)).bind fun y109 => (impl_Space_through.l0 k y102 0 y109 (y109.length : Int) 0 a0_0 l0_1)) else (none))) = some r := H
 have A3 := asd A30
 clear A30
 replace H := Option.bind_eq_some_iff.mp H
 obtain ⟨t108, A40, H⟩ := H
 replace H : (if t105.length < 17592186044416 then ((some (t105 ++ [t108] : List Int)).bind fun y109 => (impl_Space_through.l0 k y102 0 y109 (y109.length : Int) 0 a0_0 l0_1)) else (none)) = some r := H
 have A4 := asd A40
 clear A40
 by_cases c5 : t105.length < 17592186044416
 ·
  rw [if_pos c5] at H
  have LMc5 := asd c5
  clear c5
  obtain ⟨y109, hy109⟩ : ∃ y_ : List Int, y_ = (t105 ++ [t108]) := ⟨_, rfl⟩
  replace H : (impl_Space_through.l0 k y102 0 y109 (y109.length : Int) 0 a0_0 l0_1) = some r := by first | (rw [hy109]; with_reducible exact H) | (have H2_ := (Option.bind_some _ _).symm.trans H; rw [hy109]; with_reducible exact H2_) | (have H2_ := (Option.bind_some _ _).symm.trans H; with_reducible exact H2_) | with_reducible exact H | (rw [hy109]; exact H) | exact H
  have Ny109 := asd hy109
  clear hy109
  have H' := asd H
  clear H
  go_enter Try.func35, Try.ntmps35
  try go_wp2_with (first | ((with_reducible refine gate_dst (N := 2) rfl ?_); refine box_event ?hg (N := 2) ?hd (cs := #[.int .i64 a0_0, .slice A0_1 l0_1.length c0_1]) (t := 28) ?hr ?_; (case hd => rfl); (case hg => rfl); (case hr => first | (go_simp; done) | (go_simp; rfl)); intro gb101 hg w6 hbox hb; have n0_ := asd (below_step (by repeat (first | (with_reducible first | exact HB.out | apply below_alloc | apply pw_below_drewN | apply below_drew1) | exact HB.out)) hb); have n1_ := asd (hbox); have n2_ := asd ((by rw [hg]; exact (below_size (by repeat (first | (with_reducible first | exact HB.out | apply below_alloc | apply pw_below_drewN | apply below_drew1) | exact HB.out))) : w.heap.size ≤ gb101)); have n3_ := asd ((by rw [hg]; exact (below_size (by repeat (first | (with_reducible first | exact HB.out | apply below_alloc | apply pw_below_drewN | apply below_drew1) | exact HB.out))) : w.heap.size ≤ gb101)); clear HB; have HB := n0_; have BK101 := n1_; have GW101 := n2_; have GE101 := n3_; clear n0_ n1_ n2_ n3_; clear hb hbox hg) | ((with_reducible refine gate_dst (N := 9) rfl ?_); refine Kd.R_lit (Kd.int .i64) _ 3 ?hg (N := 9) ?hd (xs := ([] : List Int)) (inner := []) (ok := fun _ => True) (okp := fun _ => True) ?hr ?hp (fun _ hk => hk) trivial (Below.refl _ _) (Nat.le_refl _) (by simp) ?_; (case hd => rfl); (case hg => rfl); (case hr => first | (go_simp; done) | (go_simp; rfl)); (case hp => exact (Reps.none _ _)); intro v103 w7 ho8 hb hg_ hnew_; clear hg_ hnew_; (first | rw [← Ny102.out] at ho8 | (simp only [Int.reduceToNat] at ho8; rw [← Ny102.out] at ho8)); have n0_ := asd (Kd.R_lower ho8 (below_size (by repeat (first | (with_reducible first | exact HB.out | apply below_alloc | apply pw_below_drewN | apply below_drew1 | refine below_set ?_ GE101.out) | exact HB.out)))); have n1_ := asd (blk_below (upB BK101.out) hb); have n2_ := asd (below_step (by repeat (first | (with_reducible first | exact HB.out | apply below_alloc | apply pw_below_drewN | apply below_drew1 | refine below_set ?_ GE101.out) | exact HB.out)) hb); clear BK101; clear HB; have HO104 := n0_; have BK101 := n1_; have HB := n2_; clear n0_ n1_ n2_; clear hb ho8))
  have n0_ := asd (Kd.R_drew HO104.out)
  have n1_ := asd (blk_drew BK101.out)
  have n2_ := asd (below_drew1 HB.out)
  clear HO104
  clear BK101
  clear HB
  have HO104 := n0_
  have BK101 := n1_
  have HB := n2_
  clear n0_ n1_ n2_
  refine start_ (n := 8) (S := fun w' => w'.cell? ⟨gb101, 0, none⟩ = some (.int .i64 a0_0) ∧ w'.cell? ⟨gb101, 1, none⟩ = some (.slice A0_1 l0_1.length c0_1)) (ds := []) #[false, false, false, false, false, false, false, false] (by kernel_rfl) rfl rfl ⟨(blk_cell BK101.out 0).trans rfl, (blk_cell BK101.out 1).trans rfl⟩ (fun hHeld => ?_); refine with_tabW impl_Space_through.tab2 impl_Space_through.bits2 (fun HT_ HW_ => ?_)
  generalize w7.drew = w9 at HO104 BK101 HB hHeld ⊢
  refine pure_ (i := 0) (N := some 10) (v := ?_) (a' := ?_) #[true, false, false, false, false, false, false, false] rfl rfl (any_of HT_.out (by kernel_rfl)) (fun _ _ _ h => h) (Or.inl ⟨by rfl, ?_⟩) ?_ ?_
  rotate_left
  ·
   intro w'
   go_simp
   with_reducible rfl
  rotate_left
  ·
   simp only [Act.put, List.setIfInBounds_toArray, List.set_cons_zero, List.set_cons_succ, i64_w, i32_w]
   rfl
  refine pure_ (i := 7) (N := some 17) (v := ?_) (a' := ?_) #[true, false, false, false, false, false, false, true] rfl rfl (any_of HT_.out (by kernel_rfl)) (fun _ _ _ h => h) (Or.inl ⟨by rfl, ?_⟩) ?_ ?_
  rotate_left
  ·
   intro w'
   go_simp
   with_reducible rfl
  rotate_left
  ·
   simp only [Act.put, List.setIfInBounds_toArray, List.set_cons_zero, List.set_cons_succ, i64_w, i32_w]
   rfl
  refine take_ (i := 2) (N := some 12) (v := ?_) (a' := ?_) #[true, false, true, false, false, false, false, true] rfl rfl (take_ofW HT_.out HW_.out (by kernel_rfl)) (fun _ _ _ h => h) (Or.inl ⟨by rfl, ?_⟩) hHeld ?_ ?_
  rotate_left
  ·
   rintro w' ⟨s0, s1⟩
   go_simp
   with_reducible rfl
  rotate_left
  ·
   simp only [Act.put, List.setIfInBounds_toArray, List.set_cons_zero, List.set_cons_succ, i64_w, i32_w]
   rfl
  refine one_ (i := 1) (N := some 11) #[true, true, true, false, false, false, false, true] rfl rfl (one_of HT_.out (by kernel_rfl)) (by decide) (fun K hK => ?_)
  refine goes_ Try.func52 (by kernel_rfl) rfl #[.slice A1 l1.length c1] (by rfl) rfl rfl (by (try simp only [List.map_toArray, List.map_cons, List.map_nil]); first | done | rfl | (simp only [List.length_drop, List.length_take]; rfl)) ?_
  with_reducible refine (slices_Clone_int_int.calls _ _ l1 t105 _ ?side1 ?side2 A3.out).mono ?_
  (case side1 => repeat (first | exact (Kd.C_below HR1.out HB.out) | (with_reducible refine Kd.C_alloc ?_ _) | (with_reducible refine Kd.C_drewN ?_ _) | (with_reducible refine Kd.C_drew ?_)))
  (case side2 => exact HC1.out)
  rintro e w10 ⟨v106, rfl, ho0, hb⟩
  refine ⟨_, rfl, ?_⟩
  have n0_ := asd (Kd.R_elder' (upR <| HO104.out) (Kd.R_base ho0) hb)
  have n1_ := asd (Kd.R_lower (Kd.R_new' ho0 (Kd.R_lt (upR <| HO104.out))) (below_size (by repeat (first | (with_reducible first | exact HB.out | apply below_alloc | apply pw_below_drewN | apply below_drew1 | refine below_set ?_ GE101.out) | exact HB.out))))
  have n2_ := asd (blk_below (upB BK101.out) hb)
  have n3_ := asd (below_step (by repeat (first | (with_reducible first | exact HB.out | apply below_alloc | apply pw_below_drewN | apply below_drew1 | refine below_set ?_ GE101.out) | exact HB.out)) hb)
  clear HO104
  clear BK101
  clear HB
  have HO104 := n0_
  have HO107 := n1_
  have BK101 := n2_
  have HB := n3_
  clear n0_ n1_ n2_ n3_
  (try clear hb)
  (try clear hb2)
  (try clear hk)
  (try clear hi)
  (try clear ho0)
  refine hK.out _ _ ⟨(blk_cell BK101.out 0).trans rfl, (blk_cell BK101.out 1).trans rfl⟩ (fun hHeld => ?_)
  clear hK K
  refine norm_ (a' := ?_) ?_ ?_
  rotate_left
  ·
   show Act.put _ (some 11) _ = _
   simp only [Act.put, List.setIfInBounds_toArray, List.set_cons_zero, List.set_cons_succ, i64_w, i32_w]
   rfl
  refine one_ (i := 3) (N := some 13) #[true, true, true, true, false, false, false, true] rfl rfl (one_of HT_.out (by kernel_rfl)) (by decide) (fun K hK => ?_)
  refine goes_ Try.func45 (by kernel_rfl) rfl #[.agg #[.int .i64 a0_0, .slice A0_1 l0_1.length c0_1]] (by rfl) rfl rfl (by (try simp only [List.map_toArray, List.map_cons, List.map_nil]); first | done | rfl | (simp only [List.length_drop, List.length_take]; rfl)) ?_
  with_reducible refine (impl_Space_all.calls a0_0 _ _ l0_1 t108 _ ?side1 ?side2 A4.out).mono ?_
  (case side1 => repeat (first | exact (Kd.C_below HR0_1.out HB.out) | (with_reducible refine Kd.C_alloc ?_ _) | (with_reducible refine Kd.C_drewN ?_ _) | (with_reducible refine Kd.C_drew ?_)))
  (case side2 => exact HC0_1.out)
  rintro e w11 ⟨rfl, hb⟩
  refine ⟨_, rfl, ?_⟩
  have n0_ := asd (Kd.R_below (upR <| HO104.out) hb)
  have n1_ := asd (Kd.R_below (upR <| HO107.out) hb)
  have n2_ := asd (blk_below (upB BK101.out) hb)
  have n3_ := asd (below_step (by repeat (first | (with_reducible first | exact HB.out | apply below_alloc | apply pw_below_drewN | apply below_drew1 | refine below_set ?_ GE101.out) | exact HB.out)) hb)
  clear HO104
  clear HO107
  clear BK101
  clear HB
  have HO104 := n0_
  have HO107 := n1_
  have BK101 := n2_
  have HB := n3_
  clear n0_ n1_ n2_ n3_
  (try clear hb)
  (try clear hb2)
  (try clear hk)
  (try clear hi)
  refine hK.out _ _ ⟨(blk_cell BK101.out 0).trans rfl, (blk_cell BK101.out 1).trans rfl⟩ (fun hHeld => ?_)
  clear hK K
  refine norm_ (a' := ?_) ?_ ?_
  rotate_left
  ·
   show Act.put _ (some 13) _ = _
   simp only [Act.put, List.setIfInBounds_toArray, List.set_cons_zero, List.set_cons_succ, i64_w, i32_w]
   rfl
  refine one_ (i := 4) (N := some 14) #[true, true, true, true, true, false, false, true] rfl rfl (one_of HT_.out (by kernel_rfl)) (by decide) (fun K hK => ?_)
  refine value_ (w1 := ?_) (v := ?_) (by rfl) rfl ?_ ?_
  rotate_left 2
  ·
   go_simp
   constructor
   ·
    rfl
   ·
    rfl
  refine hK.out _ _ ⟨(blk_cell (blk_alloc BK101.out _) 0).trans rfl, (blk_cell (blk_alloc BK101.out _) 1).trans rfl⟩ (fun hHeld => ?_)
  clear hK K
  refine norm_ (a' := ?_) ?_ ?_
  rotate_left
  ·
   show Act.put _ (some 14) _ = _
   simp only [Act.put, List.setIfInBounds_toArray, List.set_cons_zero, List.set_cons_succ, i64_w, i32_w]
   rfl
  refine one_ (i := 5) (N := some 15) #[true, true, true, true, true, true, false, true] rfl rfl (one_of HT_.out (by kernel_rfl)) (by decide) (fun K hK => ?_)
  refine Kd.R_append_step (Kd.int .i64) (w0 := w) w.heap.size (by rfl) (.tmp 11) (.tmp 14) 22 3 (.int .i64 0) 8 rfl Try.underlying22 info3 rfl (by decide) (by omega) v106 t105 t108 [.int .i64 t108] (fun k_ => some k_ ≠ (v103 : Value).ownBlock) (fun _ => False) rfl rfl ?aP (fun _ hk => hk.elim) ?aF ?aO ?aB ?aS ?aL ?_
  (case aP => exact rfl)
  (case aB => exact (by repeat (first | (with_reducible first | exact HB.out | apply below_alloc | apply pw_below_drewN | apply below_drew1 | refine below_set ?_ GE101.out) | exact HB.out)))
  (case aF => exact (fun k_ hk => Kd.fresh' (Kd.R_lt (upR <| HO104.out)) k_ hk))
  (case aO => exact (upR <| Kd.R_mono HO107.out (fun _ hk => hk.2)))
  (case aS => exact (below_size (by repeat (first | (with_reducible first | exact HB.out | apply below_alloc | apply pw_below_drewN | apply below_drew1 | refine below_set ?_ GE101.out) | exact HB.out))))
  (case aL => have := LMc5.out; omega)
  intro v110 w12 ho hb hg hat
  rw [← Ny109.out] at ho
  have n0_ := asd (blk_grown (upB BK101.out) hg (Kd.R_ne HO107.out BK101.out (by decide)))
  have n1_ := asd (Kd.R_after (ok := (fun _ => True)) (upR <| HO104.out) hg hat)
  have n2_ := asd (hb)
  have n3_ := asd (ho)
  clear BK101
  clear HO104
  clear HB
  clear HO107
  have BK101 := n0_
  have HO104 := n1_
  have HB := n2_
  have HO111 := n3_
  clear n0_ n1_ n2_ n3_
  clear ho hb hg hat
  obtain ⟨Ao13, co13, eo13⟩ := Kd.R_slice HO111.out
  (first | subst eo13 | (injection eo13 with f1_ f2_ f3_; have f4_ := f1_.symm; have f5_ := f3_.symm; clear f1_ f2_ f3_; subst f4_; subst f5_))
  refine hK.out _ _ ⟨(blk_cell BK101.out 0).trans rfl, (blk_cell BK101.out 1).trans rfl⟩ (fun hHeld => ?_)
  clear hK K
  refine norm_ (a' := ?_) ?_ ?_
  rotate_left
  ·
   show Act.put _ (some 15) _ = _
   simp only [Act.put, List.setIfInBounds_toArray, List.set_cons_zero, List.set_cons_succ, i64_w, i32_w]
   rfl
  refine pure_ (i := 6) (N := some 16) (v := ?_) (a' := ?_) #[true, true, true, true, true, true, true, true] rfl rfl (any_of HT_.out (by kernel_rfl)) (fun _ _ _ h => h) (Or.inl ⟨by rfl, ?_⟩) ?_ ?_
  rotate_left
  ·
   intro w'
   go_simp
   with_reducible rfl
  rotate_left
  ·
   simp only [Act.put, List.setIfInBounds_toArray, List.set_cons_zero, List.set_cons_succ, i64_w, i32_w]
   rfl
  refine done_ (done_of HT_.out (by kernel_rfl)) ?_
  try go_wp2
  go_loopg [5, 6, 17] k (fun kq v5 v6 v17 w' => ∃ (x5_1 : List Int) (x6_1 : Int) (x17_1 : Int), v6 = .int .i64 x6_1 ∧ v17 = .int .i64 x17_1 ∧ Aside0 (impl_Space_through.l0 kq x5_1 x6_1 y109 (y109.length : Int) x17_1 a0_0 l0_1 = some r) ∧ Aside0 (kq ≤ k) ∧ Aside0 (Kd.R (Kd.int .i64) 3 w' w.heap.size (fun k_ => some k_ ≠ ((.slice Ao13 y109.length co13) : Value).ownBlock) v5 x5_1) ∧ Aside0 (Kd.R (Kd.int .i64) 3 w' w.heap.size (fun k_ => some k_ ≠ (v5 : Value).ownBlock) (.slice Ao13 y109.length co13) y109) ∧ Aside0 (w'.heap[gb101]? = some (.cells #[.int .i64 a0_0, (.slice A0_1 l0_1.length c0_1)] 28 (0, 0))) ∧ Aside0 (Below w.heap.size w w'))
  case atStart => exact ⟨(y102), (0), (0), (by first | rfl | (simp; done) | (simp [*]; done)), (by first | rfl | (simp; done) | (simp [*]; done)), H', ⟨Nat.le_refl _⟩, ⟨by (with_reducible repeat (first | apply Kd.R_alloc | apply Kd.R_drewN | apply Kd.R_drew)); exact Kd.R_mono HO104.out (fun _ hk => hk.2)⟩, ⟨by (with_reducible repeat (first | apply Kd.R_alloc | apply Kd.R_drewN | apply Kd.R_drew)); exact HO111.out⟩, ⟨by (with_reducible repeat (first | refine blk_drewN ?_ _ | refine blk_drew ?_ | refine blk_alloc ?_ _)); exact BK101.out⟩, ⟨by repeat (first | (with_reducible first | exact HB.out | apply below_alloc | apply pw_below_drewN | apply below_drew1 | refine below_set ?_ GE101.out) | exact HB.out)⟩⟩
  case round =>
   clear H'
   try clear c1
   try clear p2
   try clear c3
   try clear c4
   try clear c5
   try clear HO_5; try clear HO_15; skip
   obtain ⟨x5_1, x6_1, x17_1, rfl, rfl, HA, HK1, HO_5, HO_15, BK101, HB⟩ := hrel
   cases gk with
   | zero => exact absurd HA.out (by simp [impl_Space_through.l0])
   | succ k1 =>
    have H := HA.out
    clear HA
    simp only [impl_Space_through.l0] at H
    by_cases c14 : x17_1 < (y109.length : Int)
    ·
     rw [if_pos c14] at H
     have c14b0 : decide (x17_1 < (y109.length : Int)) = true := decide_eq_true c14
     clear c14
     by_cases c15 : 0 ≤ x17_1
     ·
      rw [if_pos c15] at H
      have c15b0 : decide (0 ≤ x17_1) = true := decide_eq_true c15
      clear c15
      by_cases c16 : x17_1 < (y109.length : Int)
      ·
       rw [if_pos c16] at H
       have c16b0 : decide (x17_1 < (y109.length : Int)) = true := decide_eq_true c16
       clear c16
       replace H := Option.bind_eq_some_iff.mp H
       obtain ⟨t113, A170, H⟩ := H
       replace H : (impl_Space_through.l0 k1 t113 (rd y109 x17_1) y109 (y109.length : Int) (wrap64 (x17_1 + 1)) a0_0 l0_1) = some r := H
       have A17 := asd A170
       clear A170
       have H' := asd H
       clear H
       have p112 : 0 ≤ (x17_1 : Int) := of_decide_eq_true (by first | (with_reducible assumption) | assumption)
       have q112 : x17_1 < (y109.length : Int) := of_decide_eq_true (by first | (with_reducible assumption) | assumption)
       obtain ⟨ad112, e112, hx112_0⟩ := Kd.at_int (Kd.R_reads' HO_15.out).2.2 x17_1 p112 q112
       cases e112
       replace p112 := eq_true p112
       replace q112 := eq_true q112
       have hcz18_0 : wr.cell? ⟨gb101, 0, none⟩ = some (.int .i64 a0_0) := (blk_cell BK101.out 0).trans rfl
       have hcz18_1 : wr.cell? ⟨gb101, 1, none⟩ = some (.slice A0_1 l0_1.length c0_1) := (blk_cell BK101.out 1).trans rfl
       have hfz18_0 := blk_frozen BK101.out 0
       have hfz18_1 := blk_frozen BK101.out 1
       obtain ⟨Ao19, co19, eo19⟩ := Kd.R_slice HO_5.out
       subst eo19
       go_wp2_with (first | ((with_reducible refine gate_callee (f := 53) rfl ?_); refine goesL_ (some 25) rfl rfl Try.func53 (by kernel_rfl) rfl #[.agg #[.int .i64 a0_0, .slice A0_1 l0_1.length c0_1], .slice Ao19 x5_1.length co19, .int .i64 x6_1, .int .i64 (rd y109 x17_1)] rfl (by (try simp only [List.map_toArray, List.map_cons, List.map_nil]); first | done | rfl | (simp only [List.length_drop, List.length_take]; rfl)) ?_; (with_reducible refine (impl_Space_toward.calls k1 a0_0 _ _ l0_1 (fun k_ => some k_ = (.slice Ao19 x5_1.length co19 : Value).ownBlock) (.slice Ao19 x5_1.length co19) x5_1 x6_1 (rd y109 x17_1) t113 w _ ?side1 ?side2 ?side3 ?side4 A17.out).mono ?_); (case side1 => repeat (first | (with_reducible first | exact HB.out | apply below_alloc | apply pw_below_drewN | apply below_drew1 | refine below_set ?_ GE101.out) | exact HB.out)); (case side2 => exact Kd.C_kept_came (Kd.heap_int .i64) HR0_1.out (by repeat (first | (with_reducible first | exact HB.out | apply below_alloc | apply pw_below_drewN | apply below_drew1 | refine below_set ?_ GE101.out) | exact HB.out)) (fun k_ hs_ => (fun e_ => Kd.R_base HO_5.out k_ e_.symm) hs_)); (case side3 => exact HC0_1.out); (case side4 => exact Kd.R_tight rfl HO_5.out); rintro e w20 ⟨v114, rfl, ho0, hb, hkp⟩; refine ⟨_, rfl, ?_⟩; have n0_ := asd (Kd.R_mono (ok' := fun k_ => some k_ ≠ (v114 : Value).ownBlock) (Kd.R_keptB (HO_15.out) hkp (fun k_ hk_ hs_ => (hk_) hs_)) (fun k_ hk_ => fun e_ => Or.elim (ho0.1 k_ e_.symm) (fun hs_ => hk_.2.1 hs_) (fun hn_ => Nat.not_le.2 hk_.2.2 hn_))); have n1_ := asd (blk_kept (upB BK101.out) hkp (fun hs_ => (fun e_ => (Kd.R_ne HO_5.out BK101.out (by decide)) e_) hs_)); have n2_ := asd (Kd.R_mono (ok' := fun k_ => some k_ ≠ (.slice (some ad112) y109.length co13 : Value).ownBlock) ho0 (fun k_ hk_ => Or.elim hk_ (fun hs_ => fun e_ => (((HO_15.out).1 k_ e_.symm)) hs_) (fun hn_ => (Kd.fresh' (Kd.R_lt (upR <| HO_15.out)) k_ hn_)))); have n3_ := asd (hb); clear HO_15; clear BK101; clear HB; clear HO_5; have HO_15 := n0_; have BK101 := n1_; have HO115 := n2_; have HB := n3_; clear n0_ n1_ n2_ n3_; (try clear hb); (try clear hkp); (try clear ho0)))
       go_roundg k1
       case measure => have := HK1.out; omega
       case rel => exact ⟨(t113), (rd y109 x17_1), (wrap64 (x17_1 + 1)), (by first | rfl | (simp; done) | (simp [*]; done)), (by first | rfl | (simp; done) | (simp [*]; done)), H', ⟨by have := HK1.out; omega⟩, ⟨by (with_reducible repeat (first | apply Kd.R_alloc | apply Kd.R_drewN | apply Kd.R_drew)); exact HO115.out⟩, ⟨by (with_reducible repeat (first | apply Kd.R_alloc | apply Kd.R_drewN | apply Kd.R_drew)); exact HO_15.out⟩, ⟨by (with_reducible repeat (first | refine blk_drewN ?_ _ | refine blk_drew ?_ | refine blk_alloc ?_ _)); exact BK101.out⟩, ⟨by repeat (first | (with_reducible first | exact HB.out | apply below_alloc | apply pw_below_drewN | apply below_drew1 | refine below_set ?_ GE101.out) | exact HB.out)⟩⟩
      ·
       rw [if_neg c16] at H
       exact absurd H (by simp)
     ·
      rw [if_neg c15] at H
      exact absurd H (by simp)
    ·
     rw [if_neg c14] at H
     have c14b0 : decide (x17_1 < (y109.length : Int)) = false := decide_eq_false c14
     clear c14
     obtain rfl := Option.some.inj H
     go_wp2
     go_ret
     exact ⟨_, by first | rfl | (simp [errW_none, errW_some] <;> rfl) | (simp [*, errW_none, errW_some] <;> rfl), by (with_reducible repeat (first | apply Kd.R_alloc | apply Kd.R_drewN | apply Kd.R_drew)); exact Kd.R_mono HO_5.out (fun _ hk => trivial), by repeat (first | (with_reducible first | exact HB.out | apply below_alloc | apply pw_below_drewN | apply below_drew1 | refine below_set ?_ GE101.out) | exact HB.out)⟩
 ·
  rw [if_neg c5] at H
  exact absurd H (by simp)

-- HAND with (impl.Space).through+(impl.Space).toward+spec.cnWord+(*impl.family).outer+spec.l1Own+(impl.Space).all
theorem toward_both {n : Int} {l : List Int} (hS : isSpaceB n l = true) (g : Nat) (hg : (famOf l).getD g false = true) : ∀ (m s : Nat) (word : List Int), g - s ≤ m → (famOf l).getD s false = true → Sub s g → word.length + (g - s) < 17592186044416 →
  ∃ p : List Int, p.length + s ≤ g ∧ Ev (fun k => impl_Space_toward.l0 k word s g (famOf l)) (word ++ p) ∧ ∀ (G : List Int) (gl i b : Int) (r : List Int), Ev (fun k => spec_cnWord.l0 k (word ++ p) g G gl (wrap64 (i + 1)) b l) r → Ev (fun k => spec_cnWord.l1 k word s g G gl i b l) r := by
 have hL := learn_of_space hS
 have hg7 := fam_lt hg
 have hrise := risingB_rise (isSpaceB_parts hS).2.2.2.1
 have hlen := isSpaceB_len hS
 intro m
 induction m with
 | zero =>
  intro s word hm hs hsg hw
  have hle := sub_le hsg
  obtain rfl : s = g := by omega
  refine ⟨[], by simp, Ev.succ (fun k => by simp only [impl_Space_toward.l0]; rw [if_pos trivial]) (Ev.const (by rw [List.append_nil])), fun G gl i b r h => ?_⟩
  rw [List.append_nil] at h
  exact Ev.succ (fun k => by simp only [spec_cnWord.l1]; rw [if_pos trivial]) h
 | succ m ih =>
  intro s word hm hs hsg hw
  have hle := sub_le hsg
  by_cases e : s = g
  ·
   subst e
   refine ⟨[], by simp, Ev.succ (fun k => by simp only [impl_Space_toward.l0]; rw [if_pos trivial]) (Ev.const (by rw [List.append_nil])), fun G gl i b r h => ?_⟩
   rw [List.append_nil] at h
   exact Ev.succ (fun k => by simp only [spec_cnWord.l1]; rw [if_pos trivial]) h
  ·
   obtain ⟨i, t, hit, hi, hgi, hsi, hF, hmin⟩ := hL.next hs hg hsg e
   have hs7 := fam_lt hs
   have hgr := or_greater hsi
   have hsub := sub_or hsg hgi
   have hle2 := sub_le hsub
   obtain ⟨p, hp, h1, h2⟩ := ih (s ||| 2 ^ i) (word ++ [(i : Int)]) (by omega) hF hsub (by rw [List.length_append, List.length_singleton]; omega)
   have ho : outerF (famOf l) s < 128 := maskOf_lt _
   have hand : outerF (famOf l) s &&& g < 128 := Nat.lt_of_le_of_lt Nat.and_le_left ho
   have hI : itemsL ((outerF (famOf l) s &&& g : Nat) : Int) = (i : Int) :: t.map (fun (j : Nat) => (j : Int)) := by
    unfold itemsL
    rw [Int.toNat_natCast, hit]
    rfl
   have hp7 : 2 ^ i < 128 := two_lt128 hi
   refine ⟨(i : Int) :: p, by rw [List.length_cons]; omega, ?_, ?_⟩
   ·
    refine Ev.succ (fun k => by simp only [impl_Space_toward.l0]; rw [if_neg (by omega)]) ?_
    refine Ev.bindc (outer_f _ (famOf_length l) s (by omega) (by omega)) ?_
    refine Ev.to (fun k => by rw [Int.toNat_natCast, bits_and _ g (by omega) (by omega)]) ?_
    refine Ev.bind (itemsE (by omega) (by omega)) ?_
    rw [hI]
    refine Ev.to (fun k => by rw [if_neg (by simp; omega), if_pos (by simp), if_pos (by omega), if_pos (by show (0 : Int) ≤ (i : Int); omega), show rd ((i : Int) :: t.map (fun (j : Nat) => (j : Int))) 0 = (i : Int) from rfl, shl_one i (by omega), bits_or s (2 ^ i) (by omega) (by omega)]) ?_
    rw [List.append_assoc] at h1
    exact h1
   ·
    intro G gl x b r h
    refine Ev.succ (fun k => by simp only [spec_cnWord.l1]; rw [if_neg (by omega)]) ?_
    have hfound : Ev (fun k => spec_cnWord.l2 k word s g i G gl x b l) r := by
     refine Ev.succ (fun k => by simp only [spec_cnWord.l2]; rw [bits_nd g s (by omega) (by omega)]) ?_
     refine Ev.bindc (spIn_ok (nd g s) i (by omega)) ?_
     rw [nd_testBit, hgi, hsi]
     refine Ev.to (fun k => by rw [if_pos (show (true && !false) = true from rfl), if_pos (by omega), shl_one i (by omega), bits_or s (2 ^ i) (by omega) (by omega)]) ?_
     refine Ev.bind (spHas_ok hrise (by omega) _) ?_
     refine Ev.to (fun k => by rw [if_pos (decide_eq_true (fam_mem hF))]) ?_
     refine Ev.bindc rfl ?_
     refine Ev.to (fun k => by rw [if_pos (by rw [List.length_singleton]; omega)]) ?_
     refine h2 G gl x b r ?_
     rw [List.append_assoc]
     exact h
    have hsearch : ∀ (d j : Nat), i - j = d → j ≤ i → Ev (fun k => spec_cnWord.l2 k word s g j G gl x b l) r := by
     intro d
     induction d with
     | zero =>
      intro j hd hj
      obtain rfl : j = i := by omega
      exact hfound
     | succ d ihd =>
      intro j hd hj
      have hnext := ihd (j + 1) (by omega) (by omega)
      push_cast at hnext
      have hj7 : 2 ^ j < 128 := two_lt128 (by omega)
      refine Ev.succ (fun k => by simp only [spec_cnWord.l2]; rw [bits_nd g s (by omega) (by omega)]) ?_
      refine Ev.bindc (spIn_ok (nd g s) j (by omega)) ?_
      cases hb : (nd g s).testBit j with
      | false => exact Ev.to (fun k => by rw [if_neg (by decide), wrap_succ (by omega) (by omega)]) hnext
      | true =>
       have hno : ¬ ((s ||| 2 ^ j : Nat) : Int) ∈ l := by
        intro hm
        rcases hmin j (by omega) with h' | h'
        ·
         rw [hb] at h'; cases h'
        ·
         have hlt : s ||| 2 ^ j < 128 := Nat.or_lt_two_pow (n := 7) (by omega) hj7
         rw [famOf_getD l _ hlt, decide_eq_false_iff_not] at h'
         exact h' hm
       refine Ev.to (fun k => by rw [if_pos rfl, if_pos (by omega), shl_one j (by omega), bits_or s (2 ^ j) (by omega) (by omega)]) ?_
       refine Ev.bind (spHas_ok hrise (by omega) _) ?_
       exact Ev.to (fun k => by rw [if_neg (by simpa using hno), wrap_succ (by omega) (by omega)]) hnext
    exact hsearch i 0 (by omega) (by omega)
/-- Sets, each a part of the next. -/
def ChainOk (l : List Int) : Nat → List Int → Prop
 | _, [] => True
 | s, x :: B => x ∈ l ∧ Sub s x.toNat ∧ ChainOk l x.toNat B
theorem through_both {n : Int} {l : List Int} (hS : isSpaceB n l = true) (G : List Int) (hG : G.length < 1000) : ∀ (B A : List Int) (s : Nat) (word : List Int), A ++ B = G → ChainOk l s B → (famOf l).getD s false = true → word.length ≤ 128 * A.length →
  ∃ r, Ev (fun k => impl_Space_through.l0 k word s G G.length A.length n l) r ∧ Ev (fun k => spec_cnWord.l0 k word s G G.length A.length n l) r ∧ r.length ≤ 128000
 | [], A, s, word, hA, _, _, hw => by
  rw [List.append_nil] at hA
  subst hA
  exact ⟨word, Ev.succ (fun k => by simp only [impl_Space_through.l0]; rw [if_neg (by omega)]) (Ev.const rfl), Ev.succ (fun k => by simp only [spec_cnWord.l0]; rw [if_neg (by omega)]) (Ev.const rfl), by omega⟩
 | x :: B, A, s, word, hA, ⟨hx, hsub, hc⟩, hs, hw => by
  have hlt : A.length < G.length := by rw [← hA]; simp
  have hrd : rd G (A.length : Int) = x := by rw [← hA]; exact rd_append A B x
  obtain ⟨x0, x1⟩ := isSpaceB_128 hS x hx
  have hfx := mem_fam hx x0 x1
  have hs7 := fam_lt hs
  have hxe : ((x.toNat : Nat) : Int) = x := by omega
  obtain ⟨p, hp, h1, h2⟩ := toward_both hS x.toNat hfx 128 s word (by omega) hs hsub (by omega)
  rw [hxe] at h1 h2
  obtain ⟨r, hr1, hr2, hr3⟩ := through_both hS G hG B (A ++ [x]) x.toNat (word ++ p) (by rw [List.append_assoc]; exact hA) hc hfx (by rw [List.length_append, List.length_append, List.length_singleton]; omega)
  rw [List.length_append, List.length_singleton, hxe] at hr1 hr2
  push_cast at hr1 hr2
  have hws : wrap64 ((A.length : Int) + 1) = A.length + 1 := wrap_succ (by omega) (by omega)
  refine ⟨r, ?_, ?_, hr3⟩
  ·
   refine Ev.succ (fun k => by simp only [impl_Space_through.l0]; rw [if_pos (by omega), if_pos (by omega), if_pos (by omega), hrd, hws]) ?_
   refine Ev.bind (show Ev (fun k => impl_Space_toward.f k n l word s x) (word ++ p) from ?_) hr1
   unfold impl_Space_toward.f
   exact Ev.bindc (family_f hS) h1
  ·
   refine Ev.succ (fun k => by simp only [spec_cnWord.l0]; rw [if_pos (by omega), if_pos (by omega), if_pos (by omega), hrd]) ?_
   exact h2 G G.length A.length n r (by rw [hws]; exact hr2)
theorem thr_both {n : Int} {l : List Int} (hS : isSpaceB n l = true) (L : List Int) (hL : L.length ≤ 900) (hc : ChainOk l 0 (L ++ [2 ^ n.toNat - 1])) : ∃ r, Ev (fun k => spec_cnWord.f k n l L) r ∧ Ev (fun k => impl_Space_through.f k n l L) r ∧ r.length ≤ 128000 := by
 obtain ⟨n1, n7, _⟩ := isSpaceB_parts hS
 have hLe : (L ++ [(2 ^ n.toNat - 1 : Int)]).length = L.length + 1 := by simp
 obtain ⟨r, h1, h2, h3⟩ := through_both hS (L ++ [2 ^ n.toNat - 1]) (by omega) (L ++ [2 ^ n.toNat - 1]) [] 0 [] rfl hc (learn_of_space hS).zero (by simp)
 refine ⟨r, ?_, ?_, h3⟩
 ·
  unfold spec_cnWord.f
  refine Ev.bindc (show spec_l1Own.f L = some L from ?_) ?_
  ·
   unfold spec_l1Own.f
   show (if ([] : List Int).length + L.length < 17592186044416 then _ else _) = _
   rw [if_pos (by simp; omega)]
   rfl
  ·
   refine Ev.to (fun k => by rw [if_pos (by omega), wrapPow (by omega) n7]) ?_
   refine Ev.bindc rfl ?_
   refine Ev.to (fun k => by rw [if_pos (by simp; omega)]) ?_
   refine Ev.bindc rfl ?_
   exact h2
 ·
  unfold impl_Space_through.f
  refine Ev.bindc (show slices_Clone_int_int.f L = some L from ?_) ?_
  ·
   unfold slices_Clone_int_int.f
   rw [if_pos (by omega)]
  ·
   refine Ev.bindc (all_ok n l (by omega) n7) ?_
   refine Ev.to (fun k => by rw [if_pos (by omega)]) ?_
   refine Ev.bindc rfl ?_
   exact h1

/-! ### impl_MakingWords: function 21 -/
def impl_MakingWords.l0 : Nat → List (List Int) → List (List Int) → Int → Int → Int → List Int → Option ((List (List Int)) × Bool)
 | 0, _, _, _, _, _, _ => none
 | k + 1, x4, x12, x13, x14, x102000, x102001 => if x14 < x13 then (if 0 ≤ x14 then (if x14 < (x12.length : Int) then ((impl_Space_through.f k x102000 x102001 (rd_L9 x12 x14)).bind fun t110 => (if x4.length < 5864062014805 then (impl_MakingWords.l0 k (x4 ++ [t110]) x12 x13 (wrap64 (x14 + 1)) x102000 x102001) else (none))) else (none)) else (none)) else (some (x4, true))
def impl_MakingWords.f (k : Nat) (a0_0 : Int) (l0_1 : List Int) : Option ((List (List Int)) × Bool) := (impl_IsSpace.f a0_0 l0_1).bind fun t102 => (if t102 = true then ((impl_Space_chains.f k a0_0 l0_1).bind fun t106 => (impl_MakingWords.l0 k (([] : List (List Int))) t106 (t106.length : Int) 0 a0_0 l0_1)) else (some (([] : List (List Int)), false)))
theorem impl_MakingWords.mono_l : ∀ k, (∀ y0 y1 y2 y3 y4 y5, LeO (impl_MakingWords.l0 k y0 y1 y2 y3 y4 y5) (impl_MakingWords.l0 (k + 1) y0 y1 y2 y3 y4 y5))
 | 0 => fun _ _ _ _ _ _ r h => by simp [impl_MakingWords.l0] at h
 | k + 1 => by
  have ih0 := impl_MakingWords.mono_l k
  ·
   intro y0 y1 y2 y3 y4 y5
   unfold impl_MakingWords.l0
   repeat' first
   | (with_reducible exact ih0 _ _ _ _ _ _)
   | (with_reducible exact impl_Space_chains.mono _ _ _)
   | (with_reducible exact impl_Space_through.mono _ _ _ _)
   | (with_reducible exact LeO.refl _)
   | (with_reducible exact LeO.none _)
   | (with_reducible refine LeO.ite ?_ ?_)
   | (with_reducible refine LeO.bind ?_ (fun _ => ?_))
   | exact ih0 _ _ _ _ _ _
   | exact impl_Space_chains.mono _ _ _
   | exact impl_Space_through.mono _ _ _ _
   | exact LeO.none _
   | refine LeO.ite ?_ ?_
   | refine LeO.bind ?_ (fun _ => ?_)
theorem impl_MakingWords.mono : ∀ a0 a1 k, LeO (impl_MakingWords.f k a0 a1) (impl_MakingWords.f (k + 1) a0 a1) := by
 intro a0 a1 k
 have ih0 := impl_MakingWords.mono_l k
 unfold impl_MakingWords.f
 repeat' first
   | (with_reducible exact ih0 _ _ _ _ _ _)
   | (with_reducible exact impl_Space_chains.mono _ _ _)
   | (with_reducible exact impl_Space_through.mono _ _ _ _)
   | (with_reducible exact LeO.refl _)
   | (with_reducible exact LeO.none _)
   | (with_reducible refine LeO.ite ?_ ?_)
   | (with_reducible refine LeO.bind ?_ (fun _ => ?_))
   | exact ih0 _ _ _ _ _ _
   | exact impl_Space_chains.mono _ _ _
   | exact impl_Space_through.mono _ _ _ _
   | exact LeO.none _
   | refine LeO.ite ?_ ?_
   | refine LeO.bind ?_ (fun _ => ?_)
set_option maxHeartbeats 8000000 in
set_option maxRecDepth 100000 in
theorem impl_MakingWords.calls (k : Nat) (a0_0 : Int) (A0_1 : Option Addr) (c0_1 : Nat) (l0_1 : List Int) (r1 : List (List Int)) (r2 : Bool) (w : World) (hr0_1 : Kd.C (Kd.int .i64) w A0_1 l0_1.length l0_1) (hc0_1 : l0_1.length ≤ c0_1) (h : impl_MakingWords.f k a0_0 l0_1 = some (r1, r2)) :
  Calls Try.prog 21 #[.agg #[.int .i64 a0_0, .slice A0_1 l0_1.length c0_1]] w fun e w' => ∃ v0_ : Value, e = .returned (.tuple #[v0_, .bool r2]) ∧ Kd.S (Kd.slice 3 (Kd.int .i64)) 22 w' w.heap.size (fun _ => True) v0_ r1 ∧ Below w.heap.size w w' := by
 have hu28 := Try.underlying28
 have HR0_1 := asd hr0_1
 have HC0_1 := asd hc0_1
 clear hr0_1 hc0_1
 have HB := asd (Below.refl w.heap.size w)
 have H : ((impl_IsSpace.f a0_0 l0_1).bind fun t102 => (if t102 = true then ((impl_Space_chains.f k a0_0 l0_1).bind fun t106 => (impl_MakingWords.l0 k (([] : List (List Int))) t106 (t106.length : Int) 0 a0_0 l0_1)) else (some (([] : List (List Int)), false)))) = some (r1, r2) := h
 clear h
 replace H := Option.bind_eq_some_iff.mp H
 obtain ⟨t102, A20, H⟩ := H
 replace H : (if t102 = true then ((impl_Space_chains.f k a0_0 l0_1).bind fun t106 => (impl_MakingWords.l0 k (([] : List (List Int))) t106 (t106.length : Int) 0 a0_0 l0_1)) else (some (([] : List (List Int)), false))) = some (r1, r2) := H
 have A2 := asd A20
 clear A20
 by_cases c3 : t102 = true
 ·
  subst c3
  have H1 : ((impl_Space_chains.f k a0_0 l0_1).bind fun t106 => (impl_MakingWords.l0 k (([] : List (List Int))) t106 (t106.length : Int) 0 a0_0 l0_1)) = some (r1, r2) := by rw [if_pos rfl] at H; exact H
  clear H
  have H := H1
  clear H1
  obtain ⟨y103, hy103⟩ : ∃ y_ : List (List Int), y_ = (([] : List (List Int))) := ⟨_, rfl⟩
  replace H : ((impl_Space_chains.f k a0_0 l0_1).bind fun t106 => (impl_MakingWords.l0 k y103 t106 (t106.length : Int) 0 a0_0 l0_1)) = some (r1, r2) := by first | (rw [hy103]; with_reducible exact H) | (have H2_ := (Option.bind_some _ _).symm.trans H; rw [hy103]; with_reducible exact H2_) | (have H2_ := (Option.bind_some _ _).symm.trans H; with_reducible exact H2_) | with_reducible exact H | (rw [hy103]; exact H) | exact H
  have Ny103 := asd hy103
  clear hy103
  replace H := Option.bind_eq_some_iff.mp H
  obtain ⟨t106, A40, H⟩ := H
  replace H : (impl_MakingWords.l0 k y103 t106 (t106.length : Int) 0 a0_0 l0_1) = some (r1, r2) := H
  have A4 := asd A40
  clear A40
  have H' := asd H
  clear H
  go_enter Try.func21, Try.ntmps21
  go_wp2_with (first | ((with_reducible refine gate_dst (N := 1) rfl ?_); refine box_event ?hg (N := 1) ?hd (cs := #[.int .i64 a0_0, .slice A0_1 l0_1.length c0_1]) (t := 28) ?hr ?_; (case hd => rfl); (case hg => rfl); (case hr => first | (go_simp; done) | (go_simp; rfl)); intro gb101 hg w5 hbox hb; have n0_ := asd (below_step (by repeat (first | (with_reducible first | exact HB.out | apply below_alloc | apply pw_below_drewN | apply below_drew1) | exact HB.out)) hb); have n1_ := asd (hbox); have n2_ := asd ((by rw [hg]; exact (below_size (by repeat (first | (with_reducible first | exact HB.out | apply below_alloc | apply pw_below_drewN | apply below_drew1) | exact HB.out))) : w.heap.size ≤ gb101)); have n3_ := asd ((by rw [hg]; exact (below_size (by repeat (first | (with_reducible first | exact HB.out | apply below_alloc | apply pw_below_drewN | apply below_drew1) | exact HB.out))) : w.heap.size ≤ gb101)); clear HB; have HB := n0_; have BK101 := n1_; have GW101 := n2_; have GE101 := n3_; clear n0_ n1_ n2_ n3_; clear hb hbox hg; have hcz6_0 : w5.cell? ⟨gb101, 0, none⟩ = some (.int .i64 a0_0) := (blk_cell BK101.out 0).trans rfl; have hcz6_1 : w5.cell? ⟨gb101, 1, none⟩ = some (.slice A0_1 l0_1.length c0_1) := (blk_cell BK101.out 1).trans rfl; have hfz6_0 := blk_frozen BK101.out 0; have hfz6_1 := blk_frozen BK101.out 1) | ((with_reducible refine gate_callee (f := 27) rfl ?_); refine goesL_ (some 8) rfl rfl Try.func27 (by kernel_rfl) rfl #[.agg #[.int .i64 a0_0, .slice A0_1 l0_1.length c0_1]] rfl (by (try simp only [List.map_toArray, List.map_cons, List.map_nil]); first | done | rfl | (simp only [List.length_drop, List.length_take]; rfl)) ?_; (with_reducible refine (impl_IsSpace.calls a0_0 _ _ l0_1 true _ ?side1 ?side2 A2.out).mono ?_); (case side1 => repeat (first | exact (Kd.C_below HR0_1.out HB.out) | (with_reducible refine Kd.C_alloc ?_ _) | (with_reducible refine Kd.C_drewN ?_ _) | (with_reducible refine Kd.C_drew ?_))); (case side2 => exact HC0_1.out); rintro e w7 ⟨rfl, hb⟩; refine ⟨_, rfl, ?_⟩; have n0_ := asd (blk_below (upB BK101.out) hb); have n1_ := asd (below_step (by repeat (first | (with_reducible first | exact HB.out | apply below_alloc | apply pw_below_drewN | apply below_drew1 | refine below_set ?_ GE101.out) | exact HB.out)) hb); clear BK101; clear HB; have BK101 := n0_; have HB := n1_; clear n0_ n1_; (try clear hb); (try clear hb2); (try clear hk); (try clear hi)) | ((with_reducible refine gate_dst (N := 10) rfl ?_); refine Kd.S_lit (Kd.slice 3 (Kd.int .i64)) _ 22 ?hg (N := 10) ?hd (xs := ([] : List (List Int))) (inner := []) (ok := fun _ => True) (okp := fun _ => True) ?hr ?hp (fun _ hk => hk) trivial (Below.refl _ _) (Nat.le_refl _) (by simp) ?_; (case hd => rfl); (case hg => rfl); (case hr => first | (go_simp; done) | (go_simp; rfl)); (case hp => exact (Reps.none _ _)); intro v104 w8 ho9 hb hg_ hnew_; clear hg_ hnew_; (first | rw [← Ny103.out] at ho9 | (simp only [Int.reduceToNat] at ho9; rw [← Ny103.out] at ho9)); have n0_ := asd (Kd.S_lower ho9 (below_size (by repeat (first | (with_reducible first | exact HB.out | apply below_alloc | apply pw_below_drewN | apply below_drew1 | refine below_set ?_ GE101.out) | exact HB.out)))); have n1_ := asd (blk_below (upB BK101.out) hb); have n2_ := asd (below_step (by repeat (first | (with_reducible first | exact HB.out | apply below_alloc | apply pw_below_drewN | apply below_drew1 | refine below_set ?_ GE101.out) | exact HB.out)) hb); clear BK101; clear HB; have HO105 := n0_; have BK101 := n1_; have HB := n2_; clear n0_ n1_ n2_; clear hb ho9; have hcz10_0 : w8.cell? ⟨gb101, 0, none⟩ = some (.int .i64 a0_0) := (blk_cell BK101.out 0).trans rfl; have hcz10_1 : w8.cell? ⟨gb101, 1, none⟩ = some (.slice A0_1 l0_1.length c0_1) := (blk_cell BK101.out 1).trans rfl; have hfz10_0 := blk_frozen BK101.out 0; have hfz10_1 := blk_frozen BK101.out 1) | ((with_reducible refine gate_callee (f := 31) rfl ?_); refine goesL_ (some 12) rfl rfl Try.func31 (by kernel_rfl) rfl #[.agg #[.int .i64 a0_0, .slice A0_1 l0_1.length c0_1]] rfl (by (try simp only [List.map_toArray, List.map_cons, List.map_nil]); first | done | rfl | (simp only [List.length_drop, List.length_take]; rfl)) ?_; (with_reducible refine (impl_Space_chains.calls k a0_0 _ _ l0_1 t106 _ ?side1 ?side2 A4.out).mono ?_); (case side1 => repeat (first | exact (Kd.C_below HR0_1.out HB.out) | (with_reducible refine Kd.C_alloc ?_ _) | (with_reducible refine Kd.C_drewN ?_ _) | (with_reducible refine Kd.C_drew ?_))); (case side2 => exact HC0_1.out); rintro e w11 ⟨v107, rfl, ho0, hb⟩; refine ⟨_, rfl, ?_⟩; have n0_ := asd (Kd.S_elder' (by (with_reducible repeat (first | apply Kd.S_alloc | apply Kd.S_drewN | apply Kd.S_drew)); exact HO105.out) (Kd.S_base ho0) hb); have n1_ := asd (Kd.S_lower (Kd.S_new' ho0 (Kd.S_lt (by (with_reducible repeat (first | apply Kd.S_alloc | apply Kd.S_drewN | apply Kd.S_drew)); exact HO105.out))) (below_size (by repeat (first | (with_reducible first | exact HB.out | apply below_alloc | apply pw_below_drewN | apply below_drew1 | refine below_set ?_ GE101.out) | exact HB.out)))); have n2_ := asd (blk_below (upB BK101.out) hb); have n3_ := asd (below_step (by repeat (first | (with_reducible first | exact HB.out | apply below_alloc | apply pw_below_drewN | apply below_drew1 | refine below_set ?_ GE101.out) | exact HB.out)) hb); clear HO105; clear BK101; clear HB; have HO105 := n0_; have HO108 := n1_; have BK101 := n2_; have HB := n3_; clear n0_ n1_ n2_ n3_; (try clear hb); (try clear hb2); (try clear hk); (try clear hi); (try clear ho0); obtain ⟨Ao12, co12, eo12⟩ := Kd.S_slice HO108.out; subst eo12))
  go_loopg [4, 14] k (fun kq v4 v14 w' => ∃ (x4_1 : List (List Int)) (x14_1 : Int), v14 = .int .i64 x14_1 ∧ Aside0 (impl_MakingWords.l0 kq x4_1 t106 (t106.length : Int) x14_1 a0_0 l0_1 = some (r1, r2)) ∧ Aside0 (kq ≤ k) ∧ Aside0 (Kd.S (Kd.slice 3 (Kd.int .i64)) 22 w' w.heap.size (fun k_ => some k_ ≠ ((.slice Ao12 t106.length co12) : Value).ownBlock) v4 x4_1) ∧ Aside0 (Kd.S (Kd.slice 3 (Kd.int .i64)) 22 w' w.heap.size (fun k_ => some k_ ≠ (v4 : Value).ownBlock) (.slice Ao12 t106.length co12) t106) ∧ Aside0 (w'.heap[gb101]? = some (.cells #[.int .i64 a0_0, (.slice A0_1 l0_1.length c0_1)] 28 (0, 0))) ∧ Aside0 (Below w.heap.size w w'))
  case atStart => exact ⟨(y103), (0), (by first | rfl | (simp; done) | (simp [*]; done)), H', ⟨Nat.le_refl _⟩, ⟨by (with_reducible repeat (first | apply Kd.S_alloc | apply Kd.S_drewN | apply Kd.S_drew)); exact Kd.S_mono HO105.out (fun _ hk => hk.2)⟩, ⟨by (with_reducible repeat (first | apply Kd.S_alloc | apply Kd.S_drewN | apply Kd.S_drew)); exact Kd.S_mono HO108.out (fun _ hk => hk.2)⟩, ⟨by (with_reducible repeat (first | refine blk_drewN ?_ _ | refine blk_drew ?_ | refine blk_alloc ?_ _)); exact BK101.out⟩, ⟨by repeat (first | (with_reducible first | exact HB.out | apply below_alloc | apply pw_below_drewN | apply below_drew1 | refine below_set ?_ GE101.out) | exact HB.out)⟩⟩
  case round =>
   clear H'
   try clear c2
   try clear p2
   try clear c3
   try clear hcz10_0
   try clear hcz10_1
   try clear hcz6_0
   try clear hcz6_1
   try clear hfz10_0
   try clear hfz10_1
   try clear hfz6_0
   try clear hfz6_1
   try clear HO_4; try clear HO_12; skip
   obtain ⟨x4_1, x14_1, rfl, HA, HK1, HO_4, HO_12, BK101, HB⟩ := hrel
   cases gk with
   | zero => exact absurd HA.out (by simp [impl_MakingWords.l0])
   | succ k1 =>
    have H := HA.out
    clear HA
    simp only [impl_MakingWords.l0] at H
    by_cases c13 : x14_1 < (t106.length : Int)
    ·
     rw [if_pos c13] at H
     have c13b0 : decide (x14_1 < (t106.length : Int)) = true := decide_eq_true c13
     clear c13
     by_cases c14 : 0 ≤ x14_1
     ·
      rw [if_pos c14] at H
      have c14b0 : decide (0 ≤ x14_1) = true := decide_eq_true c14
      clear c14
      by_cases c15 : x14_1 < (t106.length : Int)
      ·
       rw [if_pos c15] at H
       have c15b0 : decide (x14_1 < (t106.length : Int)) = true := decide_eq_true c15
       clear c15
       replace H := Option.bind_eq_some_iff.mp H
       obtain ⟨t110, A160, H⟩ := H
       replace H : (if x4_1.length < 5864062014805 then (impl_MakingWords.l0 k1 (x4_1 ++ [t110]) t106 (t106.length : Int) (wrap64 (x14_1 + 1)) a0_0 l0_1) else (none)) = some (r1, r2) := H
       have A16 := asd A160
       clear A160
       by_cases c17 : x4_1.length < 5864062014805
       ·
        rw [if_pos c17] at H
        have LMc17 := asd c17
        clear c17
        obtain ⟨y113, hy113⟩ : ∃ y_ : List (List Int), y_ = (x4_1 ++ [t110]) := ⟨_, rfl⟩
        replace H : (impl_MakingWords.l0 k1 y113 t106 (t106.length : Int) (wrap64 (x14_1 + 1)) a0_0 l0_1) = some (r1, r2) := by first | (rw [hy113]; with_reducible exact H) | (have H2_ := (Option.bind_some _ _).symm.trans H; rw [hy113]; with_reducible exact H2_) | (have H2_ := (Option.bind_some _ _).symm.trans H; with_reducible exact H2_) | with_reducible exact H | (rw [hy113]; exact H) | exact H
        have Ny113 := asd hy113
        clear hy113
        have H' := asd H
        clear H
        have p109 : 0 ≤ (x14_1 : Int) := of_decide_eq_true (by first | (with_reducible assumption) | assumption)
        have q109 : x14_1 < (t106.length : Int) := of_decide_eq_true (by first | (with_reducible assumption) | assumption)
        obtain ⟨ad109, A109_0, c109_0, e109, hx109_0, hl109_0, hi109_0⟩ := at_L9 (Kd.S_reads' HO_12.out).2.2 x14_1 p109 q109
        cases e109
        obtain ⟨ce109, hce109, hMe109, hcc109⟩ := Kd.S_get HO_12.out [] x14_1 p109 (by first | exact q109 | exact of_decide_eq_true (by first | (with_reducible assumption) | assumption) | (have e_ := (Kd.S_reads' HO_12.out).1; omega))
        obtain ⟨ve109_0, rfl, ge109_0⟩ := hMe109
        have hv109_0 := hcc109 0 _ rfl
        rw [Nat.add_zero, show ((Kd.slice 3 (Kd.int .i64))).sz = 1 from rfl, Nat.mul_one] at hv109_0
        replace hv109_0 := Option.some.inj (hv109_0.symm.trans hx109_0)
        rw [hv109_0] at ge109_0
        have HL109_0 := asd (show Kd.R (Kd.int .i64) 3 _ _ _ _ (rd_L9 t106 x14_1) from ge109_0)
        clear hv109_0 ge109_0
        clear hcc109 hce109
        have HR109_0 := asd hi109_0
        have HC109_0 := asd hl109_0
        clear hi109_0 hl109_0
        replace p109 := eq_true p109
        replace q109 := eq_true q109
        have hcz18_0 : wr.cell? ⟨gb101, 0, none⟩ = some (.int .i64 a0_0) := (blk_cell BK101.out 0).trans rfl
        have hcz18_1 : wr.cell? ⟨gb101, 1, none⟩ = some (.slice A0_1 l0_1.length c0_1) := (blk_cell BK101.out 1).trans rfl
        have hfz18_0 := blk_frozen BK101.out 0
        have hfz18_1 := blk_frozen BK101.out 1
        go_wp2_with (first | ((with_reducible refine gate_callee (f := 35) rfl ?_); refine goesL_ (some 21) rfl rfl Try.func35 (by kernel_rfl) rfl #[.agg #[.int .i64 a0_0, .slice A0_1 l0_1.length c0_1], .slice A109_0 (rd_L9 t106 x14_1).length c109_0] rfl (by (try simp only [List.map_toArray, List.map_cons, List.map_nil]); first | done | rfl | (simp only [List.length_drop, List.length_take]; rfl)) ?_; (with_reducible refine (impl_Space_through.calls k1 a0_0 _ _ l0_1 _ _ (rd_L9 t106 x14_1) t110 _ ?side1 ?side2 ?side3 ?side4 A16.out).mono ?_); (case side1 => repeat (first | exact (Kd.C_below HR0_1.out HB.out) | (with_reducible refine Kd.C_alloc ?_ _) | (with_reducible refine Kd.C_drewN ?_ _) | (with_reducible refine Kd.C_drew ?_))); (case side2 => exact HC0_1.out); (case side3 => repeat (first | exact (by repeat (first | (with_reducible exact HR109_0.out) | (with_reducible refine Kd.C_alloc ?_ _) | (with_reducible refine Kd.C_drewN ?_ _) | (with_reducible refine Kd.C_drew ?_) | exact HR109_0.out)) | (with_reducible refine Kd.C_alloc ?_ _) | (with_reducible refine Kd.C_drewN ?_ _) | (with_reducible refine Kd.C_drew ?_))); (case side4 => exact HC109_0.out); rintro e w19 ⟨v111, rfl, ho0, hb⟩; refine ⟨_, rfl, ?_⟩; have n0_ := asd (Kd.S_elder' (by (with_reducible repeat (first | apply Kd.S_alloc | apply Kd.S_drewN | apply Kd.S_drew)); exact HO_4.out) (Kd.R_base ho0) hb); have n1_ := asd (Kd.S_elder' (by (with_reducible repeat (first | apply Kd.S_alloc | apply Kd.S_drewN | apply Kd.S_drew)); exact HO_12.out) (Kd.R_base ho0) hb); have n2_ := asd (Kd.R_elder' (upR <| HL109_0.out) (Kd.R_base ho0) hb); have n3_ := asd (Kd.R_lower (Kd.R_new' ho0 (Kd.R_lt (upR <| HL109_0.out))) (below_size (by repeat (first | (with_reducible first | exact HB.out | apply below_alloc | apply pw_below_drewN | apply below_drew1 | refine below_set ?_ GE101.out) | exact HB.out)))); have n4_ := asd (blk_below (upB BK101.out) hb); have n5_ := asd (Kd.C_below (by repeat (first | (with_reducible exact HR109_0.out) | (with_reducible refine Kd.C_alloc ?_ _) | (with_reducible refine Kd.C_drewN ?_ _) | (with_reducible refine Kd.C_drew ?_) | exact HR109_0.out)) hb); have n6_ := asd (below_step (by repeat (first | (with_reducible first | exact HB.out | apply below_alloc | apply pw_below_drewN | apply below_drew1 | refine below_set ?_ GE101.out) | exact HB.out)) hb); clear HO_4; clear HO_12; clear HL109_0; clear BK101; clear HR109_0; clear HB; have HO_4 := n0_; have HO_12 := n1_; have HL109_0 := n2_; have HO112 := n3_; have BK101 := n4_; have HR109_0 := n5_; have HB := n6_; clear n0_ n1_ n2_ n3_ n4_ n5_ n6_; (try clear hb); (try clear hb2); (try clear hk); (try clear hi); (try clear ho0); obtain ⟨Ao21, co21, eo21⟩ := Kd.R_slice HO112.out; subst eo21) | ((with_reducible refine gate_builtin (b := .append) (xs := #[.tmp 18, .tmp 22]) rfl ?_); at_builtin; refine Kd.S_append (Kd.slice 3 (Kd.int .i64)) (w0 := w) w.heap.size rfl (.tmp 18) (.tmp 22) 32 22 (.slice none 0 0) 24 rfl Try.underlying32 info22 rfl (by decide) (by omega) u4 x4_1 t110 [.slice Ao21 t110.length co21] (fun k_ => some k_ ≠ (.slice (some ad109) t106.length co12 : Value).ownBlock) (fun k_ => some k_ = (.slice Ao21 t110.length co21 : Value).ownBlock) rfl rfl ?aP (fun k_ hk_ => ((Kd.R_mono (ok' := fun k_ => ((fun k_ => some k_ ≠ (.slice (some ad109) t106.length co12 : Value).ownBlock)) k_ ∧ some k_ ≠ (u4 : Value).ownBlock) (Kd.R_apart' (Kd.R_apart' (HO112.out) (Kd.S_typed HO_12.out) (by decide)) (Kd.S_typed HO_4.out) (by decide)) (fun k_ hk => ⟨hk.1.2, hk.2⟩))).1 k_ hk_.symm) ?aF ?aO ?aB ?aS ?aL ?_; (case aP => exact Kd.M_row (Kd.R_mono (Kd.R_tight rfl (Kd.R_mono (ok' := fun k_ => ((fun k_ => some k_ ≠ (.slice (some ad109) t106.length co12 : Value).ownBlock)) k_ ∧ some k_ ≠ (u4 : Value).ownBlock) (Kd.R_apart' (Kd.R_apart' (HO112.out) (Kd.S_typed HO_12.out) (by decide)) (Kd.S_typed HO_4.out) (by decide)) (fun k_ hk => ⟨hk.1.2, hk.2⟩))) (fun _ h_ => h_))); (case aB => exact (by repeat (first | (with_reducible first | exact HB.out | apply below_alloc | apply pw_below_drewN | apply below_drew1 | refine below_set ?_ GE101.out) | exact HB.out))); (case aF => exact (fun k_ hk => Kd.fresh' (Kd.S_lt (by (with_reducible repeat (first | apply Kd.S_alloc | apply Kd.S_drewN | apply Kd.S_drew)); exact HO_12.out)) k_ hk)); (case aO => exact (by (with_reducible repeat (first | apply Kd.S_alloc | apply Kd.S_drewN | apply Kd.S_drew)); exact Kd.S_mono HO_4.out (fun k_ hk => ⟨hk.1, fun e_ => hk.2 e_⟩))); (case aS => exact (below_size (by repeat (first | (with_reducible first | exact HB.out | apply below_alloc | apply pw_below_drewN | apply below_drew1 | refine below_set ?_ GE101.out) | exact HB.out)))); (case aL => have := LMc17.out; omega); intro v114 w20 ho hb hg hat; rw [← Ny113.out] at ho; have n0_ := asd (Kd.S_after (ok := (fun k_ => some k_ ≠ (.slice Ao21 t110.length co21 : Value).ownBlock)) (by (with_reducible repeat (first | apply Kd.S_alloc | apply Kd.S_drewN | apply Kd.S_drew)); exact Kd.S_mono HO_12.out (fun _ hk => ⟨hk.2, hk.1⟩)) hg hat); have n1_ := asd (blk_grown (upB BK101.out) hg (Kd.S_ne HO_4.out BK101.out (by decide))); have n2_ := asd (Kd.R_after (ok := (fun k_ => some k_ ≠ (.slice (some ad109) t106.length co12 : Value).ownBlock ∧ some k_ ≠ (.slice Ao21 t110.length co21 : Value).ownBlock)) (upR <| Kd.R_mono HL109_0.out (fun _ hk => ⟨⟨hk.1.2, hk.2⟩, hk.1.1⟩)) hg hat); have n3_ := asd (hb); have n4_ := asd (ho); clear HO_12; clear BK101; clear HL109_0; clear HB; clear HO_4; clear HO112; have HO_12 := n0_; have BK101 := n1_; have HL109_0 := n2_; have HB := n3_; have HO115 := n4_; clear n0_ n1_ n2_ n3_ n4_; clear ho hb hg hat))
        go_roundg k1
        case measure => have := HK1.out; omega
        case rel => exact ⟨(y113), (wrap64 (x14_1 + 1)), (by first | rfl | (simp; done) | (simp [*]; done)), H', ⟨by have := HK1.out; omega⟩, ⟨by (with_reducible repeat (first | apply Kd.S_alloc | apply Kd.S_drewN | apply Kd.S_drew)); exact HO115.out⟩, ⟨by (with_reducible repeat (first | apply Kd.S_alloc | apply Kd.S_drewN | apply Kd.S_drew)); exact Kd.S_mono HO_12.out (fun _ hk => hk.2)⟩, ⟨by (with_reducible repeat (first | refine blk_drewN ?_ _ | refine blk_drew ?_ | refine blk_alloc ?_ _)); exact BK101.out⟩, ⟨by repeat (first | (with_reducible first | exact HB.out | apply below_alloc | apply pw_below_drewN | apply below_drew1 | refine below_set ?_ GE101.out) | exact HB.out)⟩⟩
       ·
        rw [if_neg c17] at H
        exact absurd H (by simp)
      ·
       rw [if_neg c15] at H
       exact absurd H (by simp)
     ·
      rw [if_neg c14] at H
      exact absurd H (by simp)
    ·
     rw [if_neg c13] at H
     have c13b0 : decide (x14_1 < (t106.length : Int)) = false := decide_eq_false c13
     clear c13
     simp only [Option.some.injEq, Prod.mk.injEq] at H
     obtain ⟨rfl, rfl⟩ := H
     go_wp2
     go_ret2
     exact ⟨_, by first | rfl | (simp [errW_none, errW_some] <;> rfl) | (simp [*, errW_none, errW_some] <;> rfl), by (with_reducible repeat (first | apply Kd.S_alloc | apply Kd.S_drewN | apply Kd.S_drew)); exact Kd.S_mono HO_4.out (fun _ hk => trivial), by repeat (first | (with_reducible first | exact HB.out | apply below_alloc | apply pw_below_drewN | apply below_drew1 | refine below_set ?_ GE101.out) | exact HB.out)⟩
 ·
  replace c3 := Bool.eq_false_iff.mpr c3
  subst c3
  have H1 : (some (([] : List (List Int)), false)) = some (r1, r2) := by rw [if_neg (show ¬ (false = true) by decide)] at H; exact H
  clear H
  have H := H1
  clear H1
  simp only [Option.some.injEq, Prod.mk.injEq] at H
  obtain ⟨rfl, rfl⟩ := H
  go_enter Try.func21, Try.ntmps21
  go_wp2_with (first | ((with_reducible refine gate_dst (N := 1) rfl ?_); refine box_event ?hg (N := 1) ?hd (cs := #[.int .i64 a0_0, .slice A0_1 l0_1.length c0_1]) (t := 28) ?hr ?_; (case hd => rfl); (case hg => rfl); (case hr => first | (go_simp; done) | (go_simp; rfl)); intro gb101 hg w22 hbox hb; have n0_ := asd (below_step (by repeat (first | (with_reducible first | exact HB.out | apply below_alloc | apply pw_below_drewN | apply below_drew1) | exact HB.out)) hb); have n1_ := asd (hbox); have n2_ := asd ((by rw [hg]; exact (below_size (by repeat (first | (with_reducible first | exact HB.out | apply below_alloc | apply pw_below_drewN | apply below_drew1) | exact HB.out))) : w.heap.size ≤ gb101)); have n3_ := asd ((by rw [hg]; exact (below_size (by repeat (first | (with_reducible first | exact HB.out | apply below_alloc | apply pw_below_drewN | apply below_drew1) | exact HB.out))) : w.heap.size ≤ gb101)); clear HB; have HB := n0_; have BK101 := n1_; have GW101 := n2_; have GE101 := n3_; clear n0_ n1_ n2_ n3_; clear hb hbox hg; have hcz23_0 : w22.cell? ⟨gb101, 0, none⟩ = some (.int .i64 a0_0) := (blk_cell BK101.out 0).trans rfl; have hcz23_1 : w22.cell? ⟨gb101, 1, none⟩ = some (.slice A0_1 l0_1.length c0_1) := (blk_cell BK101.out 1).trans rfl; have hfz23_0 := blk_frozen BK101.out 0; have hfz23_1 := blk_frozen BK101.out 1) | ((with_reducible refine gate_callee (f := 27) rfl ?_); refine goesL_ (some 8) rfl rfl Try.func27 (by kernel_rfl) rfl #[.agg #[.int .i64 a0_0, .slice A0_1 l0_1.length c0_1]] rfl (by (try simp only [List.map_toArray, List.map_cons, List.map_nil]); first | done | rfl | (simp only [List.length_drop, List.length_take]; rfl)) ?_; (with_reducible refine (impl_IsSpace.calls a0_0 _ _ l0_1 false _ ?side1 ?side2 A2.out).mono ?_); (case side1 => repeat (first | exact (Kd.C_below HR0_1.out HB.out) | (with_reducible refine Kd.C_alloc ?_ _) | (with_reducible refine Kd.C_drewN ?_ _) | (with_reducible refine Kd.C_drew ?_))); (case side2 => exact HC0_1.out); rintro e w24 ⟨rfl, hb⟩; refine ⟨_, rfl, ?_⟩; have n0_ := asd (blk_below (upB BK101.out) hb); have n1_ := asd (below_step (by repeat (first | (with_reducible first | exact HB.out | apply below_alloc | apply pw_below_drewN | apply below_drew1 | refine below_set ?_ GE101.out) | exact HB.out)) hb); clear BK101; clear HB; have BK101 := n0_; have HB := n1_; clear n0_ n1_; (try clear hb); (try clear hb2); (try clear hk); (try clear hi)))
  go_ret2
  exact ⟨_, by first | rfl | (simp [errW_none, errW_some] <;> rfl) | (simp [*, errW_none, errW_some] <;> rfl), by first | exact Kd.S_nil _ _ _ _ _ | exact Kd.N_nil _ _ _ _ _ | exact Kd.V_nil _ _ _ _ _ | exact Kd.Q_nil _ _ _ _ _ | exact Kd.R_nil _ _ _ _ _, by repeat (first | (with_reducible first | exact HB.out | apply below_alloc | apply pw_below_drewN | apply below_drew1 | refine below_set ?_ GE101.out) | exact HB.out)⟩

-- HAND with impl.MakingWords+spec.MakingWords
theorem partV_sub {x y : Int} (hx : 0 ≤ x ∧ x < 128) (hy : 0 ≤ y ∧ y < 128) (h : partV x y = true) : Sub x.toNat y.toNat := by
  unfold partV at h
  rw [beq_iff_eq] at h
  obtain ⟨a, ha⟩ := Int.eq_ofNat_of_zero_le hx.1
  obtain ⟨b, hb⟩ := Int.eq_ofNat_of_zero_le hy.1
  subst ha
  subst hb
  rw [bits_nd a b (by omega) (by omega)] at h
  have h0 : nd a b = 0 := by exact_mod_cast h
  exact sub_of_nd h0
theorem chainO_ok {l s b o : List Int} (hP : Pair s.length b o) (hl : ∀ x ∈ s, x ∈ l) (hM : ∀ x ∈ l, 0 ≤ x ∧ x < 128) (hU : UpP s o) (hC : List Int) (hall : ∀ x ∈ s, ChainOk l x.toNat hC) : ∀ (f p : Nat), p < s.length → ChainOk l (rd s p).toNat (chainO s o f p ++ hC)
  | 0, p, hp => hall _ (rd_mem (by omega) (by omega))
  | f + 1, p, hp => by
    have hlo := hP.lo
    unfold chainO
    by_cases h0 : 0 ≤ rd o p
    · rw [if_pos h0, List.cons_append]
      have hpu := hU p (by omega) h0
      obtain ⟨q, hq, e⟩ := nat_of h0 (hP.ro p hp).2
      rw [e] at hpu ⊢
      have hq1 := hl _ (rd_mem (l := s) (i := (q : Int)) (by omega) (by omega))
      have hp1 := hl _ (rd_mem (l := s) (i := (p : Int)) (by omega) (by omega))
      exact ⟨hq1, partV_sub (hM _ hp1) (hM _ hq1) hpu, chainO_ok hP hl hM hU hC hall f q hq⟩
    · rw [if_neg h0]
      exact hall _ (rd_mem (by omega) (by omega))
theorem chainsFrom_ok {l s b o : List Int} (hP : Pair s.length b o) (hl : ∀ x ∈ s, x ∈ l) (hM : ∀ x ∈ l, 0 ≤ x ∧ x < 128) (hU : UpP s o) (hC : List Int) (hall : ∀ x ∈ s, ChainOk l x.toNat hC) : ∀ (d i : Nat) (c : List Int), i + d = s.length → c ∈ chainsFrom s b o d i → ChainOk l 0 (c ++ hC)
  | 0, _, c, _, h => by cases h
  | d + 1, i, c, hd, h => by
    unfold chainsFrom at h
    have ih := chainsFrom_ok hP hl hM hU hC hall d (i + 1) c (by omega)
    push_cast at ih
    have hi1 := hl _ (rd_mem (l := s) (i := (i : Int)) (by omega) (by omega))
    split at h
    · rcases List.mem_cons.1 h with rfl | h
      · exact ⟨hi1, sub_zero _, chainO_ok hP hl hM hU hC hall s.length i (by omega)⟩
      · exact ih h
    · exact ih h
theorem chains_words {n : Int} {l : List Int} (hS : isSpaceB n l = true) {b o : List Int} (hP : Pair (pathsL (famOf l) l).length b o) (ho : Ev (fun k => impl_followers.f k (pathsL (famOf l) l)) o) {c : List Int} (hc : c ∈ chainsFrom (pathsL (famOf l) l) b o (pathsL (famOf l) l).length 0) : ∃ r, Ev (fun k => spec_cnWord.f k n l c) r ∧ Ev (fun k => impl_Space_through.f k n l c) r ∧ r.length ≤ 128000 := by
  have hll := isSpaceB_len hS
  have hPl : (pathsL (famOf l) l).length ≤ 128 := Nat.le_trans (List.length_filter_le _ _) hll
  have hcl := chainsFrom_mem _ _ _ _ _ c hc
  obtain ⟨n1, n7, _, _, _, hall, _⟩ := isSpaceB_parts hS
  rw [getD_pow l n1 n7, decide_eq_true_eq] at hall
  refine thr_both hS c (by omega) ?_
  refine chainsFrom_ok hP (fun x hx => (pathsL_mem hx).1) (isSpaceB_128 hS) (followers_part ho) [(2 ^ n.toNat - 1 : Int)] (fun x hx => ⟨hall, ?_, trivial⟩) _ 0 c (by omega) hc
  have e : ((2 : Int) ^ n.toNat - 1).toNat = 2 ^ n.toNat - 1 := (toNat_pow (n := n) rfl).symm
  rw [e]
  have h2 := isSpaceB_mem hS x (pathsL_mem hx).1
  refine sub_all ?_
  have h3 : x < ((2 ^ n.toNat : Nat) : Int) := by
    have := h2.2
    exact_mod_cast this
  omega

-- HAND laws_FnExactMakingWords: function 6
def laws_FnExactMakingWords.f (k : Nat) (n : Int) (l : List Int) : Option Bool := if (l.length : Int) ≤ 1048576 then (spec_MakingWords.f k n l).bind fun a => (impl_MakingWords.f k n l).bind fun b => if a = b ∧ rowsB b.1 = true then some true else none else some true
set_option maxHeartbeats 4000000 in
set_option maxRecDepth 100000 in
theorem laws_FnExactMakingWords.calls (k : Nat) (n : Int) (A : Option Addr) (c : Nat) (l : List Int) (r : Bool) (w : World) (hr : Kd.C (Kd.int .i64) w A l.length l) (hc : l.length ≤ c) (h : laws_FnExactMakingWords.f k n l = some r) (hT_ : Aside0 (r = true)) :
  Calls Try.prog 6 #[.agg #[.int .i64 n, .slice A l.length c]] w fun e w' => e = .returned (.bool r) ∧ Below w.heap.size w w' := by
 have hu := Try.underlying24
 have hu2 := Try.underlying28
 have HR := asd hr
 have HC := asd hc
 have HB0 := asd (Below.refl w.heap.size w)
 have hmx := Kd.C_max hr
 clear hr hc
 unfold laws_FnExactMakingWords.f at h
 by_cases hlen : (l.length : Int) ≤ 1048576
 ·
  rw [if_pos hlen] at h
  obtain ⟨⟨ws, ok⟩, hs, h⟩ := Option.bind_eq_some_iff.1 h
  obtain ⟨⟨gs, ok2⟩, hi, h⟩ := Option.bind_eq_some_iff.1 h
  by_cases he : (ws, ok) = (gs, ok2) ∧ rowsB gs = true
  ·
   obtain ⟨he1, hrows⟩ := he
   cases he1
   rw [if_pos ⟨rfl, hrows⟩] at h
   obtain rfl := Option.some.inj h
   obtain ⟨hn1, hn2⟩ := rowsB_parts hrows
   have HS := asd hs
   have HI := asd hi
   obtain ⟨k1, h1⟩ := toSpace_ok n l (by omega)
   obtain ⟨k2, h2⟩ := eqIntSS_refl ws hn1 (fun x hx => Nat.le_trans (hn2 x hx) (by decide))
   obtain ⟨k3, h3⟩ := eqSpace_refl n l (by omega)
   obtain ⟨k4, h4⟩ := markSpace_ok n l 1 (by omega) (by omega)
   obtain ⟨k5, h5⟩ := heldSS_ok 1 ws (by omega) (by omega) hn1 hn2
   have hTot := (totTo_le ws hn2 ws.length).1
   have H1 := asd (h1 k1 (Nat.le_refl _))
   have H2 := asd (h2 k2 (Nat.le_refl _))
   have H3 := asd (h3 k3 (Nat.le_refl _))
   have H4 := asd (h4 k4 (Nat.le_refl _))
   have H5 := asd (h5 k5 (Nat.le_refl _))
   have HN1 := asd hn1
   have HN2 := asd hn2
   have HSZ : Aside0 (laws_szSpace.f n l 1048576 = some ((1048576 : Int) - (l.length : Int))) := ⟨szSpace_fits n l 1048576 (Int.le_refl _) hlen⟩
   obtain ⟨m, hm⟩ : ∃ m, m = (1 : Int) + totTo ws ws.length := ⟨_, rfl⟩
   have HM := asd hm
   have hm0 : ¬ m < 0 := by omega
   obtain ⟨ll, hll⟩ : ∃ ll : Int, ll = 1048576 - (l.length : Int) := ⟨_, rfl⟩
   have hl0 : ¬ ll < 0 := by omega
   obtain ⟨mk, hmk⟩ : ∃ mk : Int, mk = 1 + (l.length : Int) := ⟨_, rfl⟩
   have hmk0 : ¬ mk < 0 := by omega
   rw [← hll] at HSZ
   rw [← hmk] at H4
   rw [← hm] at H5
   clear hs hi h hrows hn1 hn2 h1 h2 h3 h4 h5 hTot hm hll hmk
   go_enter Try.func6, Try.ntmps6
   go_wp2_with (first | ((with_reducible refine gate_dst (N := 1) rfl ?_); refine box_event ?hg (N := 1) ?hd (cs := #[.int .i64 n, .slice A l.length c]) (t := 24) ?hr ?_; (case hd => rfl); (case hg => rfl); (case hr => first | (go_simp; done) | (go_simp; rfl)); intro g ge W1 gb W1b; have HB1 := asd (below_step (by repeat (first | exact HB0.out | apply pw_below_drewN | apply below_drew1 | apply below_alloc)) W1b); have BK1 := asd gb; have GE1 := asd ((by rw [ge]; exact below_size (by repeat (first | exact HB0.out | apply pw_below_drewN | apply below_drew1 | apply below_alloc))) : w.heap.size ≤ g); have GL1 := asd (blk_lt BK1.out); have p0 := (box_cells BK1.out).1; have p1 := (box_cells BK1.out).2; clear W1b gb ge) | (go_at_call 7; (refine (laws_szSpace.calls n _ _ l 1048576 ll _ (Kd.C_below HR.out HB1.out) HC.out HSZ.out).mono ?_); rintro e W2 ⟨rfl, hb⟩; have HB2 := asd (below_step HB1.out hb); have BK2 := asd ((hb.block g (blk_lt BK1.out)).trans BK1.out); have GL2 := asd (Nat.lt_of_lt_of_le GL1.out hb.size); clear hb p0 p1; have p0 := (box_cells BK2.out).1; have p1 := (box_cells BK2.out).2))
   go_wp2_with (first | (go_at_call 9; (refine (laws_toSpace.calls k1 n _ _ l n l _ (Kd.C_below HR.out HB2.out) HC.out H1.out).mono ?_); rintro e W3 ⟨v3, rfl, hR3, hb⟩; obtain ⟨A3, c3, rfl⟩ := Kd.R_slice hR3; have HR3 := asd hR3; have HB3 := asd (below_step HB2.out hb); have BK3 := asd ((hb.block g (blk_lt BK2.out)).trans BK2.out); have GL3 := asd (Nat.lt_of_lt_of_le GL2.out hb.size); clear hb hR3 p0 p1) | (go_at_call 20; (refine (spec_MakingWords.calls k n _ _ l ws ok _ (Kd.R_reads' HR3.out).2.2 (Kd.R_reads' HR3.out).2.1 HS.out).mono ?_); rintro e W4 ⟨v4, rfl, hS4, hb⟩; have HS4 := asd (Kd.S_lower (Kd.S_mono (ok' := fun k => k < W4.heap.size) (Kd.S_bound hS4) (fun k hk => hk.2.2.1)) HB3.out.size); have HB4 := asd (below_step HB3.out hb); have BK4 := asd ((hb.block g (blk_lt BK3.out)).trans BK3.out); have GL4 := asd (Nat.lt_of_lt_of_le GL3.out hb.size); clear hb hS4; have p0 := (box_cells BK4.out).1; have p1 := (box_cells BK4.out).2))
   go_wp2_with (first | (go_at_call 9; (refine (laws_toSpace.calls k1 n _ _ l n l _ (Kd.C_below HR.out HB4.out) HC.out H1.out).mono ?_); rintro e W5 ⟨v5, rfl, hR5, hb⟩; obtain ⟨A5, c5, rfl⟩ := Kd.R_slice hR5; have HR5 := asd (Kd.R_lower (Kd.R_mono (ok' := fun k => W4.heap.size ≤ k ∧ k < W5.heap.size) (Kd.R_bound hR5) (fun k hk => ⟨hk.2.1, hk.2.2.1⟩)) HB4.out.size); have HS5 := asd (Kd.S_below HS4.out hb); have HB5 := asd (below_step HB4.out hb); have BK5 := asd ((hb.block g (blk_lt BK4.out)).trans BK4.out); have HZ5 := asd hb.size; have HXB := asd (below_alloc HB5.out (.cells #[.int .i64 n, .slice A5 l.length c5] 28)); clear hb hR5 p0 p1) | (go_at_call 21; (refine (impl_MakingWords.calls k n _ _ l ws ok _ (Kd.C_alloc (Kd.R_reads' HR5.out).2.2 _) (Kd.R_reads' HR5.out).2.1 HI.out).mono ?_); rintro e W7 ⟨v7, rfl, hS7, hb⟩; have HL7 : Aside0 (LawRows w W7 g (.cells #[.int .i64 n, .slice A l.length c] 24 (0, 0)) W4.heap.size (W5.alloc (.cells #[.int .i64 n, .slice A5 l.length c5] 28)).heap.size v4 ws (.slice A5 l.length c5) l v7 ws) := ⟨⟨below_step HXB.out hb, GL4.out, Nat.le_trans HZ5.out (below_alloc (Below.refl _ _) _).size, HB4.out.size, (hb.block g (blk_lt (blk_alloc BK5.out _))).trans (blk_alloc BK5.out _), Kd.S_below (Kd.S_alloc HS5.out _) hb, Kd.R_mono (Kd.R_below (Kd.R_alloc HR5.out _) hb) (fun k hk => ⟨hk.1, Nat.lt_of_lt_of_le hk.2 (below_alloc (Below.refl W5.heap.size W5) _).size⟩), Kd.S_lower (Kd.S_mono (ok' := fun k => _ ≤ k) (Kd.S_bound hS7) (fun k hk => hk.2.1)) HXB.out.size⟩⟩; have BX7 := asd ((hb.block _ (blk_lt (heap_alloc_new W5 _))).trans (heap_alloc_new W5 (.cells #[.int .i64 n, .slice A5 l.length c5] 28))); obtain ⟨N3, hN3⟩ : ∃ N3, N3 = (W5.alloc (.cells #[.int .i64 n, .slice A5 l.length c5] 28)).heap.size := ⟨_, rfl⟩; rw [← hN3] at HL7; obtain ⟨A7, c7, rfl⟩ := Kd.S_slice HL7.out.res; obtain ⟨A4, c4, rfl⟩ := Kd.S_slice HL7.out.old; clear hb hS7 hN3) | (go_at_call 16; (refine (laws_eqIntSS.calls k2 _ _ ws _ _ ws true _ (Kd.S_reads' HL7.out.res).2.2 (Kd.S_reads' HL7.out.res).2.1 (Kd.S_reads' HL7.out.old).2.2 (Kd.S_reads' HL7.out.old).2.1 H2.out).mono ?_); rintro e w' ⟨rfl, ⟨nd, rfl⟩⟩; have HL8 := asd (HL7.out.drewN nd); have BX8 := asd (blk_drewN BX7.out nd); generalize World.drewN W7 nd = W8 at *))
   have HK10 : Aside0 (∀ w', Below W8.heap.size W8 w' → Aside0 (Below W8.heap.size W8 w') ∧ w'.cell? ⟨g, 0, none⟩ = some (.int .i64 n) ∧ w'.cell? ⟨g, 1, none⟩ = some (.slice A l.length c) ∧ w'.cell? ⟨W5.heap.size, 0, none⟩ = some (.int .i64 n) ∧ w'.cell? ⟨W5.heap.size, 1, none⟩ = some (.slice A5 l.length c5)) :=
    ⟨fun w' hb => ⟨⟨hb⟩, pw_cell_below hb (box_cells HL8.out.box).1, pw_cell_below hb (box_cells HL8.out.box).2, pw_cell_below hb (box_cells BX8.out).1, pw_cell_below hb (box_cells BX8.out).2⟩⟩
   go_region_held3 (fun w' => Aside0 (Below W8.heap.size W8 w') ∧ w'.cell? ⟨g, 0, none⟩ = some (.int .i64 n) ∧ w'.cell? ⟨g, 1, none⟩ = some (.slice A l.length c) ∧ w'.cell? ⟨W5.heap.size, 0, none⟩ = some (.int .i64 n) ∧ w'.cell? ⟨W5.heap.size, 1, none⟩ = some (.slice A5 l.length c5)) (first | exact HK10.out _ (Below.refl _ _) | exact HK10.out _ (below_drew1 (Below.refl _ _)) | exact HK10.out _ (below_step (‹Aside0 (Below W8.heap.size W8 _) ∧ _›).1.out (by assumption))) (first | (go_at_call 9; (refine (laws_toSpace.calls k1 n _ _ l n l _ (Kd.C_below (Kd.C_below HR.out HL8.out.bel) (‹Aside0 (Below W8.heap.size W8 _) ∧ _›).1.out) HC.out H1.out).mono ?_); rintro e W9 ⟨v9, rfl, hR9, hb9⟩; obtain ⟨A9, c9, rfl⟩ := Kd.R_slice hR9) | (go_at_call 11; (refine (laws_eqSpace.calls k3 n _ _ l n _ _ l true _ ?ea ?eb ?ec ?ed H3.out).mono ?_); (case ea => exact Kd.C_below (Kd.R_reads' HL8.out.row).2.2 (‹Aside0 (Below W8.heap.size W8 _) ∧ _›).1.out); (case eb => exact (Kd.R_reads' HL8.out.row).2.1); (case ec => first | exact (Kd.R_reads' hR9).2.2 | (with_reducible refine Kd.C_drew ?_; exact (Kd.R_reads' hR9).2.2) | exact Kd.C_below (Kd.R_reads' hR9).2.2 (by assumption)); (case ed => exact (Kd.R_reads' hR9).2.1); rintro e W10 ⟨rfl, hb10⟩))
   have HB10 := (‹Aside0 (Below W8.heap.size W8 _) ∧ _›).1
   have HL10 := asd (HL8.out.below HB10.out)
   have BX10 := asd ((HB10.out.block _ (blk_lt BX8.out)).trans BX8.out)
   have z0 := (box_cells BX10.out).1
   have z1 := (box_cells BX10.out).2
   clear HK10
   go_wp2_with (first | (go_at_call 17; (refine (laws_markSpace.calls k4 n (fun k_ => some k_ = (.slice A5 l.length c5 : Value).ownBlock) (.slice A5 l.length c5) l 1 mk _ w _ HL10.out.bel (Kd.R_tight rfl HL10.out.row) H4.out).mono ?_); rintro e W11 ⟨rfl, hR11, hb11, hk11⟩; have HL11 := asd (HL10.out.markX hk11 hb11 hR11); clear hR11 hb11 hk11) | (go_at_call 16; (refine (laws_eqIntSS.calls k2 _ _ ws _ _ ws true _ (Kd.S_reads' HL11.out.res).2.2 (Kd.S_reads' HL11.out.res).2.1 (Kd.S_reads' HL11.out.old).2.2 (Kd.S_reads' HL11.out.old).2.1 H2.out).mono ?_); rintro e w' ⟨rfl, ⟨nd, rfl⟩⟩; have HL12 := asd (HL11.out.drewN nd); generalize World.drewN W11 nd = W12 at *) | (go_at_call 18; (refine (laws_markIntSS.calls (fun k => N3 ≤ k) (.slice A7 ws.length c7) ws 1 w _ HL12.out.bel HL12.out.res (by decide) (by decide) HN1.out HN2.out).mono ?_); rintro e W13 ⟨he13, hS13, hb13, hk13⟩; rw [← HM.out] at he13; subst he13; have HL13 := asd (HL12.out.markG hk13 hb13 hS13); clear hS13 hb13 hk13; have HHELD : Aside0 (∀ (W : World), Kd.C (Kd.slice 3 (Kd.int .i64)) W A7 (markTo 1 ws ws.length).length (markTo 1 ws ws.length) → Calls Try.prog 19 #[.slice A7 ws.length c7, .int .i64 1] W fun e w' => e = .returned (.int .i64 m) ∧ Drawn0 W w') := ⟨fun W hC => by have h9 := laws_heldIntSS.calls k5 A7 c7 (markTo 1 ws ws.length) 1 m W hC (by rw [markTo_len]; exact (Kd.S_reads' HL13.out.res).2.1) H5.out; rw [markTo_len] at h9; exact h9⟩) | (go_at_call 19; (refine (HHELD.out _ (Kd.S_reads' HL13.out.res).2.2).mono ?_); rintro e w' ⟨rfl, ⟨nd, rfl⟩⟩; have HL14 := asd (HL13.out.drewN nd); generalize World.drewN W13 nd = W14 at *; have y0 := (box_cells HL14.out.box).1; have y1 := (box_cells HL14.out.box).2))
   go_wp2_with (first | (go_at_call 9; (refine (laws_toSpace.calls k1 n _ _ l n l _ (Kd.C_below HR.out HL14.out.bel) HC.out H1.out).mono ?_); rintro e W15 ⟨v15, rfl, hR15, hb⟩; obtain ⟨A15, c15, rfl⟩ := Kd.R_slice hR15; have HR15 := asd hR15; have HL15 := asd (HL14.out.below hb); clear hb hR15 y0 y1) | (go_at_call 21; (refine (impl_MakingWords.calls k n _ _ l ws ok _ (Kd.R_reads' HR15.out).2.2 (Kd.R_reads' HR15.out).2.1 HI.out).mono ?_); rintro e W16 ⟨v16, rfl, hS16, hb⟩; obtain ⟨A16, c16, rfl⟩ := Kd.S_slice hS16; have HS16 := asd hS16; have HL16 := asd (HL15.out.below hb); clear hb hS16) | (go_at_call 16; (refine (laws_eqIntSS.calls k2 _ _ ws _ _ ws true _ (Kd.S_reads' HS16.out).2.2 (Kd.S_reads' HS16.out).2.1 (Kd.S_reads' HL16.out.old).2.2 (Kd.S_reads' HL16.out.old).2.1 H2.out).mono ?_); rintro e w' ⟨rfl, ⟨nd, rfl⟩⟩; have HL17 := asd (HL16.out.drewN nd); generalize World.drewN W16 nd = W17 at *) | (go_at_call 19; (refine (HHELD.out _ (Kd.S_reads' HL17.out.res).2.2).mono ?_); rintro e w' ⟨rfl, ⟨nd, rfl⟩⟩; have HL18 := asd (HL17.out.drewN nd)))
   go_ret
   exact ⟨rfl, HL18.out.bel⟩
  ·
   rw [if_neg he] at h
   cases h
 ·
  rw [if_neg hlen] at h
  obtain rfl := Option.some.inj h
  have HSZ : Aside0 (laws_szSpace.f n l 1048576 = some (-1)) := ⟨szSpace_over n l 1048576 (Int.le_refl _) hmx (by omega) (by decide)⟩
  clear h
  go_enter Try.func6, Try.ntmps6
  go_wp2_with (first | ((with_reducible refine gate_dst (N := 1) rfl ?_); refine box_event ?hg (N := 1) ?hd (cs := #[.int .i64 n, .slice A l.length c]) (t := 24) ?hr ?_; (case hd => rfl); (case hg => rfl); (case hr => first | (go_simp; done) | (go_simp; rfl)); intro g ge W1 gb W1b; have HB1 := asd (below_step (by repeat (first | exact HB0.out | apply pw_below_drewN | apply below_drew1 | apply below_alloc)) W1b); have BK1 := asd gb; have GE1 := asd ((by rw [ge]; exact below_size (by repeat (first | exact HB0.out | apply pw_below_drewN | apply below_drew1 | apply below_alloc))) : w.heap.size ≤ g); have p0 := (box_cells BK1.out).1; have p1 := (box_cells BK1.out).2; clear W1b gb ge) | (go_at_call 7; (refine (laws_szSpace.calls n _ _ l 1048576 (-1) _ (Kd.C_below HR.out HB1.out) HC.out HSZ.out).mono ?_); rintro e W2 ⟨rfl, hb⟩; have HB2 := asd (below_step HB1.out hb); clear hb))
  go_ret
  exact ⟨rfl, HB2.out⟩

end Go.Proofs.Ytkggkllcmoiacaa.Q
