/- Contracts of functions that the laws reach: a call returns what the plain Lean function of the same name tells. Conditions: those of each theorem. Made by gen.py, a program of this session, over the print of the translation. -/
import Derived.Test.YtkepeflplmkcmaaPx0
import Derived.Test.YtkepeflplmkcmaaPx1
import Derived.Test.YtkepeflplmkcmaaPx6
import Derived.Test.YtkepeflplmkcmaaPx7
import Derived.Shelf.Abstract
namespace Go.Proofs.Ytkepeflplmkcmaa.Q
open Go.RowKit Go.Proofs.YtkepeflplmkcmaaW.PrintWords Go.Proofs.YtkepeflplmkcmaaW.PrintLast Go.Proofs.YtkepeflplmkcmaaW.PrintMore
attribute [local go_sem] max2_int min2_int max_two min_two max_three min_three max_four min_four   -- for this text's walks alone
set_option linter.unusedVariables false
set_option linter.unusedSimpArgs false

/-! ### impl_Space_setOf: function 112 -/
def impl_Space_setOf.l0 : Nat → List Bool → Int → List Int → Int → Int → Int → List Int → Option (Int × Bool)
 | 0, _, _, _, _, _, _, _ => none
 | k + 1, x6, x7, x12, x13, x14, x102000, x102001 => if x14 < x13 then (if 0 ≤ x14 then (if x14 < (x12.length : Int) then ((impl_within.f (rd x12 x14) 0 (wrap64 (x102000 - 1))).bind fun t106 => (if t106 = true then (if 0 ≤ (rd x12 x14) then (if (Go.bits .and .i64 (shr .i64 x7 (rd x12 x14)) 1) = 1 then (some (0, false)) else (if 0 ≤ (Go.bits .or .i64 x7 (shl .i64 1 (rd x12 x14))) then (if (Go.bits .or .i64 x7 (shl .i64 1 (rd x12 x14))) < 128 then (if (rdOf false x6 (Go.bits .or .i64 x7 (shl .i64 1 (rd x12 x14))) = true) then (impl_Space_setOf.l0 k x6 (Go.bits .or .i64 x7 (shl .i64 1 (rd x12 x14))) x12 x13 (wrap64 (x14 + 1)) x102000 x102001) else (some (0, false))) else (none)) else (none))) else (none)) else (some (0, false)))) else (none)) else (none)) else (some (x7, true))
def impl_Space_setOf.f (k : Nat) (a0_0 : Int) (l0_1 : List Int) (l1 : List Int) : Option (Int × Bool) := (impl_Space_family.f a0_0 l0_1).bind fun t102 => (impl_Space_setOf.l0 k t102 0 l1 (l1.length : Int) 0 a0_0 l0_1)
theorem impl_Space_setOf.mono_l : ∀ k, (∀ y0 y1 y2 y3 y4 y5 y6, LeO (impl_Space_setOf.l0 k y0 y1 y2 y3 y4 y5 y6) (impl_Space_setOf.l0 (k + 1) y0 y1 y2 y3 y4 y5 y6))
 | 0 => fun _ _ _ _ _ _ _ r h => by simp [impl_Space_setOf.l0] at h
 | k + 1 => by
  have ih0 := impl_Space_setOf.mono_l k
  ·
   intro y0 y1 y2 y3 y4 y5 y6
   unfold impl_Space_setOf.l0
   repeat' first
   | (with_reducible exact ih0 _ _ _ _ _ _ _)
   | (with_reducible exact LeO.refl _)
   | (with_reducible exact LeO.none _)
   | (with_reducible refine LeO.ite ?_ ?_)
   | (with_reducible refine LeO.bind ?_ (fun _ => ?_))
   | exact ih0 _ _ _ _ _ _ _
   | exact LeO.none _
   | refine LeO.ite ?_ ?_
   | refine LeO.bind ?_ (fun _ => ?_)
theorem impl_Space_setOf.mono : ∀ a0 a1 a2 k, LeO (impl_Space_setOf.f k a0 a1 a2) (impl_Space_setOf.f (k + 1) a0 a1 a2) := by
 intro a0 a1 a2 k
 have ih0 := impl_Space_setOf.mono_l k
 unfold impl_Space_setOf.f
 repeat' first
   | (with_reducible exact ih0 _ _ _ _ _ _ _)
   | (with_reducible exact LeO.refl _)
   | (with_reducible exact LeO.none _)
   | (with_reducible refine LeO.ite ?_ ?_)
   | (with_reducible refine LeO.bind ?_ (fun _ => ?_))
   | exact ih0 _ _ _ _ _ _ _
   | exact LeO.none _
   | refine LeO.ite ?_ ?_
   | refine LeO.bind ?_ (fun _ => ?_)
set_option maxHeartbeats 8000000 in
set_option maxRecDepth 100000 in
theorem impl_Space_setOf.calls (k : Nat) (a0_0 : Int) (A0_1 : Option Addr) (c0_1 : Nat) (l0_1 : List Int) (A1 : Option Addr) (c1 : Nat) (l1 : List Int) (r1 : Int) (r2 : Bool) (w : World) (hr0_1 : Kd.C (Kd.int .i64) w A0_1 l0_1.length l0_1) (hc0_1 : l0_1.length ≤ c0_1) (hr1 : Kd.C (Kd.int .i64) w A1 l1.length l1) (hc1 : l1.length ≤ c1) (h : impl_Space_setOf.f k a0_0 l0_1 l1 = some (r1, r2)) :
  Calls Try.prog 112 #[.agg #[.int .i64 a0_0, .slice A0_1 l0_1.length c0_1], .slice A1 l1.length c1] w fun e w' => e = .returned (.tuple #[.int .i64 r1, .bool r2]) ∧ Below w.heap.size w w' := by
 have hu28 := Try.underlying28
 have HR0_1 := asd hr0_1
 have HC0_1 := asd hc0_1
 clear hr0_1 hc0_1
 have HR1 := asd hr1
 have HC1 := asd hc1
 clear hr1 hc1
 have HB := asd (Below.refl w.heap.size w)
 have H : ((impl_Space_family.f a0_0 l0_1).bind fun t102 => (impl_Space_setOf.l0 k t102 0 l1 (l1.length : Int) 0 a0_0 l0_1)) = some (r1, r2) := h
 clear h
 replace H := Option.bind_eq_some_iff.mp H
 obtain ⟨t102, A30, H⟩ := H
 replace H : (impl_Space_setOf.l0 k t102 0 l1 (l1.length : Int) 0 a0_0 l0_1) = some (r1, r2) := H
 have A3 := asd A30
 clear A30
 have HLt102 := asd (impl_Space_family.len A3.out)
 have H' := asd H
 clear H
 go_enter Try.func112, Try.ntmps112
 go_wp2_with (first | ((with_reducible refine gate_dst (N := 2) rfl ?_); refine box_event ?hg (N := 2) ?hd (cs := #[.int .i64 a0_0, .slice A0_1 l0_1.length c0_1]) (t := 28) ?hr ?_; (case hd => rfl); (case hg => rfl); (case hr => first | (go_simp; done) | (go_simp; rfl)); intro gb101 hg w4 hbox hb; have n0_ := asd (below_step (by repeat (first | (with_reducible first | exact HB.out | apply below_alloc | apply pw_below_drewN | apply below_drew1) | exact HB.out)) hb); have n1_ := asd (hbox); have n2_ := asd ((by rw [hg]; exact (below_size (by repeat (first | (with_reducible first | exact HB.out | apply below_alloc | apply pw_below_drewN | apply below_drew1) | exact HB.out))) : w.heap.size ≤ gb101)); have n3_ := asd ((by rw [hg]; exact (below_size (by repeat (first | (with_reducible first | exact HB.out | apply below_alloc | apply pw_below_drewN | apply below_drew1) | exact HB.out))) : w.heap.size ≤ gb101)); clear HB; have HB := n0_; have BK101 := n1_; have GW101 := n2_; have GE101 := n3_; clear n0_ n1_ n2_ n3_; clear hb hbox hg; have hcz5_0 : w4.cell? ⟨gb101, 0, none⟩ = some (.int .i64 a0_0) := (blk_cell BK101.out 0).trans rfl; have hcz5_1 : w4.cell? ⟨gb101, 1, none⟩ = some (.slice A0_1 l0_1.length c0_1) := (blk_cell BK101.out 1).trans rfl; have hfz5_0 := blk_frozen BK101.out 0; have hfz5_1 := blk_frozen BK101.out 1) | (go_at_call 102; (with_reducible refine (impl_Space_family.calls a0_0 _ _ l0_1 t102 _ ?side1 ?side2 A3.out).mono ?_); (case side1 => repeat (first | exact (Kd.C_below HR0_1.out HB.out) | (with_reducible refine Kd.C_alloc ?_ _) | (with_reducible refine Kd.C_drewN ?_ _) | (with_reducible refine Kd.C_drew ?_))); (case side2 => exact HC0_1.out); rintro e w6 ⟨v103, rfl, ho0, hb⟩; have n0_ := asd (Kd.R_lower ho0 (below_size (by repeat (first | (with_reducible first | exact HB.out | apply below_alloc | apply pw_below_drewN | apply below_drew1 | refine below_set ?_ GE101.out) | exact HB.out)))); have n1_ := asd (blk_below (upB BK101.out) hb); have n2_ := asd (below_step (by repeat (first | (with_reducible first | exact HB.out | apply below_alloc | apply pw_below_drewN | apply below_drew1 | refine below_set ?_ GE101.out) | exact HB.out)) hb); clear BK101; clear HB; have HO104 := n0_; have BK101 := n1_; have HB := n2_; clear n0_ n1_ n2_; (try clear hb); (try clear hb2); (try clear hk); (try clear hi); (try clear ho0)))
 repeat (go_quiet (first | ((with_reducible refine gate_dst (N := 2) rfl ?_); refine box_event ?hg (N := 2) ?hd (cs := #[.int .i64 a0_0, .slice A0_1 l0_1.length c0_1]) (t := 28) ?hr ?_; (case hd => rfl); (case hg => rfl); (case hr => first | (go_simp; done) | (go_simp; rfl)); intro gb101 hg w4 hbox hb; have n0_ := asd (below_step (by repeat (first | (with_reducible first | exact HB.out | apply below_alloc | apply pw_below_drewN | apply below_drew1) | exact HB.out)) hb); have n1_ := asd (hbox); have n2_ := asd ((by rw [hg]; exact (below_size (by repeat (first | (with_reducible first | exact HB.out | apply below_alloc | apply pw_below_drewN | apply below_drew1) | exact HB.out))) : w.heap.size ≤ gb101)); have n3_ := asd ((by rw [hg]; exact (below_size (by repeat (first | (with_reducible first | exact HB.out | apply below_alloc | apply pw_below_drewN | apply below_drew1) | exact HB.out))) : w.heap.size ≤ gb101)); clear HB; have HB := n0_; have BK101 := n1_; have GW101 := n2_; have GE101 := n3_; clear n0_ n1_ n2_ n3_; clear hb hbox hg; have hcz5_0 : w4.cell? ⟨gb101, 0, none⟩ = some (.int .i64 a0_0) := (blk_cell BK101.out 0).trans rfl; have hcz5_1 : w4.cell? ⟨gb101, 1, none⟩ = some (.slice A0_1 l0_1.length c0_1) := (blk_cell BK101.out 1).trans rfl; have hfz5_0 := blk_frozen BK101.out 0; have hfz5_1 := blk_frozen BK101.out 1) | (go_at_call 102; (with_reducible refine (impl_Space_family.calls a0_0 _ _ l0_1 t102 _ ?side1 ?side2 A3.out).mono ?_); (case side1 => repeat (first | exact (Kd.C_below HR0_1.out HB.out) | (with_reducible refine Kd.C_alloc ?_ _) | (with_reducible refine Kd.C_drewN ?_ _) | (with_reducible refine Kd.C_drew ?_))); (case side2 => exact HC0_1.out); rintro e w6 ⟨v103, rfl, ho0, hb⟩; have n0_ := asd (Kd.R_lower ho0 (below_size (by repeat (first | (with_reducible first | exact HB.out | apply below_alloc | apply pw_below_drewN | apply below_drew1 | refine below_set ?_ GE101.out) | exact HB.out)))); have n1_ := asd (blk_below (upB BK101.out) hb); have n2_ := asd (below_step (by repeat (first | (with_reducible first | exact HB.out | apply below_alloc | apply pw_below_drewN | apply below_drew1 | refine below_set ?_ GE101.out) | exact HB.out)) hb); clear BK101; clear HB; have HO104 := n0_; have BK101 := n1_; have HB := n2_; clear n0_ n1_ n2_; (try clear hb); (try clear hb2); (try clear hk); (try clear hi); (try clear ho0))); try go_wp2_with (first | ((with_reducible refine gate_dst (N := 2) rfl ?_); refine box_event ?hg (N := 2) ?hd (cs := #[.int .i64 a0_0, .slice A0_1 l0_1.length c0_1]) (t := 28) ?hr ?_; (case hd => rfl); (case hg => rfl); (case hr => first | (go_simp; done) | (go_simp; rfl)); intro gb101 hg w4 hbox hb; have n0_ := asd (below_step (by repeat (first | (with_reducible first | exact HB.out | apply below_alloc | apply pw_below_drewN | apply below_drew1) | exact HB.out)) hb); have n1_ := asd (hbox); have n2_ := asd ((by rw [hg]; exact (below_size (by repeat (first | (with_reducible first | exact HB.out | apply below_alloc | apply pw_below_drewN | apply below_drew1) | exact HB.out))) : w.heap.size ≤ gb101)); have n3_ := asd ((by rw [hg]; exact (below_size (by repeat (first | (with_reducible first | exact HB.out | apply below_alloc | apply pw_below_drewN | apply below_drew1) | exact HB.out))) : w.heap.size ≤ gb101)); clear HB; have HB := n0_; have BK101 := n1_; have GW101 := n2_; have GE101 := n3_; clear n0_ n1_ n2_ n3_; clear hb hbox hg; have hcz5_0 : w4.cell? ⟨gb101, 0, none⟩ = some (.int .i64 a0_0) := (blk_cell BK101.out 0).trans rfl; have hcz5_1 : w4.cell? ⟨gb101, 1, none⟩ = some (.slice A0_1 l0_1.length c0_1) := (blk_cell BK101.out 1).trans rfl; have hfz5_0 := blk_frozen BK101.out 0; have hfz5_1 := blk_frozen BK101.out 1) | (go_at_call 102; (with_reducible refine (impl_Space_family.calls a0_0 _ _ l0_1 t102 _ ?side1 ?side2 A3.out).mono ?_); (case side1 => repeat (first | exact (Kd.C_below HR0_1.out HB.out) | (with_reducible refine Kd.C_alloc ?_ _) | (with_reducible refine Kd.C_drewN ?_ _) | (with_reducible refine Kd.C_drew ?_))); (case side2 => exact HC0_1.out); rintro e w6 ⟨v103, rfl, ho0, hb⟩; have n0_ := asd (Kd.R_lower ho0 (below_size (by repeat (first | (with_reducible first | exact HB.out | apply below_alloc | apply pw_below_drewN | apply below_drew1 | refine below_set ?_ GE101.out) | exact HB.out)))); have n1_ := asd (blk_below (upB BK101.out) hb); have n2_ := asd (below_step (by repeat (first | (with_reducible first | exact HB.out | apply below_alloc | apply pw_below_drewN | apply below_drew1 | refine below_set ?_ GE101.out) | exact HB.out)) hb); clear BK101; clear HB; have HO104 := n0_; have BK101 := n1_; have HB := n2_; clear n0_ n1_ n2_; (try clear hb); (try clear hb2); (try clear hk); (try clear hi); (try clear ho0))))
 go_loopg [7, 14] k (fun kq v7 v14 w' => ∃ (x7_1 : Int) (x14_1 : Int), v7 = .int .i64 x7_1 ∧ v14 = .int .i64 x14_1 ∧ Aside0 (impl_Space_setOf.l0 kq t102 x7_1 l1 (l1.length : Int) x14_1 a0_0 l0_1 = some (r1, r2)) ∧ Aside0 (kq ≤ k) ∧ Aside0 (Kd.R Kd.bool 126 w' w.heap.size (fun _ => True) v103 t102) ∧ Aside0 (w'.heap[gb101]? = some (.cells #[.int .i64 a0_0, (.slice A0_1 l0_1.length c0_1)] 28 (0, 0))) ∧ Aside0 (Below w.heap.size w w'))
 case atStart => exact ⟨(0), (0), (by first | rfl | (simp; done) | (simp [*]; done)), (by first | rfl | (simp; done) | (simp [*]; done)), H', ⟨Nat.le_refl _⟩, ⟨by (with_reducible repeat (first | apply Kd.R_alloc | apply Kd.R_drewN | apply Kd.R_drew)); exact HO104.out⟩, ⟨by (with_reducible repeat (first | refine blk_drewN ?_ _ | refine blk_drew ?_ | refine blk_alloc ?_ _)); exact BK101.out⟩, ⟨by repeat (first | (with_reducible first | exact HB.out | apply below_alloc | apply pw_below_drewN | apply below_drew1 | refine below_set ?_ GE101.out) | exact HB.out)⟩⟩
 case round =>
  clear H'
  try clear c1
  try clear p2
  try clear hcz5_0
  try clear hcz5_1
  try clear hfz5_0
  try clear hfz5_1
  try clear HO_6; skip
  obtain ⟨x7_1, x14_1, rfl, rfl, HA, HK1, HO_6, BK101, HB⟩ := hrel
  cases gk with
  | zero => exact absurd HA.out (by simp [impl_Space_setOf.l0])
  | succ k1 =>
   have H := HA.out
   clear HA
   simp only [impl_Space_setOf.l0] at H
   by_cases c7 : x14_1 < (l1.length : Int)
   ·
    rw [if_pos c7] at H
    have c7b0 : decide (x14_1 < (l1.length : Int)) = true := decide_eq_true c7
    clear c7
    by_cases c8 : 0 ≤ x14_1
    ·
     rw [if_pos c8] at H
     have c8b0 : decide (0 ≤ x14_1) = true := decide_eq_true c8
     clear c8
     by_cases c9 : x14_1 < (l1.length : Int)
     ·
      rw [if_pos c9] at H
      have c9b0 : decide (x14_1 < (l1.length : Int)) = true := decide_eq_true c9
      clear c9
      replace H := Option.bind_eq_some_iff.mp H
      obtain ⟨t106, A100, H⟩ := H
      replace H : (if t106 = true then (if 0 ≤ (rd l1 x14_1) then (if (Go.bits .and .i64 (shr .i64 x7_1 (rd l1 x14_1)) 1) = 1 then (some (0, false)) else (if 0 ≤ (Go.bits .or .i64 x7_1 (shl .i64 1 (rd l1 x14_1))) then (if (Go.bits .or .i64 x7_1 (shl .i64 1 (rd l1 x14_1))) < 128 then (if (rdOf false t102 (Go.bits .or .i64 x7_1 (shl .i64 1 (rd l1 x14_1))) = true) then (impl_Space_setOf.l0 k1 t102 (Go.bits .or .i64 x7_1 (shl .i64 1 (rd l1 x14_1))) l1 (l1.length : Int) (wrap64 (x14_1 + 1)) a0_0 l0_1) else (some (0, false))) else (none)) else (none))) else (none)) else (some (0, false))) = some (r1, r2) := H
      have A10 := asd A100
      clear A100
      by_cases c11 : t106 = true
      ·
       subst c11
       have H1 : (if 0 ≤ (rd l1 x14_1) then (if (Go.bits .and .i64 (shr .i64 x7_1 (rd l1 x14_1)) 1) = 1 then (some (0, false)) else (if 0 ≤ (Go.bits .or .i64 x7_1 (shl .i64 1 (rd l1 x14_1))) then (if (Go.bits .or .i64 x7_1 (shl .i64 1 (rd l1 x14_1))) < 128 then (if (rdOf false t102 (Go.bits .or .i64 x7_1 (shl .i64 1 (rd l1 x14_1))) = true) then (impl_Space_setOf.l0 k1 t102 (Go.bits .or .i64 x7_1 (shl .i64 1 (rd l1 x14_1))) l1 (l1.length : Int) (wrap64 (x14_1 + 1)) a0_0 l0_1) else (some (0, false))) else (none)) else (none))) else (none)) = some (r1, r2) := by rw [if_pos rfl] at H; exact H
       clear H
       have H := H1
       clear H1
       by_cases c12 : 0 ≤ (rd l1 x14_1)
       ·
        rw [if_pos c12] at H
        have c12b0 := eq_true c12
        have c12b1 : decide (0 ≤ (rd l1 x14_1)) = true := decide_eq_true c12
        clear c12
        obtain ⟨ji13, hji13⟩ : ∃ j_ : Int, (shr .i64 x7_1 (rd l1 x14_1)) = j_ := ⟨_, rfl⟩
        replace H : (if (Go.bits .and .i64 (ji13) 1) = 1 then (some (0, false)) else (if 0 ≤ (Go.bits .or .i64 x7_1 (shl .i64 1 (rd l1 x14_1))) then (if (Go.bits .or .i64 x7_1 (shl .i64 1 (rd l1 x14_1))) < 128 then (if (rdOf false t102 (Go.bits .or .i64 x7_1 (shl .i64 1 (rd l1 x14_1))) = true) then (impl_Space_setOf.l0 k1 t102 (Go.bits .or .i64 x7_1 (shl .i64 1 (rd l1 x14_1))) l1 (l1.length : Int) (wrap64 (x14_1 + 1)) a0_0 l0_1) else (some (0, false))) else (none)) else (none))) = some (r1, r2) := by first | (rw [hji13] at H; exact H) | (simp only [hji13] at H ⊢; exact H)
        (try rw [hji13] at A10)
        have hji13_ : (x7_1 / 2 ^ min (rd l1 x14_1).toNat 64) = ji13 := hji13
        have hji13z : (rd l1 x14_1) ≤ 64 → (x7_1 / 2 ^ (rd l1 x14_1).toNat) = ji13 := shr_small hji13
        by_cases c14 : (Go.bits .and .i64 (ji13) 1) = 1
        ·
         rw [if_pos c14] at H
         have c14b0 : ((Go.bits .and .i64 (ji13) 1) == 1) = true := beq_iff_eq.mpr c14
         have c14b1 : ((Go.bits .and .i64 (ji13) 1) != 1) = false := bne_eq_false_iff_eq.mpr c14
         clear c14
         simp only [Option.some.injEq, Prod.mk.injEq] at H
         obtain ⟨rfl, rfl⟩ := H
         have p105 : 0 ≤ (x14_1 : Int) := of_decide_eq_true (by first | (with_reducible assumption) | assumption)
         have q105 : x14_1 < (l1.length : Int) := of_decide_eq_true (by first | (with_reducible assumption) | assumption)
         obtain ⟨ad105, e105, hx105_0⟩ := Kd.at_int HR1.out x14_1 p105 q105
         cases e105
         replace hx105_0 := (HB.out.cell (World.block_lt_of_cell? w _ hx105_0)).trans hx105_0
         replace p105 := eq_true p105
         replace q105 := eq_true q105
         have hcz15_0 : wr.cell? ⟨gb101, 0, none⟩ = some (.int .i64 a0_0) := (blk_cell BK101.out 0).trans rfl
         have hcz15_1 : wr.cell? ⟨gb101, 1, none⟩ = some (.slice A0_1 l0_1.length c0_1) := (blk_cell BK101.out 1).trans rfl
         have hfz15_0 := blk_frozen BK101.out 0
         have hfz15_1 := blk_frozen BK101.out 1
         go_wp2_with (first | (go_at_call 61; (with_reducible refine (impl_within.calls (rd l1 x14_1) 0 (wrap64 (a0_0 - 1)) true _ A10.out).mono ?_); rintro e w' ⟨rfl, ⟨nd, rfl⟩⟩; (try first | exact ⟨rfl, _, World.drewN_drewN _ _ _⟩ | exact ⟨rfl, _, Eq.trans (World.drewN_drewN _ _ _) (congrArg (World.drewN _) (Nat.add_assoc _ _ _))⟩)))
         repeat (go_quiet (first | (go_at_call 61; (first | (with_reducible refine (impl_within.calls (rd l1 x14_1) 0 (wrap64 (a0_0 - 1)) true _ A10.out).mono ?_) | (with_reducible refine (impl_within.calls (rd l1 x14_1) 0 (IntKind.i64.wrap (a0_0 - 1)) true _ (by first | exact A10.out | (with_unfolding_all exact A10.out))).mono ?_)); rintro e w' ⟨rfl, ⟨nd, rfl⟩⟩; (try first | exact ⟨rfl, _, World.drewN_drewN _ _ _⟩ | exact ⟨rfl, _, Eq.trans (World.drewN_drewN _ _ _) (congrArg (World.drewN _) (Nat.add_assoc _ _ _))⟩))); try go_wp2_with (first | (go_at_call 61; (first | (with_reducible refine (impl_within.calls (rd l1 x14_1) 0 (wrap64 (a0_0 - 1)) true _ A10.out).mono ?_) | (with_reducible refine (impl_within.calls (rd l1 x14_1) 0 (IntKind.i64.wrap (a0_0 - 1)) true _ (by first | exact A10.out | (with_unfolding_all exact A10.out))).mono ?_)); rintro e w' ⟨rfl, ⟨nd, rfl⟩⟩; (try first | exact ⟨rfl, _, World.drewN_drewN _ _ _⟩ | exact ⟨rfl, _, Eq.trans (World.drewN_drewN _ _ _) (congrArg (World.drewN _) (Nat.add_assoc _ _ _))⟩))))
         go_ret2
         exact ⟨by first | rfl | (simp [errW_none, errW_some] <;> rfl) | (simp only [← hji13]; first | rfl | (simp [errW_none, errW_some] <;> rfl)) | (simp [*, errW_none, errW_some] <;> rfl), by repeat (first | (with_reducible first | exact HB.out | apply below_alloc | apply pw_below_drewN | apply below_drew1 | refine below_set ?_ GE101.out) | exact HB.out)⟩
        ·
         rw [if_neg c14] at H
         have c14b0 : ((Go.bits .and .i64 (ji13) 1) == 1) = false := beq_eq_false_iff_ne.mpr c14
         have c14b1 : ((Go.bits .and .i64 (ji13) 1) != 1) = true := bne_iff_ne.mpr c14
         have c16b0 := eq_true (of_decide_eq_true (by first | (with_reducible assumption) | assumption) : 0 ≤ (rd l1 x14_1))
         obtain ⟨ji17, hji17⟩ : ∃ j_ : Int, (shl .i64 1 (rd l1 x14_1)) = j_ := ⟨_, rfl⟩
         replace H : (if 0 ≤ (Go.bits .or .i64 x7_1 (ji17)) then (if (Go.bits .or .i64 x7_1 (ji17)) < 128 then (if (rdOf false t102 (Go.bits .or .i64 x7_1 (ji17)) = true) then (impl_Space_setOf.l0 k1 t102 (Go.bits .or .i64 x7_1 (ji17)) l1 (l1.length : Int) (wrap64 (x14_1 + 1)) a0_0 l0_1) else (some (0, false))) else (none)) else (none)) = some (r1, r2) := by first | (rw [hji17] at H; exact H) | (simp only [hji17] at H ⊢; exact H)
         (try rw [hji17] at A10)
         have hji17_ : (IntKind.i64.wrap (1 * 2 ^ min (rd l1 x14_1).toNat 64)) = ji17 := hji17
         have hji17z : (rd l1 x14_1) ≤ 64 → (IntKind.i64.wrap (1 * 2 ^ (rd l1 x14_1).toNat)) = ji17 := shl_small hji17
         have hji17u : (IntKind.i64.wrap (2 ^ min (rd l1 x14_1).toNat 64)) = ji17 := by have h_ := hji17_; rw [Int.one_mul] at h_; exact h_
         have hji17v : (rd l1 x14_1) ≤ 64 → (IntKind.i64.wrap (2 ^ (rd l1 x14_1).toNat)) = ji17 := fun hle_ => by have h_ := hji17z hle_; rw [Int.one_mul] at h_; exact h_
         have hji17y : (wrap64 (1 * 2 ^ min (rd l1 x14_1).toNat 64)) = ji17 := (i64_w _).symm.trans hji17_
         have hji17x : (rd l1 x14_1) ≤ 64 → (wrap64 (1 * 2 ^ (rd l1 x14_1).toNat)) = ji17 := fun h_ => (i64_w _).symm.trans (hji17z h_)
         by_cases c18 : 0 ≤ (Go.bits .or .i64 x7_1 (ji17))
         ·
          rw [if_pos c18] at H
          have c18b0 : decide (0 ≤ (Go.bits .or .i64 x7_1 (ji17))) = true := decide_eq_true c18
          clear c18
          by_cases c19 : (Go.bits .or .i64 x7_1 (ji17)) < 128
          ·
           rw [if_pos c19] at H
           have c19b0 : decide ((Go.bits .or .i64 x7_1 (ji17)) < 128) = true := decide_eq_true c19
           clear c19
           obtain ⟨bq20, hbq20⟩ : ∃ b_ : Bool, b_ = (rdOf false t102 (Go.bits .or .i64 x7_1 (ji17))) := ⟨_, rfl⟩
           replace H : (if (bq20 = true) then (impl_Space_setOf.l0 k1 t102 (Go.bits .or .i64 x7_1 (ji17)) l1 (l1.length : Int) (wrap64 (x14_1 + 1)) a0_0 l0_1) else (some (0, false))) = some (r1, r2) := by rw [← hbq20] at H; exact H
           have Nbq20 := asd hbq20
           clear hbq20
           by_cases c21 : (bq20 = true)
           ·
            subst c21
            have H1 : (impl_Space_setOf.l0 k1 t102 (Go.bits .or .i64 x7_1 (ji17)) l1 (l1.length : Int) (wrap64 (x14_1 + 1)) a0_0 l0_1) = some (r1, r2) := by rw [if_pos rfl] at H; exact H
            clear H
            have H := H1
            clear H1
            have c22b0 := eq_true (of_decide_eq_true (by first | (with_reducible assumption) | assumption) : 0 ≤ (rd l1 x14_1))
            have H' := asd H
            clear H
            have p105 : 0 ≤ (x14_1 : Int) := of_decide_eq_true (by first | (with_reducible assumption) | assumption)
            have q105 : x14_1 < (l1.length : Int) := of_decide_eq_true (by first | (with_reducible assumption) | assumption)
            obtain ⟨ad105, e105, hx105_0⟩ := Kd.at_int HR1.out x14_1 p105 q105
            cases e105
            replace hx105_0 := (HB.out.cell (World.block_lt_of_cell? w _ hx105_0)).trans hx105_0
            replace p105 := eq_true p105
            replace q105 := eq_true q105
            have hcz23_0 : wr.cell? ⟨gb101, 0, none⟩ = some (.int .i64 a0_0) := (blk_cell BK101.out 0).trans rfl
            have hcz23_1 : wr.cell? ⟨gb101, 1, none⟩ = some (.slice A0_1 l0_1.length c0_1) := (blk_cell BK101.out 1).trans rfl
            have hfz23_0 := blk_frozen BK101.out 0
            have hfz23_1 := blk_frozen BK101.out 1
            go_wp2_with (first | (go_at_call 61; (with_reducible refine (impl_within.calls (rd l1 x14_1) 0 (wrap64 (a0_0 - 1)) true _ A10.out).mono ?_); rintro e w' ⟨rfl, ⟨nd, rfl⟩⟩; (try first | exact ⟨rfl, _, World.drewN_drewN _ _ _⟩ | exact ⟨rfl, _, Eq.trans (World.drewN_drewN _ _ _) (congrArg (World.drewN _) (Nat.add_assoc _ _ _))⟩); obtain ⟨Ao24, co24, eo24⟩ := Kd.R_slice HO_6.out; subst eo24; (try simp only [ptrOf_slice]); have p107 : 0 ≤ ((Go.bits .or .i64 x7_1 (ji17)) : Int) := of_decide_eq_true (by first | (with_reducible assumption) | assumption); have q107 : (Go.bits .or .i64 x7_1 (ji17)) < (t102.length : Int) := (by have h_ : ((Go.bits .or .i64 x7_1 (ji17)) : Int) < (128 : Int) := of_decide_eq_true (by first | (with_reducible assumption) | assumption); (try have e_ := (Kd.R_reads' HO_6.out).1); (try have e0_ := HLt102.out); omega); have ql107 : (((Go.bits .or .i64 x7_1 (ji17)) : Int) < (128 : Int)) = True := eq_true (of_decide_eq_true (by first | (with_reducible assumption) | assumption)); obtain ⟨ad107, e107, hx107_0⟩ := Kd.at_bool (Kd.R_reads' HO_6.out).2.2 (Go.bits .or .i64 x7_1 (ji17)) p107 q107; (try rw [← Nbq20.out] at hx107_0); cases e107; replace p107 := eq_true p107; replace q107 := eq_true q107))
            try (obtain ⟨Ao24, co24, eo24⟩ := Kd.R_slice HO_6.out; subst eo24; (try simp only [ptrOf_slice]); have p107 : 0 ≤ ((Go.bits .or .i64 x7_1 (ji17)) : Int) := of_decide_eq_true (by first | (with_reducible assumption) | assumption); have q107 : (Go.bits .or .i64 x7_1 (ji17)) < (t102.length : Int) := (by have h_ : ((Go.bits .or .i64 x7_1 (ji17)) : Int) < (128 : Int) := of_decide_eq_true (by first | (with_reducible assumption) | assumption); (try have e_ := (Kd.R_reads' HO_6.out).1); (try have e0_ := HLt102.out); omega); have ql107 : (((Go.bits .or .i64 x7_1 (ji17)) : Int) < (128 : Int)) = True := eq_true (of_decide_eq_true (by first | (with_reducible assumption) | assumption)); obtain ⟨ad107, e107, hx107_0⟩ := Kd.at_bool (Kd.R_reads' HO_6.out).2.2 (Go.bits .or .i64 x7_1 (ji17)) p107 q107; (try rw [← Nbq20.out] at hx107_0); cases e107; replace p107 := eq_true p107; replace q107 := eq_true q107)
            repeat (go_quiet (first | (go_at_call 61; (first | (with_reducible refine (impl_within.calls (rd l1 x14_1) 0 (wrap64 (a0_0 - 1)) true _ A10.out).mono ?_) | (with_reducible refine (impl_within.calls (rd l1 x14_1) 0 (IntKind.i64.wrap (a0_0 - 1)) true _ (by first | exact A10.out | (with_unfolding_all exact A10.out))).mono ?_)); rintro e w' ⟨rfl, ⟨nd, rfl⟩⟩; (try first | exact ⟨rfl, _, World.drewN_drewN _ _ _⟩ | exact ⟨rfl, _, Eq.trans (World.drewN_drewN _ _ _) (congrArg (World.drewN _) (Nat.add_assoc _ _ _))⟩) <;> (obtain ⟨Ao24, co24, eo24⟩ := Kd.R_slice HO_6.out; subst eo24; (try simp only [ptrOf_slice]); have p107 : 0 ≤ ((Go.bits .or .i64 x7_1 (ji17)) : Int) := of_decide_eq_true (by first | (with_reducible assumption) | assumption); have q107 : (Go.bits .or .i64 x7_1 (ji17)) < (t102.length : Int) := (by have h_ : ((Go.bits .or .i64 x7_1 (ji17)) : Int) < (128 : Int) := of_decide_eq_true (by first | (with_reducible assumption) | assumption); (try have e_ := (Kd.R_reads' HO_6.out).1); (try have e0_ := HLt102.out); omega); have ql107 : (((Go.bits .or .i64 x7_1 (ji17)) : Int) < (128 : Int)) = True := eq_true (of_decide_eq_true (by first | (with_reducible assumption) | assumption)); obtain ⟨ad107, e107, hx107_0⟩ := Kd.at_bool (Kd.R_reads' HO_6.out).2.2 (Go.bits .or .i64 x7_1 (ji17)) p107 q107; (try rw [← Nbq20.out] at hx107_0); cases e107; replace p107 := eq_true p107; replace q107 := eq_true q107))); try go_wp2_with (first | (go_at_call 61; (first | (with_reducible refine (impl_within.calls (rd l1 x14_1) 0 (wrap64 (a0_0 - 1)) true _ A10.out).mono ?_) | (with_reducible refine (impl_within.calls (rd l1 x14_1) 0 (IntKind.i64.wrap (a0_0 - 1)) true _ (by first | exact A10.out | (with_unfolding_all exact A10.out))).mono ?_)); rintro e w' ⟨rfl, ⟨nd, rfl⟩⟩; (try first | exact ⟨rfl, _, World.drewN_drewN _ _ _⟩ | exact ⟨rfl, _, Eq.trans (World.drewN_drewN _ _ _) (congrArg (World.drewN _) (Nat.add_assoc _ _ _))⟩) <;> (obtain ⟨Ao24, co24, eo24⟩ := Kd.R_slice HO_6.out; subst eo24; (try simp only [ptrOf_slice]); have p107 : 0 ≤ ((Go.bits .or .i64 x7_1 (ji17)) : Int) := of_decide_eq_true (by first | (with_reducible assumption) | assumption); have q107 : (Go.bits .or .i64 x7_1 (ji17)) < (t102.length : Int) := (by have h_ : ((Go.bits .or .i64 x7_1 (ji17)) : Int) < (128 : Int) := of_decide_eq_true (by first | (with_reducible assumption) | assumption); (try have e_ := (Kd.R_reads' HO_6.out).1); (try have e0_ := HLt102.out); omega); have ql107 : (((Go.bits .or .i64 x7_1 (ji17)) : Int) < (128 : Int)) = True := eq_true (of_decide_eq_true (by first | (with_reducible assumption) | assumption)); obtain ⟨ad107, e107, hx107_0⟩ := Kd.at_bool (Kd.R_reads' HO_6.out).2.2 (Go.bits .or .i64 x7_1 (ji17)) p107 q107; (try rw [← Nbq20.out] at hx107_0); cases e107; replace p107 := eq_true p107; replace q107 := eq_true q107))))
            go_roundg k1
            case measure => have := HK1.out; omega
            case rel => exact ⟨(Go.bits .or .i64 x7_1 (ji17)), (wrap64 (x14_1 + 1)), (by first | rfl | (simp; done) | (simp only [← hji17] <;> (first | rfl | simp)) | (simp [*]; done)), (by first | rfl | (simp; done) | (simp [*]; done)), H', ⟨by have := HK1.out; omega⟩, ⟨by (with_reducible repeat (first | apply Kd.R_alloc | apply Kd.R_drewN | apply Kd.R_drew)); exact HO_6.out⟩, ⟨by (with_reducible repeat (first | refine blk_drewN ?_ _ | refine blk_drew ?_ | refine blk_alloc ?_ _)); exact BK101.out⟩, ⟨by repeat (first | (with_reducible first | exact HB.out | apply below_alloc | apply pw_below_drewN | apply below_drew1 | refine below_set ?_ GE101.out) | exact HB.out)⟩⟩
           ·
            replace c21 := Bool.eq_false_iff.mpr c21
            subst c21
            have H1 : (some (0, false)) = some (r1, r2) := by rw [if_neg (show ¬ (false = true) by decide)] at H; exact H
            clear H
            have H := H1
            clear H1
            simp only [Option.some.injEq, Prod.mk.injEq] at H
            obtain ⟨rfl, rfl⟩ := H
            have p105 : 0 ≤ (x14_1 : Int) := of_decide_eq_true (by first | (with_reducible assumption) | assumption)
            have q105 : x14_1 < (l1.length : Int) := of_decide_eq_true (by first | (with_reducible assumption) | assumption)
            obtain ⟨ad105, e105, hx105_0⟩ := Kd.at_int HR1.out x14_1 p105 q105
            cases e105
            replace hx105_0 := (HB.out.cell (World.block_lt_of_cell? w _ hx105_0)).trans hx105_0
            replace p105 := eq_true p105
            replace q105 := eq_true q105
            have hcz25_0 : wr.cell? ⟨gb101, 0, none⟩ = some (.int .i64 a0_0) := (blk_cell BK101.out 0).trans rfl
            have hcz25_1 : wr.cell? ⟨gb101, 1, none⟩ = some (.slice A0_1 l0_1.length c0_1) := (blk_cell BK101.out 1).trans rfl
            have hfz25_0 := blk_frozen BK101.out 0
            have hfz25_1 := blk_frozen BK101.out 1
            go_wp2_with (first | (go_at_call 61; (with_reducible refine (impl_within.calls (rd l1 x14_1) 0 (wrap64 (a0_0 - 1)) true _ A10.out).mono ?_); rintro e w' ⟨rfl, ⟨nd, rfl⟩⟩; (try first | exact ⟨rfl, _, World.drewN_drewN _ _ _⟩ | exact ⟨rfl, _, Eq.trans (World.drewN_drewN _ _ _) (congrArg (World.drewN _) (Nat.add_assoc _ _ _))⟩); obtain ⟨Ao26, co26, eo26⟩ := Kd.R_slice HO_6.out; subst eo26; (try simp only [ptrOf_slice]); have p107 : 0 ≤ ((Go.bits .or .i64 x7_1 (ji17)) : Int) := of_decide_eq_true (by first | (with_reducible assumption) | assumption); have q107 : (Go.bits .or .i64 x7_1 (ji17)) < (t102.length : Int) := (by have h_ : ((Go.bits .or .i64 x7_1 (ji17)) : Int) < (128 : Int) := of_decide_eq_true (by first | (with_reducible assumption) | assumption); (try have e_ := (Kd.R_reads' HO_6.out).1); (try have e0_ := HLt102.out); omega); have ql107 : (((Go.bits .or .i64 x7_1 (ji17)) : Int) < (128 : Int)) = True := eq_true (of_decide_eq_true (by first | (with_reducible assumption) | assumption)); obtain ⟨ad107, e107, hx107_0⟩ := Kd.at_bool (Kd.R_reads' HO_6.out).2.2 (Go.bits .or .i64 x7_1 (ji17)) p107 q107; (try rw [← Nbq20.out] at hx107_0); cases e107; replace p107 := eq_true p107; replace q107 := eq_true q107))
            try (obtain ⟨Ao26, co26, eo26⟩ := Kd.R_slice HO_6.out; subst eo26; (try simp only [ptrOf_slice]); have p107 : 0 ≤ ((Go.bits .or .i64 x7_1 (ji17)) : Int) := of_decide_eq_true (by first | (with_reducible assumption) | assumption); have q107 : (Go.bits .or .i64 x7_1 (ji17)) < (t102.length : Int) := (by have h_ : ((Go.bits .or .i64 x7_1 (ji17)) : Int) < (128 : Int) := of_decide_eq_true (by first | (with_reducible assumption) | assumption); (try have e_ := (Kd.R_reads' HO_6.out).1); (try have e0_ := HLt102.out); omega); have ql107 : (((Go.bits .or .i64 x7_1 (ji17)) : Int) < (128 : Int)) = True := eq_true (of_decide_eq_true (by first | (with_reducible assumption) | assumption)); obtain ⟨ad107, e107, hx107_0⟩ := Kd.at_bool (Kd.R_reads' HO_6.out).2.2 (Go.bits .or .i64 x7_1 (ji17)) p107 q107; (try rw [← Nbq20.out] at hx107_0); cases e107; replace p107 := eq_true p107; replace q107 := eq_true q107)
            repeat (go_quiet (first | (go_at_call 61; (first | (with_reducible refine (impl_within.calls (rd l1 x14_1) 0 (wrap64 (a0_0 - 1)) true _ A10.out).mono ?_) | (with_reducible refine (impl_within.calls (rd l1 x14_1) 0 (IntKind.i64.wrap (a0_0 - 1)) true _ (by first | exact A10.out | (with_unfolding_all exact A10.out))).mono ?_)); rintro e w' ⟨rfl, ⟨nd, rfl⟩⟩; (try first | exact ⟨rfl, _, World.drewN_drewN _ _ _⟩ | exact ⟨rfl, _, Eq.trans (World.drewN_drewN _ _ _) (congrArg (World.drewN _) (Nat.add_assoc _ _ _))⟩) <;> (obtain ⟨Ao26, co26, eo26⟩ := Kd.R_slice HO_6.out; subst eo26; (try simp only [ptrOf_slice]); have p107 : 0 ≤ ((Go.bits .or .i64 x7_1 (ji17)) : Int) := of_decide_eq_true (by first | (with_reducible assumption) | assumption); have q107 : (Go.bits .or .i64 x7_1 (ji17)) < (t102.length : Int) := (by have h_ : ((Go.bits .or .i64 x7_1 (ji17)) : Int) < (128 : Int) := of_decide_eq_true (by first | (with_reducible assumption) | assumption); (try have e_ := (Kd.R_reads' HO_6.out).1); (try have e0_ := HLt102.out); omega); have ql107 : (((Go.bits .or .i64 x7_1 (ji17)) : Int) < (128 : Int)) = True := eq_true (of_decide_eq_true (by first | (with_reducible assumption) | assumption)); obtain ⟨ad107, e107, hx107_0⟩ := Kd.at_bool (Kd.R_reads' HO_6.out).2.2 (Go.bits .or .i64 x7_1 (ji17)) p107 q107; (try rw [← Nbq20.out] at hx107_0); cases e107; replace p107 := eq_true p107; replace q107 := eq_true q107))); try go_wp2_with (first | (go_at_call 61; (first | (with_reducible refine (impl_within.calls (rd l1 x14_1) 0 (wrap64 (a0_0 - 1)) true _ A10.out).mono ?_) | (with_reducible refine (impl_within.calls (rd l1 x14_1) 0 (IntKind.i64.wrap (a0_0 - 1)) true _ (by first | exact A10.out | (with_unfolding_all exact A10.out))).mono ?_)); rintro e w' ⟨rfl, ⟨nd, rfl⟩⟩; (try first | exact ⟨rfl, _, World.drewN_drewN _ _ _⟩ | exact ⟨rfl, _, Eq.trans (World.drewN_drewN _ _ _) (congrArg (World.drewN _) (Nat.add_assoc _ _ _))⟩) <;> (obtain ⟨Ao26, co26, eo26⟩ := Kd.R_slice HO_6.out; subst eo26; (try simp only [ptrOf_slice]); have p107 : 0 ≤ ((Go.bits .or .i64 x7_1 (ji17)) : Int) := of_decide_eq_true (by first | (with_reducible assumption) | assumption); have q107 : (Go.bits .or .i64 x7_1 (ji17)) < (t102.length : Int) := (by have h_ : ((Go.bits .or .i64 x7_1 (ji17)) : Int) < (128 : Int) := of_decide_eq_true (by first | (with_reducible assumption) | assumption); (try have e_ := (Kd.R_reads' HO_6.out).1); (try have e0_ := HLt102.out); omega); have ql107 : (((Go.bits .or .i64 x7_1 (ji17)) : Int) < (128 : Int)) = True := eq_true (of_decide_eq_true (by first | (with_reducible assumption) | assumption)); obtain ⟨ad107, e107, hx107_0⟩ := Kd.at_bool (Kd.R_reads' HO_6.out).2.2 (Go.bits .or .i64 x7_1 (ji17)) p107 q107; (try rw [← Nbq20.out] at hx107_0); cases e107; replace p107 := eq_true p107; replace q107 := eq_true q107))))
            go_ret2
            exact ⟨by first | rfl | (simp [errW_none, errW_some] <;> rfl) | (simp only [← hji13, ← hji17]; first | rfl | (simp [errW_none, errW_some] <;> rfl)) | (simp [*, errW_none, errW_some] <;> rfl), by repeat (first | (with_reducible first | exact HB.out | apply below_alloc | apply pw_below_drewN | apply below_drew1 | refine below_set ?_ GE101.out) | exact HB.out)⟩
          ·
           rw [if_neg c19] at H
           exact absurd H (by simp)
         ·
          rw [if_neg c18] at H
          exact absurd H (by simp)
       ·
        rw [if_neg c12] at H
        exact absurd H (by simp)
      ·
       replace c11 := Bool.eq_false_iff.mpr c11
       subst c11
       have H1 : (some (0, false)) = some (r1, r2) := by rw [if_neg (show ¬ (false = true) by decide)] at H; exact H
       clear H
       have H := H1
       clear H1
       simp only [Option.some.injEq, Prod.mk.injEq] at H
       obtain ⟨rfl, rfl⟩ := H
       have p105 : 0 ≤ (x14_1 : Int) := of_decide_eq_true (by first | (with_reducible assumption) | assumption)
       have q105 : x14_1 < (l1.length : Int) := of_decide_eq_true (by first | (with_reducible assumption) | assumption)
       obtain ⟨ad105, e105, hx105_0⟩ := Kd.at_int HR1.out x14_1 p105 q105
       cases e105
       replace hx105_0 := (HB.out.cell (World.block_lt_of_cell? w _ hx105_0)).trans hx105_0
       replace p105 := eq_true p105
       replace q105 := eq_true q105
       have hcz27_0 : wr.cell? ⟨gb101, 0, none⟩ = some (.int .i64 a0_0) := (blk_cell BK101.out 0).trans rfl
       have hcz27_1 : wr.cell? ⟨gb101, 1, none⟩ = some (.slice A0_1 l0_1.length c0_1) := (blk_cell BK101.out 1).trans rfl
       have hfz27_0 := blk_frozen BK101.out 0
       have hfz27_1 := blk_frozen BK101.out 1
       go_wp2_with (first | (go_at_call 61; (with_reducible refine (impl_within.calls (rd l1 x14_1) 0 (wrap64 (a0_0 - 1)) false _ A10.out).mono ?_); rintro e w' ⟨rfl, ⟨nd, rfl⟩⟩; (try first | exact ⟨rfl, _, World.drewN_drewN _ _ _⟩ | exact ⟨rfl, _, Eq.trans (World.drewN_drewN _ _ _) (congrArg (World.drewN _) (Nat.add_assoc _ _ _))⟩)))
       repeat (go_quiet (first | (go_at_call 61; (first | (with_reducible refine (impl_within.calls (rd l1 x14_1) 0 (wrap64 (a0_0 - 1)) false _ A10.out).mono ?_) | (with_reducible refine (impl_within.calls (rd l1 x14_1) 0 (IntKind.i64.wrap (a0_0 - 1)) false _ (by first | exact A10.out | (with_unfolding_all exact A10.out))).mono ?_)); rintro e w' ⟨rfl, ⟨nd, rfl⟩⟩; (try first | exact ⟨rfl, _, World.drewN_drewN _ _ _⟩ | exact ⟨rfl, _, Eq.trans (World.drewN_drewN _ _ _) (congrArg (World.drewN _) (Nat.add_assoc _ _ _))⟩))); try go_wp2_with (first | (go_at_call 61; (first | (with_reducible refine (impl_within.calls (rd l1 x14_1) 0 (wrap64 (a0_0 - 1)) false _ A10.out).mono ?_) | (with_reducible refine (impl_within.calls (rd l1 x14_1) 0 (IntKind.i64.wrap (a0_0 - 1)) false _ (by first | exact A10.out | (with_unfolding_all exact A10.out))).mono ?_)); rintro e w' ⟨rfl, ⟨nd, rfl⟩⟩; (try first | exact ⟨rfl, _, World.drewN_drewN _ _ _⟩ | exact ⟨rfl, _, Eq.trans (World.drewN_drewN _ _ _) (congrArg (World.drewN _) (Nat.add_assoc _ _ _))⟩))))
       go_ret2
       exact ⟨by first | rfl | (simp [errW_none, errW_some] <;> rfl) | (simp [*, errW_none, errW_some] <;> rfl), by repeat (first | (with_reducible first | exact HB.out | apply below_alloc | apply pw_below_drewN | apply below_drew1 | refine below_set ?_ GE101.out) | exact HB.out)⟩
     ·
      rw [if_neg c9] at H
      exact absurd H (by simp)
    ·
     rw [if_neg c8] at H
     exact absurd H (by simp)
   ·
    rw [if_neg c7] at H
    have c7b0 : decide (x14_1 < (l1.length : Int)) = false := decide_eq_false c7
    clear c7
    simp only [Option.some.injEq, Prod.mk.injEq] at H
    obtain ⟨rfl, rfl⟩ := H
    go_wp2
    repeat (go_quiet (fail); try go_wp2)
    go_ret2
    exact ⟨by first | rfl | (simp [errW_none, errW_some] <;> rfl) | (simp [*, errW_none, errW_some] <;> rfl), by repeat (first | (with_reducible first | exact HB.out | apply below_alloc | apply pw_below_drewN | apply below_drew1 | refine below_set ?_ GE101.out) | exact HB.out)⟩

-- HAND impl_Space_words: function 63
/-- A visit to all full words. -/
def impl_Space_words.run {σ : Type} (k : Nat) (n : Int) (l : List Int) (D : σ → List Int → Option (σ × Bool)) (st : σ) : Option σ :=
 (impl_Space_all.f n l).bind fun all => (impl_Space_family.f n l).bind fun F => (slices_Clone_int_int.f []).bind fun ws => (impl_Space_setOf.f k n l []).bind fun so => (wordsW all F D k st true ws so.1).bind fun r => some r.1
theorem impl_Space_words.run_mono {σ : Type} {D1 D2 : σ → List Int → Option (σ × Bool)} (hD : ∀ s ws, LeO (D1 s ws) (D2 s ws)) (k : Nat) (n : Int) (l : List Int) (st : σ) : LeO (impl_Space_words.run k n l D1 st) (impl_Space_words.run (k + 1) n l D2 st) := by
 unfold impl_Space_words.run
 exact LeO.bind (LeO.refl _) fun all => LeO.bind (LeO.refl _) fun F => LeO.bind (LeO.refl _) fun ws => LeO.bind (impl_Space_setOf.mono _ _ _ k) fun so => LeO.bind (wordsW_mono hD k _ _ _ _) fun r => LeO.refl _
theorem famf_of {n : Int} {l : List Int} {F : List Bool} (h : impl_Space_family.f n l = some F) : (∀ x ∈ l, 0 ≤ x ∧ x < 128) ∧ F = famOf l := by
 unfold impl_Space_family.f at h
 split at h
 ·
  rename_i hh
  refine ⟨fun x hx => ?_, (Option.some.inj h).symm⟩
  have h2 := List.all_eq_true.1 hh x hx
  rw [Bool.and_eq_true, decide_eq_true_eq, decide_eq_true_eq] at h2
  exact h2
 ·
  cases h
theorem four_new (W : World) (o1 o2 o3 o4 : Obj) : ((((W.alloc o1).alloc o2).alloc o3).alloc o4).heap[W.heap.size]? = some o1 ∧ ((((W.alloc o1).alloc o2).alloc o3).alloc o4).heap[W.heap.size + 1]? = some o2 ∧ ((((W.alloc o1).alloc o2).alloc o3).alloc o4).heap[W.heap.size + 1 + 1]? = some o3 ∧ ((((W.alloc o1).alloc o2).alloc o3).alloc o4).heap[W.heap.size + 1 + 1 + 1]? = some o4 ∧ Below W.heap.size W ((((W.alloc o1).alloc o2).alloc o3).alloc o4) := by
 have h1 := blk_new W o1
 have h2 := blk_new (W.alloc o1) o2
 have h3 := blk_new ((W.alloc o1).alloc o2) o3
 have h4 := blk_new (((W.alloc o1).alloc o2).alloc o3) o4
 rw [World.size_alloc] at h2
 rw [World.size_alloc, World.size_alloc] at h3
 rw [World.size_alloc, World.size_alloc, World.size_alloc] at h4
 exact ⟨blk_alloc (blk_alloc (blk_alloc h1 _) _) _, blk_alloc (blk_alloc h2 _) _, blk_alloc h3 _, h4, below_alloc (below_alloc (below_alloc (below_alloc (Below.refl _ _) _) _) _) _⟩
/-- Ahead of a visit. -/
theorem words_start {σ : Type} {I : World → (Nat → Prop) → σ → Prop} {D : σ → List Int → Option (σ × Bool)} {fd : Nat} {cd : Array Value} {wb : World} (hD : CBok I D fd cd wb) {n : Int} {A : Option Addr} {c : Nat} {l : List Int} {st : σ} {C : Nat → Prop} {w W4 : World} {gs gd bf c4 b0 : Nat} {A4 : Option Addr} {ws : List Int} {F : List Bool} (hb : Below wb.heap.size wb w) (hi : I w C st) (hb4 : Below w.heap.size w W4) (b1 : W4.heap[gs]? = some (.cells #[.int .i64 n, .slice A l.length c] 28 (0, 0))) (b2 : W4.heap[gd]? = some (.cells #[.func (.func fd) #[] cd] 75 (0, 0))) (h1 : w.heap.size ≤ gs) (h2 : w.heap.size ≤ gd) (h3 : w.heap.size ≤ bf) (h4 : w.heap.size ≤ b0) (hF : FamAt W4 bf F) (hR : Kd.R (Kd.int .i64) 3 W4 b0 (fun _ => True) (.slice A4 ws.length c4) ws) :
  WdS I wb ((((W4.alloc (.cells #[.pointer (some ⟨bf, 0, none⟩)] 105)).alloc (.cells #[.slice A4 ws.length c4] 22)).alloc (.cells #[.bool true] 4)).alloc (.cells #[.func (.func 111) #[] #[.pointer (some ⟨gs, 0, none⟩), .pointer (some ⟨gd, 0, none⟩), .pointer (some ⟨W4.heap.size + 1, 0, none⟩), .pointer (some ⟨W4.heap.size + 1 + 1, 0, none⟩), .pointer (some ⟨W4.heap.size, 0, none⟩), .pointer (some ⟨W4.heap.size + 1 + 1 + 1, 0, none⟩)]] 114)) C gs gd (W4.heap.size + 1) (W4.heap.size + 1 + 1) W4.heap.size (W4.heap.size + 1 + 1 + 1) bf n A c l (.func (.func fd) #[] cd) F true (.slice A4 ws.length c4) (.slice A4 ws.length c4) ws st ∧ Below W4.heap.size W4 ((((W4.alloc (.cells #[.pointer (some ⟨bf, 0, none⟩)] 105)).alloc (.cells #[.slice A4 ws.length c4] 22)).alloc (.cells #[.bool true] 4)).alloc (.cells #[.func (.func 111) #[] #[.pointer (some ⟨gs, 0, none⟩), .pointer (some ⟨gd, 0, none⟩), .pointer (some ⟨W4.heap.size + 1, 0, none⟩), .pointer (some ⟨W4.heap.size + 1 + 1, 0, none⟩), .pointer (some ⟨W4.heap.size, 0, none⟩), .pointer (some ⟨W4.heap.size + 1 + 1 + 1, 0, none⟩)]] 114)) := by
 obtain ⟨n1, n2, n3, n4, hX⟩ := four_new W4 (.cells #[.pointer (some ⟨bf, 0, none⟩)] 105) (.cells #[.slice A4 ws.length c4] 22) (.cells #[.bool true] 4) (.cells #[.func (.func 111) #[] #[.pointer (some ⟨gs, 0, none⟩), .pointer (some ⟨gd, 0, none⟩), .pointer (some ⟨W4.heap.size + 1, 0, none⟩), .pointer (some ⟨W4.heap.size + 1 + 1, 0, none⟩), .pointer (some ⟨W4.heap.size, 0, none⟩), .pointer (some ⟨W4.heap.size + 1 + 1 + 1, 0, none⟩)]] 114)
 have hs := hb4.size
 have hbs := hb.size
 have hn : ∀ {k : Nat}, w.heap.size ≤ k → ¬ C k := fun hk hc => by
  have := hD.bound _ _ _ hi _ hc
  omega
 have hbX : Below w.heap.size w ((((W4.alloc (.cells #[.pointer (some ⟨bf, 0, none⟩)] 105)).alloc (.cells #[.slice A4 ws.length c4] 22)).alloc (.cells #[.bool true] 4)).alloc (.cells #[.func (.func 111) #[] #[.pointer (some ⟨gs, 0, none⟩), .pointer (some ⟨gd, 0, none⟩), .pointer (some ⟨W4.heap.size + 1, 0, none⟩), .pointer (some ⟨W4.heap.size + 1 + 1, 0, none⟩), .pointer (some ⟨W4.heap.size, 0, none⟩), .pointer (some ⟨W4.heap.size + 1 + 1 + 1, 0, none⟩)]] 114)) := below_step hb4 hX
 refine ⟨⟨below_step hb hbX, blk_below b1 hX, blk_below b2 hX, n2, n3, n1, n4, hF.below hX, ?_, hn h1, hn h2, hn (by omega), hn (by omega), hn (by omega), hn (by omega), hn h3, by omega, by omega, hD.stay _ _ _ _ hi (fun k hk _ => hbX.block k hk) hbX.size⟩, hX⟩
 exact Kd.R_below (Kd.R_lower (Kd.R_mono (Kd.R_bound hR) (fun k hk => hn (Nat.le_trans h4 hk.2.1))) (Nat.le_trans hbs h4)) hX
set_option maxHeartbeats 4000000 in
set_option maxRecDepth 100000 in
theorem impl_Space_words.calls {σ : Type} (I : World → (Nat → Prop) → σ → Prop) (D : σ → List Int → Option (σ × Bool)) (fd : Nat) (cd : Array Value) (wb : World) (hD : CBok I D fd cd wb) (n : Int) (A : Option Addr) (c : Nat) (l : List Int) (k : Nat) (st st' : σ) (C : Nat → Prop) (w : World) (hl : Kd.C (Kd.int .i64) wb A l.length l) (hc : l.length ≤ c) (hb : Below wb.heap.size wb w) (hi : I w C st) (h : impl_Space_words.run k n l D st = some st') :
  Calls Try.prog 63 #[.agg #[.int .i64 n, .slice A l.length c], .slice none 0 0, .func (.func fd) #[] cd] w fun e w' => e = .returned (.tuple #[]) ∧ ∃ C', I w' C' st' ∧ (∀ k, C' k → C k ∨ w.heap.size ≤ k) ∧ Kept w w' C ∧ Below wb.heap.size wb w' := by
 have hu := Try.underlying28
 unfold impl_Space_words.run at h
 obtain ⟨all, hall, h⟩ := Option.bind_eq_some_iff.1 h
 obtain ⟨F, hF, h⟩ := Option.bind_eq_some_iff.1 h
 obtain ⟨ws, hws, h⟩ := Option.bind_eq_some_iff.1 h
 obtain ⟨⟨so, sb⟩, hso, h⟩ := Option.bind_eq_some_iff.1 h
 obtain ⟨r, hr, h⟩ := Option.bind_eq_some_iff.1 h
 obtain rfl := Option.some.inj h
 obtain ⟨hM, rfl⟩ := famf_of hF
 have HL := asd hl
 have HC := asd hc
 have HB := asd hb
 have HI := asd hi
 have HD := asd hD
 have HALL := asd hall
 have HM := asd hM
 have HWS := asd hws
 have HSO := asd hso
 have HR := asd hr
 clear hl hc hb hi hD hall hF hws hso hr h hM
 go_enter Try.func63, Try.ntmps63
 have HB0 := asd (Below.refl w.heap.size w)
 go_wp2_with (first | ((with_reducible refine gate_dst (N := 3) rfl ?_); refine box_event ?hg (N := 3) ?hd (cs := #[.int .i64 n, .slice A l.length c]) (t := 28) ?hr ?_; (case hd => rfl); (case hg => rfl); (case hr => first | (go_simp; done) | (go_simp; rfl)); intro gs gse W1 gsb W1b; have HB1 := asd (below_step (by repeat (first | exact HB0.out | apply pw_below_drewN | apply below_drew1 | apply below_alloc)) W1b); have BK1 := asd gsb; have GE1 := asd ((by rw [gse]; exact below_size (by repeat (first | exact HB0.out | apply pw_below_drewN | apply below_drew1 | apply below_alloc))) : w.heap.size ≤ gs); skip; clear W1b gsb gse) | ((with_reducible refine gate_dst (N := 5) rfl ?_); refine box_event ?hg (N := 5) ?hd (cs := #[.func (.func fd) #[] cd]) (t := 75) ?hr ?_; (case hd => rfl); (case hg => rfl); (case hr => first | (go_simp; done) | (go_simp; rfl)); intro gd gde W2 gdb W2b; have HB2 := asd (below_step (by repeat (first | exact HB1.out | apply pw_below_drewN | apply below_drew1 | apply below_alloc)) W2b); have BK2 := asd gdb; have GE2 := asd ((by rw [gde]; exact below_size (by repeat (first | exact HB1.out | apply pw_below_drewN | apply below_drew1 | apply below_alloc))) : w.heap.size ≤ gd); have BK12 := asd (blk_below BK1.out W2b); have NE2 : Aside0 (gs ≠ gd) := ⟨by have := blk_lt BK1.out; omega⟩; have q1 : W2.cell? ⟨gs, 0, none⟩ = some (.int .i64 n) := (blk_cell BK12.out 0).trans rfl; have q2 : W2.cell? ⟨gs, 1, none⟩ = some (.slice A l.length c) := (blk_cell BK12.out 1).trans rfl; clear W2b gdb gde) | (go_at_call 102; (with_reducible refine (impl_Space_family.walk n A c l _ ?sa ?sb HM.out).mono ?_); (case sa => exact Kd.C_below HL.out (below_step HB.out HB2.out)); (case sb => exact HC.out); rintro e W3 ⟨bf, rfl, hf, hfb, hb3⟩; have HF3 := asd hf; have FB3 := asd hfb; have HB3 := asd (below_step HB2.out hb3); have BK13 := asd (blk_below BK12.out hb3); have BK23 := asd (blk_below BK2.out hb3); clear hf hfb hb3 q1 q2) | (go_at_call 65; (refine (slices_Clone_int_int.calls none 0 [] ws _ ?sc ?sd HWS.out).mono ?_); (case sc => exact (Kd.R_reads' (Kd.R_nil (Kd.int .i64) 3 _ 0 (fun _ => True))).2.2); (case sd => exact Nat.le_refl _); rintro e W4 ⟨v4, rfl, hR4, hb4⟩; obtain ⟨A4, c4, e4⟩ := Kd.R_slice hR4; subst e4; have HR4 := asd hR4; have HF4 := asd (HF3.out.below hb4); have FB4 := asd (Nat.le_trans HB2.out.size FB3.out); have HB4 := asd (below_step HB3.out hb4); have BK14 := asd (blk_below BK13.out hb4); have BK24 := asd (blk_below BK23.out hb4); have hR4k := asd hR4; obtain ⟨hS5, hX5⟩ := words_start HD.out HB.out HI.out (below_step HB3.out hb4) (blk_below BK13.out hb4) (blk_below BK23.out hb4) GE1.out GE2.out (Nat.le_trans HB2.out.size FB3.out) HB3.out.size (HF3.out.below hb4) hR4; have HS5 := asd hS5; have HX5 := asd hX5; have q1 : (((((W4.alloc (.cells #[.pointer (some ⟨bf, 0, none⟩)] 105)).alloc (.cells #[.slice A4 ws.length c4] 22)).alloc (.cells #[.bool true] 4)).alloc (.cells #[.func (.func 111) #[] #[.pointer (some ⟨gs, 0, none⟩), .pointer (some ⟨gd, 0, none⟩), .pointer (some ⟨W4.heap.size + 1, 0, none⟩), .pointer (some ⟨W4.heap.size + 1 + 1, 0, none⟩), .pointer (some ⟨W4.heap.size, 0, none⟩), .pointer (some ⟨W4.heap.size + 1 + 1 + 1, 0, none⟩)]] 114))).cell? ⟨gs, 0, none⟩ = some (.int .i64 n) := (blk_cell hS5.b1 0).trans rfl; have q2 : (((((W4.alloc (.cells #[.pointer (some ⟨bf, 0, none⟩)] 105)).alloc (.cells #[.slice A4 ws.length c4] 22)).alloc (.cells #[.bool true] 4)).alloc (.cells #[.func (.func 111) #[] #[.pointer (some ⟨gs, 0, none⟩), .pointer (some ⟨gd, 0, none⟩), .pointer (some ⟨W4.heap.size + 1, 0, none⟩), .pointer (some ⟨W4.heap.size + 1 + 1, 0, none⟩), .pointer (some ⟨W4.heap.size, 0, none⟩), .pointer (some ⟨W4.heap.size + 1 + 1 + 1, 0, none⟩)]] 114))).cell? ⟨gs, 1, none⟩ = some (.slice A l.length c) := (blk_cell hS5.b1 1).trans rfl; clear hR4 hb4 hS5 hX5) | (go_at_call 112; (refine (impl_Space_setOf.calls k n A c l none 0 [] so sb _ ?se ?sf ?sg ?sh HSO.out).mono ?_); (case se => exact Kd.C_below HL.out HS5.out.bel); (case sf => exact HC.out); (case sg => exact (Kd.R_reads' (Kd.R_nil (Kd.int .i64) 3 _ 0 (fun _ => True))).2.2); (case sh => exact Nat.le_refl _); rintro e W6 ⟨rfl, hb6⟩; have HS6 := asd (HS5.out.below HD.out hb6); have HB6 := asd (below_step (below_step HB4.out HX5.out) hb6); have q9 : W6.cell? ⟨W4.heap.size + 1 + 1 + 1, 0, none⟩ = some (.func (.func 111) #[] #[.pointer (some ⟨gs, 0, none⟩), .pointer (some ⟨gd, 0, none⟩), .pointer (some ⟨W4.heap.size + 1, 0, none⟩), .pointer (some ⟨W4.heap.size + 1 + 1, 0, none⟩), .pointer (some ⟨W4.heap.size, 0, none⟩), .pointer (some ⟨W4.heap.size + 1 + 1 + 1, 0, none⟩)]) := (blk_cell HS6.out.b6 0).trans rfl; have GG : Aside0 (w.heap.size ≤ W4.heap.size) := ⟨HB4.out.size⟩; clear hb6 q1 q2) | (go_at_call 111; (refine (impl_Space_words_1.calls I D fd cd wb HD.out gs gd _ _ _ _ bf n A c l (famOf l) all HL.out HC.out HALL.out k st true ws so r C _ _ HS6.out HR.out).mono ?_); rintro e W7 ⟨rfl, C', v', hS7, hK7, hC7, hv7⟩; have HS7 := asd hS7; have HK7 := asd hK7; have HC7 := asd hC7; have HRB := asd (Kd.R_base hR4k.out); clear hS7 hK7 hC7 hv7))
 ((try simp only [Exit.inBlock, Exit.then]); first | refine bodyPost_ret (results_none rfl _ _ _) rfl ?_ | refine bodyPost_end (results_none rfl _ _ _) rfl ?_)
 refine ⟨rfl, C', HS7.out.inv, fun k hk => ?_, ?_, HS7.out.bel⟩
 ·
  rcases HC7.out k hk with h1 | h1
  ·
   exact .inl h1
  ·
   exact .inr (Nat.le_trans HB6.out.size h1)
 ·
  refine (Kept.of_below HB6.out C).then_ HK7.out (fun k hk => ?_)
  have hgg := GG.out
  rcases hk with hk | hk | hk | hk
  ·
   exact .inl hk
  ·
   exact .inr (by omega)
  ·
   exact .inr (by omega)
  ·
   exact .inr (Nat.le_trans HB3.out.size (HRB.out k hk.symm))

-- HAND impl_WordWith_1: function 64
/-- What the visitor keeps: the last word, and how many there were; it goes on up to a rank. -/
def rankD (rank : Int) (s : List Int × Int) (ws : List Int) : Option ((List Int × Int) × Bool) := (slices_Clone_int_int.f ws).bind fun c => some ((c, wrap64 (s.2 + 1)), decide (wrap64 (s.2 + 1) ≤ rank))
structure RankI (go gn gr : Nat) (rank : Int) (wb W : World) (C : Nat → Prop) (s : List Int × Int) (v : Value) : Prop where
  only : ∀ k, C k ↔ k = go ∨ k = gn ∨ k = gr ∨ some k = v.ownBlock
  b1 : W.heap[go]? = some (.cells #[v] 22 (0, 0))
  b2 : W.heap[gn]? = some (.cells #[.int .i64 s.2] 3 (0, 0))
  b3 : W.heap[gr]? = some (.cells #[.int .i64 rank] 3 (0, 0))
  row : Kd.R (Kd.int .i64) 3 W wb.heap.size (fun _ => True) v s.1
  ne : gn ≠ gr
  wo : wb.heap.size ≤ go
  wn : wb.heap.size ≤ gn
def RankS (go gn gr : Nat) (rank : Int) (wb W : World) (C : Nat → Prop) (s : List Int × Int) : Prop := ∃ v, RankI go gn gr rank wb W C s v
theorem RankI.stay {go gn gr : Nat} {rank : Int} {wb W W' : World} {C : Nat → Prop} {s : List Int × Int} {v : Value} (h : RankI go gn gr rank wb W C s v) (he : ∀ k, k < W.heap.size → C k → W'.heap[k]? = W.heap[k]?) : RankI go gn gr rank wb W' C s v :=
  ⟨h.only, (he go (blk_lt h.b1) ((h.only go).2 (.inl rfl))).trans h.b1, (he gn (blk_lt h.b2) ((h.only gn).2 (.inr (.inl rfl)))).trans h.b2, (he gr (blk_lt h.b3) ((h.only gr).2 (.inr (.inr (.inl rfl))))).trans h.b3, Kd.R_mono (Kd.R_step (Kd.R_tight rfl h.row) (fun k hk hlt => he k hlt ((h.only k).2 (.inr (.inr (.inr hk)))))) (fun _ _ => trivial), h.ne, h.wo, h.wn⟩
theorem RankI.below {go gn gr : Nat} {rank : Int} {wb W W' : World} {C : Nat → Prop} {s : List Int × Int} {v : Value} (h : RankI go gn gr rank wb W C s v) (hb : Below W.heap.size W W') : RankI go gn gr rank wb W' C s v := h.stay fun k hk _ => hb.block k hk
theorem RankI.put {go gn gr : Nat} {rank : Int} {wb W W3 : World} {C : Nat → Prop} {s : List Int × Int} {v v3 : Value} {ws : List Int} (h : RankI go gn gr rank wb W C s v) (hbw : wb.heap.size ≤ W.heap.size) (hb : Below W.heap.size W W3) (hr : Kd.R (Kd.int .i64) 3 W3 W.heap.size (fun _ => True) v3 ws) (m : Int) :
    RankI go gn gr rank wb ((W3.setCell ⟨go, 0, none⟩ v3).setCell ⟨gn, 0, none⟩ (.int .i64 m)) (fun k => k = go ∨ k = gn ∨ k = gr ∨ some k = v3.ownBlock) (ws, m) v3 := by
  have h3 := h.below hb
  have n1 : go ≠ gn := blk_ne h3.b1 h3.b2 (by decide)
  have n2 : gr ≠ go := blk_ne h3.b3 h3.b1 (by decide)
  refine ⟨fun _ => Iff.rfl, blk_far (blk_put h3.b1 0 v3 rfl) (p := ⟨gn, 0, none⟩) n1 _, blk_put (blk_far h3.b2 (p := ⟨go, 0, none⟩) (Ne.symm n1) _) 0 (.int .i64 m) rfl, blk_far (blk_far h3.b3 (p := ⟨go, 0, none⟩) n2 _) (p := ⟨gn, 0, none⟩) (Ne.symm h.ne) _, ?_, h.ne, h.wo, h.wn⟩
  have hlt1 := blk_lt h.b1
  have hlt2 := blk_lt h.b2
  have r1 := Kd.R_mono (Kd.R_bound hr) (ok' := fun k => W.heap.size ≤ k) (fun k hk => hk.2.1)
  have r2 := Kd.R_far (p := ⟨go, 0, none⟩) r1 (fun k hk e => by have e : k = go := e; omega) v3
  have r3 := Kd.R_far (p := ⟨gn, 0, none⟩) r2 (fun k hk e => by have e : k = gn := e; omega) (.int .i64 m)
  exact Kd.R_lower (Kd.R_mono r3 (fun _ _ => trivial)) hbw
set_option maxHeartbeats 4000000 in
set_option maxRecDepth 100000 in
theorem impl_WordWith_1.calls (go gn gr : Nat) (rank : Int) (wb : World) (W : World) (C : Nat → Prop) (s : List Int × Int) (Aw : Option Addr) (cw : Nat) (xs : List Int) (r : (List Int × Int) × Bool) (hI : RankS go gn gr rank wb W C s) (hb : Below wb.heap.size wb W) (hx : Kd.C (Kd.int .i64) W Aw xs.length xs) (hcx : xs.length ≤ cw) (h : rankD rank s xs = some r) :
    Calls Try.prog 64 #[.slice Aw xs.length cw, .pointer (some ⟨go, 0, none⟩), .pointer (some ⟨gn, 0, none⟩), .pointer (some ⟨gr, 0, none⟩)] W fun e W' => e = .returned (.bool r.2) ∧ ∃ C', RankS go gn gr rank wb W' C' r.1 ∧ (∀ k, C' k → C k ∨ W.heap.size ≤ k) ∧ Kept W W' C ∧ Below wb.heap.size wb W' := by
  obtain ⟨cl, hcl, h⟩ := Option.bind_eq_some_iff.1 h
  obtain rfl := Option.some.inj h
  obtain ⟨v, hI⟩ := hI
  obtain ⟨out, m⟩ := s
  obtain ⟨m1, hm1⟩ : ∃ y, y = wrap64 (m + 1) := ⟨_, rfl⟩
  show Calls _ _ _ _ fun e W' => e = .returned (.bool (decide (wrap64 (m + 1) ≤ rank))) ∧ ∃ C', RankS go gn gr rank wb W' C' (cl, wrap64 (m + 1)) ∧ _
  rw [← hm1]
  have sA : IntKind.i64.wrap (m + 1) = m1 := (i64_w _).trans hm1.symm
  have sB : wrap64 (m + 1) = m1 := hm1.symm
  have HI := Aside0.mk hI
  have HB := Aside0.mk hb
  have HX := Aside0.mk hx
  have HCX := Aside0.mk hcx
  have HCL := Aside0.mk hcl
  clear hI hb hx hcx hcl h hm1
  go_enter Try.func64, Try.ntmps64
  go_wp2_with (go_at_call 65; (with_reducible refine (slices_Clone_int_int.calls Aw cw xs cl _ ?sa ?sb HCL.out).mono ?_); (case sa => exact HX.out); (case sb => exact HCX.out); rintro e W3 ⟨v3, rfl, hR3, hb3⟩; obtain ⟨A3, c3, e3⟩ := Kd.R_slice hR3; subst e3; have HR3 := Aside0.mk hR3; have HI3 := Aside0.mk (HI.out.below hb3); have HB3 := Aside0.mk hb3; have q1 : W3.cell? ⟨go, 0, none⟩ = some v := (blk_cell HI3.out.b1 0).trans rfl; have f1 := blk_frozen HI3.out.b1 0; have q2 : W3.cell? ⟨gn, 0, none⟩ = some (.int .i64 m) := (blk_cell HI3.out.b2 0).trans rfl; have f2 := blk_frozen HI3.out.b2 0; have q3 : W3.cell? ⟨gr, 0, none⟩ = some (.int .i64 rank) := (blk_cell HI3.out.b3 0).trans rfl; have h12 : go ≠ gn := blk_ne HI3.out.b1 HI3.out.b2 (by decide); have h21 : gn ≠ go := fun e => h12 e.symm; have h13 : go ≠ gr := blk_ne HI3.out.b1 HI3.out.b3 (by decide); have h31 : gr ≠ go := fun e => h13 e.symm; have h23 : gn ≠ gr := HI3.out.ne; have h32 : gr ≠ gn := fun e => h23 e.symm; clear hR3 hb3)
  go_ret
  refine ⟨rfl, _, ⟨_, HI.out.put HB.out.size HB3.out HR3.out m1⟩, fun k hk => ?_, ?_, ?_⟩
  · rcases hk with hk | hk | hk | hk
    · exact .inl ((HI.out.only k).2 (.inl hk))
    · exact .inl ((HI.out.only k).2 (.inr (.inl hk)))
    · exact .inl ((HI.out.only k).2 (.inr (.inr (.inl hk))))
    · exact .inr (Kd.R_base HR3.out k hk.symm)
  · exact (((Kept.of_below HB3.out C).setCell (p := ⟨go, 0, none⟩) (.inl ((HI.out.only go).2 (.inl rfl))) _).setCell (p := ⟨gn, 0, none⟩) (.inl ((HI.out.only gn).2 (.inr (.inl rfl)))) _)
  · exact below_set (below_set (below_step HB.out HB3.out) HI.out.wo) HI.out.wn
theorem impl_WordWith_1.cb (go gn gr : Nat) (rank : Int) (wb : World) : CBok (RankS go gn gr rank wb) (rankD rank) 64 #[.pointer (some ⟨go, 0, none⟩), .pointer (some ⟨gn, 0, none⟩), .pointer (some ⟨gr, 0, none⟩)] wb where
  bound W C st h k hk := by
    obtain ⟨v, h⟩ := h
    rcases (h.only k).1 hk with rfl | rfl | rfl | hk
    · exact blk_lt h.b1
    · exact blk_lt h.b2
    · exact blk_lt h.b3
    · exact Kd.R_lt h.row k hk.symm
  stay W W' C st h he _ := by
    obtain ⟨v, h⟩ := h
    exact ⟨v, h.stay he⟩
  enter := enters_of Try.func64 (by kernel_rfl) rfl
  run W C st Aw cw xs r hI hb hx hcx h := impl_WordWith_1.calls go gn gr rank wb W C st Aw cw xs r hI hb hx hcx h

-- HAND impl_WordWith: function 21
def impl_WordWith.f (k : Nat) (a0_0 : Int) (l0_1 : List Int) (a1 : Int) : Option (List Int × Bool) := (impl_IsSpace.f a0_0 l0_1).bind fun b => if b = true then ((impl_Space_ways.f k a0_0 l0_1 0).bind fun m => (impl_within.f a1 0 (wrap64 (m - 1))).bind fun ok => if ok = true then ((impl_Space_words.run k a0_0 l0_1 (rankD a1) ([], 0)).bind fun s => some (s.1, true)) else some ([], false)) else some ([], false)
theorem impl_WordWith.mono (y0 : Int) (y1 : List Int) (y2 : Int) (k : Nat) : LeO (impl_WordWith.f k y0 y1 y2) (impl_WordWith.f (k + 1) y0 y1 y2) :=
 LeO.bind (LeO.refl _) fun b => LeO.ite (LeO.bind (impl_Space_ways.mono _ _ _ k) fun m => LeO.bind (LeO.refl _) fun ok => LeO.ite (LeO.bind (impl_Space_words.run_mono (fun s ws => LeO.refl _) k _ _ _) fun s => LeO.refl _) (LeO.refl _)) (LeO.refl _)
theorem drawn_below {w w' : World} (h : Drawn0 w w') : Below w.heap.size w w' := by
 obtain ⟨n, rfl⟩ := h
 exact pw_below_drewN (Below.refl _ _) n
theorem two_cells (W : World) (o o' : Obj) : ((W.alloc o).alloc o').heap[W.heap.size + 1]? = some o' ∧ ((W.alloc o).alloc o').heap[W.heap.size]? = some o ∧ Below W.heap.size W ((W.alloc o).alloc o') := by
 have h1 := blk_new (W.alloc o) o'
 rw [World.size_alloc] at h1
 exact ⟨h1, blk_alloc (blk_new W o) o', below_alloc (below_alloc (Below.refl _ _) _) _⟩
set_option maxHeartbeats 4000000 in
set_option maxRecDepth 100000 in
theorem impl_WordWith.calls (k : Nat) (a0_0 : Int) (A0_1 : Option Addr) (c0_1 : Nat) (l0_1 : List Int) (a1 : Int) (r1 : List Int) (r2 : Bool) (w : World) (hr0_1 : Kd.C (Kd.int .i64) w A0_1 l0_1.length l0_1) (hc0_1 : l0_1.length ≤ c0_1) (h : impl_WordWith.f k a0_0 l0_1 a1 = some (r1, r2)) :
  Calls Try.prog 21 #[.agg #[.int .i64 a0_0, .slice A0_1 l0_1.length c0_1], .int .i64 a1] w fun e w' => ∃ v0_ : Value, e = .returned (.tuple #[v0_, .bool r2]) ∧ Kd.R (Kd.int .i64) 3 w' w.heap.size (fun _ => True) v0_ r1 ∧ Below w.heap.size w w' := by
 have hu := Try.underlying28
 obtain ⟨b, hb, h⟩ := Option.bind_eq_some_iff.1 h
 have HR := asd hr0_1
 have HC := asd hc0_1
 have HT := asd hb
 have HB0 := asd (Below.refl w.heap.size w)
 clear hr0_1 hc0_1 hb
 cases b with
 | false =>
  rw [if_neg (by decide)] at h
  obtain ⟨rfl, rfl⟩ : [] = r1 ∧ false = r2 := by simpa using h
  clear h
  go_enter Try.func21, Try.ntmps21
  go_wp2_with (first | ((with_reducible refine gate_dst (N := 2) rfl ?_); refine box_event ?hg (N := 2) ?hd (cs := #[.int .i64 a0_0, .slice A0_1 l0_1.length c0_1]) (t := 28) ?hr ?_; (case hd => rfl); (case hg => rfl); (case hr => first | (go_simp; done) | (go_simp; rfl)); intro gs gse W1 gsb W1b; have HB1 := asd (below_step (by repeat (first | exact HB0.out | apply pw_below_drewN | apply below_drew1 | apply below_alloc)) W1b); have BK1 := asd gsb; have GE1 := asd ((by rw [gse]; exact below_size (by repeat (first | exact HB0.out | apply pw_below_drewN | apply below_drew1 | apply below_alloc))) : w.heap.size ≤ gs); skip; clear W1b gsb gse) | ((with_reducible refine gate_dst (N := 3) rfl ?_); refine box_event ?hg (N := 3) ?hd (cs := #[.int .i64 a1]) (t := 3) ?hr ?_; (case hd => rfl); (case hg => rfl); (case hr => first | (go_simp; done) | (go_simp; rfl)); intro gr gre W2 grb W2b; have HB2 := asd (below_step (by repeat (first | exact HB1.out | apply pw_below_drewN | apply below_drew1 | apply below_alloc)) W2b); have BK2 := asd grb; have GE2 := asd ((by rw [gre]; exact below_size (by repeat (first | exact HB1.out | apply pw_below_drewN | apply below_drew1 | apply below_alloc))) : w.heap.size ≤ gr); have BK12 := asd (blk_below BK1.out W2b); clear W2b grb gre))
  have q1 : W2.cell? ⟨gs, 0, none⟩ = some (.int .i64 a0_0) := (blk_cell BK12.out 0).trans rfl
  have q2 : W2.cell? ⟨gs, 1, none⟩ = some (.slice A0_1 l0_1.length c0_1) := (blk_cell BK12.out 1).trans rfl
  go_region_with (go_at_call 47; (refine (impl_IsSpace.calls a0_0 _ _ l0_1 false _ ?sa ?sb HT.out).mono ?_); (case sa => exact Kd.C_drew (Kd.C_below HR.out HB2.out)); (case sb => exact HC.out); rintro e W3 ⟨rfl, hb3⟩; have HB3 := asd (below_step HB2.out (below_since1 hb3)); clear hb3 q1 q2)
  all_goals (go_wp2; go_ret2; exact ⟨_, rfl, Kd.R_nil _ _ _ _ _, HB3.out⟩)
 | true =>
  rw [if_pos rfl] at h
  obtain ⟨m, hm, h⟩ := Option.bind_eq_some_iff.1 h
  obtain ⟨ok, hok, h⟩ := Option.bind_eq_some_iff.1 h
  obtain ⟨m1, hm1⟩ : ∃ y, y = wrap64 (m - 1) := ⟨_, rfl⟩
  rw [← hm1] at hok
  have sA : IntKind.i64.wrap (m - 1) = m1 := (i64_w _).trans hm1.symm
  have sB : wrap64 (m - 1) = m1 := hm1.symm
  have HM := asd hm
  have HOK := asd hok
  clear hm hok hm1
  cases ok with
  | false =>
   rw [if_neg (by decide)] at h
   obtain ⟨rfl, rfl⟩ : [] = r1 ∧ false = r2 := by simpa using h
   clear h
   go_enter Try.func21, Try.ntmps21
   go_wp2_with (first | ((with_reducible refine gate_dst (N := 2) rfl ?_); refine box_event ?hg (N := 2) ?hd (cs := #[.int .i64 a0_0, .slice A0_1 l0_1.length c0_1]) (t := 28) ?hr ?_; (case hd => rfl); (case hg => rfl); (case hr => first | (go_simp; done) | (go_simp; rfl)); intro gs gse W1 gsb W1b; have HB1 := asd (below_step (by repeat (first | exact HB0.out | apply pw_below_drewN | apply below_drew1 | apply below_alloc)) W1b); have BK1 := asd gsb; have GE1 := asd ((by rw [gse]; exact below_size (by repeat (first | exact HB0.out | apply pw_below_drewN | apply below_drew1 | apply below_alloc))) : w.heap.size ≤ gs); skip; clear W1b gsb gse) | ((with_reducible refine gate_dst (N := 3) rfl ?_); refine box_event ?hg (N := 3) ?hd (cs := #[.int .i64 a1]) (t := 3) ?hr ?_; (case hd => rfl); (case hg => rfl); (case hr => first | (go_simp; done) | (go_simp; rfl)); intro gr gre W2 grb W2b; have HB2 := asd (below_step (by repeat (first | exact HB1.out | apply pw_below_drewN | apply below_drew1 | apply below_alloc)) W2b); have BK2 := asd grb; have GE2 := asd ((by rw [gre]; exact below_size (by repeat (first | exact HB1.out | apply pw_below_drewN | apply below_drew1 | apply below_alloc))) : w.heap.size ≤ gr); have BK12 := asd (blk_below BK1.out W2b); clear W2b grb gre))
   have HK : Aside0 (∀ w', Below W2.heap.size W2 w' → Aside0 (Below W2.heap.size W2 w') ∧ w'.cell? ⟨gs, 0, none⟩ = some (.int .i64 a0_0) ∧ w'.cell? ⟨gs, 1, none⟩ = some (.slice A0_1 l0_1.length c0_1) ∧ w'.cell? ⟨gr, 0, none⟩ = some (.int .i64 a1)) := ⟨fun w' hb => ⟨⟨hb⟩, (blk_cell (blk_below BK12.out hb) 0).trans rfl, (blk_cell (blk_below BK12.out hb) 1).trans rfl, (blk_cell (blk_below BK2.out hb) 0).trans rfl⟩⟩
   go_region_held3 (fun w' => Aside0 (Below W2.heap.size W2 w') ∧ w'.cell? ⟨gs, 0, none⟩ = some (.int .i64 a0_0) ∧ w'.cell? ⟨gs, 1, none⟩ = some (.slice A0_1 l0_1.length c0_1) ∧ w'.cell? ⟨gr, 0, none⟩ = some (.int .i64 a1)) (first | exact HK.out _ (below_drew1 (Below.refl _ _)) | exact HK.out _ (below_step (‹Aside0 (Below W2.heap.size W2 _) ∧ _›).1.out (by assumption))) (first | (go_at_call 47; (with_reducible refine (impl_IsSpace.calls a0_0 _ _ l0_1 true _ ?sa ?sb HT.out).mono ?_); (case sa => exact Kd.C_below (Kd.C_below HR.out HB2.out) (‹Aside0 (Below W2.heap.size W2 _) ∧ _›).1.out); (case sb => exact HC.out); rintro e W3 ⟨rfl, hb3⟩) | (go_at_call 62; (with_reducible refine (impl_Space_ways.calls k a0_0 _ _ l0_1 0 m _ ?sa ?sb HM.out).mono ?_); (case sa => exact Kd.C_below (Kd.C_below HR.out HB2.out) (‹Aside0 (Below W2.heap.size W2 _) ∧ _›).1.out); (case sb => exact HC.out); rintro e W3 ⟨rfl, hb3⟩) | (go_at_call 61; (with_reducible refine (impl_within.calls a1 0 m1 false _ HOK.out).mono ?_); rintro e W3 ⟨rfl, hd3⟩; have hb3 := drawn_below hd3))
   have HB3 := (‹Aside0 (Below W2.heap.size W2 _) ∧ _›).1
   go_wp2
   go_ret2
   exact ⟨_, rfl, Kd.R_nil _ _ _ _ _, below_step HB2.out HB3.out⟩
  | true =>
   rw [if_pos rfl] at h
   obtain ⟨⟨out, cn⟩, hrun, h⟩ := Option.bind_eq_some_iff.1 h
   obtain ⟨rfl, rfl⟩ : out = r1 ∧ true = r2 := by simpa using h
   have HRUN := asd hrun
   clear h hrun
   go_enter Try.func21, Try.ntmps21
   go_wp2_with (first | ((with_reducible refine gate_dst (N := 2) rfl ?_); refine box_event ?hg (N := 2) ?hd (cs := #[.int .i64 a0_0, .slice A0_1 l0_1.length c0_1]) (t := 28) ?hr ?_; (case hd => rfl); (case hg => rfl); (case hr => first | (go_simp; done) | (go_simp; rfl)); intro gs gse W1 gsb W1b; have HB1 := asd (below_step (by repeat (first | exact HB0.out | apply pw_below_drewN | apply below_drew1 | apply below_alloc)) W1b); have BK1 := asd gsb; have GE1 := asd ((by rw [gse]; exact below_size (by repeat (first | exact HB0.out | apply pw_below_drewN | apply below_drew1 | apply below_alloc))) : w.heap.size ≤ gs); skip; clear W1b gsb gse) | ((with_reducible refine gate_dst (N := 3) rfl ?_); refine box_event ?hg (N := 3) ?hd (cs := #[.int .i64 a1]) (t := 3) ?hr ?_; (case hd => rfl); (case hg => rfl); (case hr => first | (go_simp; done) | (go_simp; rfl)); intro gr gre W2 grb W2b; have HB2 := asd (below_step (by repeat (first | exact HB1.out | apply pw_below_drewN | apply below_drew1 | apply below_alloc)) W2b); have BK2 := asd grb; have GE2 := asd ((by rw [gre]; exact below_size (by repeat (first | exact HB1.out | apply pw_below_drewN | apply below_drew1 | apply below_alloc))) : w.heap.size ≤ gr); have BK12 := asd (blk_below BK1.out W2b); clear W2b grb gre))
   have HK : Aside0 (∀ w', Below W2.heap.size W2 w' → Aside0 (Below W2.heap.size W2 w') ∧ w'.cell? ⟨gs, 0, none⟩ = some (.int .i64 a0_0) ∧ w'.cell? ⟨gs, 1, none⟩ = some (.slice A0_1 l0_1.length c0_1) ∧ w'.cell? ⟨gr, 0, none⟩ = some (.int .i64 a1)) := ⟨fun w' hb => ⟨⟨hb⟩, (blk_cell (blk_below BK12.out hb) 0).trans rfl, (blk_cell (blk_below BK12.out hb) 1).trans rfl, (blk_cell (blk_below BK2.out hb) 0).trans rfl⟩⟩
   go_region_held3 (fun w' => Aside0 (Below W2.heap.size W2 w') ∧ w'.cell? ⟨gs, 0, none⟩ = some (.int .i64 a0_0) ∧ w'.cell? ⟨gs, 1, none⟩ = some (.slice A0_1 l0_1.length c0_1) ∧ w'.cell? ⟨gr, 0, none⟩ = some (.int .i64 a1)) (first | exact HK.out _ (below_drew1 (Below.refl _ _)) | exact HK.out _ (below_step (‹Aside0 (Below W2.heap.size W2 _) ∧ _›).1.out (by assumption))) (first | (go_at_call 47; (with_reducible refine (impl_IsSpace.calls a0_0 _ _ l0_1 true _ ?sa ?sb HT.out).mono ?_); (case sa => exact Kd.C_below (Kd.C_below HR.out HB2.out) (‹Aside0 (Below W2.heap.size W2 _) ∧ _›).1.out); (case sb => exact HC.out); rintro e W3 ⟨rfl, hb3⟩) | (go_at_call 62; (with_reducible refine (impl_Space_ways.calls k a0_0 _ _ l0_1 0 m _ ?sa ?sb HM.out).mono ?_); (case sa => exact Kd.C_below (Kd.C_below HR.out HB2.out) (‹Aside0 (Below W2.heap.size W2 _) ∧ _›).1.out); (case sb => exact HC.out); rintro e W3 ⟨rfl, hb3⟩) | (go_at_call 61; (with_reducible refine (impl_within.calls a1 0 m1 true _ HOK.out).mono ?_); rintro e W3 ⟨rfl, hd3⟩; have hb3 := drawn_below hd3))
   have HB3 := (‹Aside0 (Below W2.heap.size W2 _) ∧ _›).1
   go_wp2_with (first | ((with_reducible refine gate_dst (N := 19) rfl ?_); refine Kd.R_lit (Kd.int .i64) _ 3 ?hg (N := 19) ?hd (xs := ([] : List Int)) (inner := []) (ok := fun _ => True) (okp := fun _ => True) ?hr ?hp (fun _ hk => hk) trivial (Below.refl _ _) (Nat.le_refl _) (by simp) ?_; (case hd => rfl); (case hg => rfl); (case hr => first | (go_simp; done) | (go_simp; rfl)); (case hp => exact (Reps.none _ _)); intro v5 W5 hR5 hb5 hg5 hn5; obtain ⟨A5, c5, e5⟩ := Kd.R_slice hR5; rw [List.length_nil] at e5; subst e5; have HB5 := asd (below_step (below_step HB2.out HB3.out) hb5); have hb25 := below_step HB3.out hb5; obtain ⟨n2, n1, hX⟩ := two_cells W5 (.cells #[.slice A5 0 c5] 22) (.cells #[.int .i64 0] 3); have HBX := asd (below_step HB5.out hX); have HN1 := asd n1; have HN2 := asd n2; have HGR := asd (blk_below (blk_below BK2.out hb25) hX); have HGL : Aside0 (gr < W5.heap.size) := ⟨blk_lt (blk_below BK2.out hb25)⟩; have HROW := asd (Kd.R_below (Kd.R_lower hR5 (below_size (below_step HB2.out HB3.out))) hX); have p1 : ((W5.alloc (.cells #[.slice A5 0 c5] 22)).alloc (.cells #[.int .i64 0] 3)).cell? ⟨gs, 0, none⟩ = some (.int .i64 a0_0) := (blk_cell (blk_below (blk_below BK12.out hb25) hX) 0).trans rfl; have p2 : ((W5.alloc (.cells #[.slice A5 0 c5] 22)).alloc (.cells #[.int .i64 0] 3)).cell? ⟨gs, 1, none⟩ = some (.slice A0_1 l0_1.length c0_1) := (blk_cell (blk_below (blk_below BK12.out hb25) hX) 1).trans rfl; clear hR5 hb5 hg5 hn5 hb25 n1 n2 hX) | (go_at_call 63; (refine (impl_Space_words.calls (RankS W5.heap.size (W5.heap.size + 1) gr a1 w) (rankD a1) _ _ w (impl_WordWith_1.cb W5.heap.size (W5.heap.size + 1) gr a1 w) a0_0 A0_1 c0_1 l0_1 k ([], 0) (out, cn) (fun k => k = W5.heap.size ∨ k = W5.heap.size + 1 ∨ k = gr ∨ some k = (Value.slice A5 0 c5).ownBlock) _ HR.out HC.out HBX.out ⟨_, fun _ => Iff.rfl, HN1.out, HN2.out, HGR.out, HROW.out, by have := HGL.out; omega, HB5.out.size, Nat.le_trans HB5.out.size (Nat.le_succ _)⟩ HRUN.out).mono ?_); rintro e W6 ⟨rfl, C', ⟨v6, hI6⟩, hC', hK, hB6⟩; have HB6 := asd hB6; have HI6 := asd hI6; have z6 : W6.cell? ⟨W5.heap.size, 0, none⟩ = some v6 := (blk_cell hI6.b1 0).trans rfl; clear hI6 hC' hK hB6 p1 p2))
   go_ret2
   exact ⟨v6, rfl, HI6.out.row, HB6.out⟩

/-! ### laws_markIntS: function 24 -/
def laws_markIntS.l0 : Nat → List Int → Int → Int → Option (Int × List Int)
 | 0, _, _, _ => none
 | k + 1, x0, x1, x5 => if x5 < (x0.length : Int) then (if 0 ≤ x5 then (laws_markIntS.l0 k (x0.set (x5 : Int).toNat x1) (wrap64 (x1 + 1)) (wrap64 (x5 + 1))) else (none)) else (some (x1, x0))
def laws_markIntS.f (k : Nat) (l0 : List Int) (a1 : Int) : Option (Int × List Int) := laws_markIntS.l0 k l0 a1 0
theorem laws_markIntS.mono_l : ∀ k, (∀ y0 y1 y2, LeO (laws_markIntS.l0 k y0 y1 y2) (laws_markIntS.l0 (k + 1) y0 y1 y2))
 | 0 => fun _ _ _ r h => by simp [laws_markIntS.l0] at h
 | k + 1 => by
  have ih0 := laws_markIntS.mono_l k
  ·
   intro y0 y1 y2
   unfold laws_markIntS.l0
   repeat' first
   | (with_reducible exact ih0 _ _ _)
   | (with_reducible exact LeO.refl _)
   | (with_reducible exact LeO.none _)
   | (with_reducible refine LeO.ite ?_ ?_)
   | (with_reducible refine LeO.bind ?_ (fun _ => ?_))
   | exact ih0 _ _ _
   | exact LeO.none _
   | refine LeO.ite ?_ ?_
   | refine LeO.bind ?_ (fun _ => ?_)
theorem laws_markIntS.mono : ∀ a0 a1 k, LeO (laws_markIntS.f k a0 a1) (laws_markIntS.f (k + 1) a0 a1) := by
 intro a0 a1 k
 have ih0 := laws_markIntS.mono_l k
 unfold laws_markIntS.f
 repeat' first
   | (with_reducible exact ih0 _ _ _)
   | (with_reducible exact LeO.refl _)
   | (with_reducible exact LeO.none _)
   | (with_reducible refine LeO.ite ?_ ?_)
   | (with_reducible refine LeO.bind ?_ (fun _ => ?_))
   | exact ih0 _ _ _
   | exact LeO.none _
   | refine LeO.ite ?_ ?_
   | refine LeO.bind ?_ (fun _ => ?_)
set_option maxHeartbeats 8000000 in
set_option maxRecDepth 100000 in
theorem laws_markIntS.calls (k : Nat) (P0_ : Nat → Prop) (u9000_ : Value) (l0 : List Int) (a1 : Int) (r1 : Int) (r2 : List Int) (w0 w : World) (hB : Below w0.heap.size w0 w) (ho0 : Kd.R (Kd.int .i64) 3 w w0.heap.size P0_ u9000_ l0) (h : laws_markIntS.f k l0 a1 = some (r1, r2)) :
  Calls Try.prog 24 #[u9000_, .int .i64 a1] w fun e w' => e = .returned (.int .i64 r1) ∧ Kd.R (Kd.int .i64) 3 w' w0.heap.size (fun k_ => (P0_ k_ ∨ w.heap.size ≤ k_)) u9000_ r2 ∧ Below w0.heap.size w0 w' ∧ Kept w w' (fun k_ => P0_ k_) := by
 have HO0 := asd (show Kd.R (Kd.int .i64) 3 w w0.heap.size (fun k_ => (P0_ k_ ∨ w.heap.size ≤ k_)) u9000_ l0 from Kd.R_mono ho0 (fun k_ hk => (.inl hk)))
 have HK := asd (Kept.refl w (fun k_ => P0_ k_))
 have HW0 := asd hB.size
 have HB := asd hB
 clear hB
 have H : (laws_markIntS.l0 k l0 a1 0) = some (r1, r2) := h
 clear h
 have H' := asd H
 clear H
 go_enter Try.func24, Try.ntmps24
 go_wp2
 go_loopg [1, 5] k (fun kq v1 v5 w' => ∃ (x0_1 : List Int) (x1_1 : Int) (x5_1 : Int), v1 = .int .i64 x1_1 ∧ v5 = .int .i64 x5_1 ∧ Aside0 (laws_markIntS.l0 kq x0_1 x1_1 x5_1 = some (r1, r2)) ∧ Aside0 (kq ≤ k) ∧ Aside0 (Kd.R (Kd.int .i64) 3 w' w0.heap.size (fun k_ => (P0_ k_ ∨ w.heap.size ≤ k_)) u9000_ x0_1) ∧ Aside0 (Kept w w' (fun k_ => P0_ k_)) ∧ Aside0 (Below w0.heap.size w0 w'))
 case atStart => exact ⟨(l0), (a1), (0), (by first | rfl | (simp; done) | (simp [*]; done)), (by first | rfl | (simp; done) | (simp [*]; done)), H', ⟨Nat.le_refl _⟩, ⟨by (with_reducible repeat (first | apply Kd.R_alloc | apply Kd.R_drewN | apply Kd.R_drew)); exact HO0.out⟩, ⟨by repeat (first | (with_reducible first | exact HK.out | apply Kept.alloc | apply Kept.drewN | apply Kept.drew) | exact HK.out)⟩, ⟨by repeat (first | (with_reducible first | exact HB.out | apply below_alloc | apply pw_below_drewN | apply below_drew1) | exact HB.out)⟩⟩
 case round =>
  clear H'
  try clear c2
  try clear p2
  try clear HO_0; try clear HK; skip
  obtain ⟨x0_1, x1_1, x5_1, rfl, rfl, HA, HK1, HO_0, HK, HB⟩ := hrel
  cases gk with
  | zero => exact absurd HA.out (by simp [laws_markIntS.l0])
  | succ k1 =>
   have H := HA.out
   clear HA
   simp only [laws_markIntS.l0] at H
   by_cases c3 : x5_1 < (x0_1.length : Int)
   ·
    rw [if_pos c3] at H
    have c3b0 : decide (x5_1 < (x0_1.length : Int)) = true := decide_eq_true c3
    clear c3
    by_cases c4 : 0 ≤ x5_1
    ·
     rw [if_pos c4] at H
     have c4b0 : decide (0 ≤ x5_1) = true := decide_eq_true c4
     clear c4
     obtain ⟨y101, hy101⟩ : ∃ y_ : List Int, y_ = (x0_1.set (x5_1 : Int).toNat x1_1) := ⟨_, rfl⟩
     replace H : (laws_markIntS.l0 k1 y101 (wrap64 (x1_1 + 1)) (wrap64 (x5_1 + 1))) = some (r1, r2) := by first | (rw [hy101]; with_reducible exact H) | (have H2_ := (Option.bind_some _ _).symm.trans H; rw [hy101]; with_reducible exact H2_) | (have H2_ := (Option.bind_some _ _).symm.trans H; with_reducible exact H2_) | with_reducible exact H | (rw [hy101]; exact H) | exact H
     have Ny101 := asd hy101
     clear hy101
     have H' := asd H
     clear H
     obtain ⟨Ao6, co6, eo6⟩ := Kd.R_slice HO_0.out
     subst eo6
     have p5 : 0 ≤ (x5_1 : Int) := of_decide_eq_true (by first | (with_reducible assumption) | assumption)
     have q5 : (x5_1 : Int) < ((x0_1.length : Int) : Int) := of_decide_eq_true (by first | (with_reducible assumption) | assumption)
     obtain ⟨go5, co5, eo5, gb5, gl5, cl5, HG5⟩ := Kd.R_form HO_0.out (by omega)
     (first | cases eo5 | (injection eo5 with ea_ en_ ec_; (first | subst ea_ | (injection ea_ with ea_; subst ea_)); subst ec_; clear en_))
     have GB5 := asd gb5
     have GG5 := asd HG5
     clear gb5 gl5 HG5
     have HMgo5 := asd (show (P0_ go5 ∨ w.heap.size ≤ go5) from (HO_0.out.1 _ rfl))
     obtain ⟨hx5_0, hf5_0⟩ := Kd.R_celln 0 HO_0.out (x5_1 : Int) p5 q5
     replace p5 := eq_true p5
     replace q5 := eq_true q5
     have HP7 := Kd.R_putg HO_0.out (x5_1 : Int) x1_1
     go_wp2_with (first | ((with_reducible refine gate_store (t := 3) (p := 15) rfl ?_); refine store_event (t := 3) (p := 15) (v := ?vo_w8) (w1 := (wr.setCell ⟨go5, (x5_1 : Int).toNat, none⟩ (.int .i64 x1_1))) ?hg ?ho ?hn ?hr ?_; (case ho => rfl); (case hg => rfl); (case hn => rfl); (case hr => first | (go_simp; done) | (go_simp; rfl)); intro w8 hw; have hg : wr.grownBy w8 (some go5) := (by rw [hw]; exact HP7.2); have hp_ : Kd.R (Kd.int .i64) 3 w8 w0.heap.size (fun k_ => (P0_ k_ ∨ w.heap.size ≤ k_)) (.slice (some ⟨go5, 0, none⟩) x0_1.length co6) y101 := (by rw [hw, Ny101.out]; exact HP7.1); clear HP7; have n0_ := asd (hp_); have n1_ := asd ((by rw [hw]; exact below_set (HB.out) GB5.out : Below w0.heap.size w0 w8)); have n2_ := asd (Kept.of_grown (S := (fun k_ => P0_ k_)) hg (by repeat (first | (with_reducible first | exact HK.out | apply Kept.alloc | apply Kept.drewN | apply Kept.drew) | exact HK.out)) (fun k_ e_ => (HO_0.out.1 k_ e_))); clear HO_0; clear HB; clear HK; have HO_0 := n0_; have HB := n1_; have HK := n2_; clear n0_ n1_ n2_; clear hg hw hp_))
     go_roundg k1
     case measure => have := HK1.out; omega
     case rel => exact ⟨(y101), (wrap64 (x1_1 + 1)), (wrap64 (x5_1 + 1)), (by first | rfl | (simp; done) | (simp [*]; done)), (by first | rfl | (simp; done) | (simp [*]; done)), H', ⟨by have := HK1.out; omega⟩, ⟨by (with_reducible repeat (first | apply Kd.R_alloc | apply Kd.R_drewN | apply Kd.R_drew)); exact HO_0.out⟩, ⟨by repeat (first | (with_reducible first | exact HK.out | apply Kept.alloc | apply Kept.drewN | apply Kept.drew) | exact HK.out)⟩, ⟨by repeat (first | (with_reducible first | exact HB.out | apply below_alloc | apply pw_below_drewN | apply below_drew1) | exact HB.out)⟩⟩
    ·
     rw [if_neg c4] at H
     exact absurd H (by simp)
   ·
    rw [if_neg c3] at H
    have c3b0 : decide (x5_1 < (x0_1.length : Int)) = false := decide_eq_false c3
    clear c3
    simp only [Option.some.injEq, Prod.mk.injEq] at H
    obtain ⟨rfl, rfl⟩ := H
    obtain ⟨Ao9, co9, eo9⟩ := Kd.R_slice HO_0.out
    subst eo9
    go_wp2
    go_ret
    exact ⟨by first | rfl | (simp [errW_none, errW_some] <;> rfl) | (simp [*, errW_none, errW_some] <;> rfl), by (with_reducible repeat (first | apply Kd.R_alloc | apply Kd.R_drewN | apply Kd.R_drew)); exact HO_0.out, by repeat (first | (with_reducible first | exact HB.out | apply below_alloc | apply pw_below_drewN | apply below_drew1) | exact HB.out), by repeat (first | (with_reducible first | exact HK.out | apply Kept.alloc | apply Kept.drewN | apply Kept.drew) | exact HK.out)⟩

-- HAND with laws.markIntS
/-- The numbers from a on. -/
def numsFrom (a : Int) (n : Nat) : List Int := (List.range n).map fun (j : Nat) => a + j
theorem numsFrom_length (a : Int) (n : Nat) : (numsFrom a n).length = n := by simp [numsFrom]
theorem numsFrom_get (a : Int) (n j : Nat) (h : j < n) : (numsFrom a n)[j]? = some (a + j) := by simp [numsFrom, h]
theorem markIntS_loop (a : Int) (n : Nat) (ha : 0 ≤ a) (hb : a + n < 9223372036854775807) : ∀ (d i : Nat) (x : List Int), n - i = d → i ≤ n → x.length = n → (∀ j, j < i → x[j]? = some (a + j)) → Ev (fun k => laws_markIntS.l0 k x (a + i) i) (a + n, numsFrom a n) := by
  intro d
  induction d with
  | zero =>
    intro i x hd hi hx hj
    obtain rfl : i = n := by omega
    refine Ev.succ (fun k => by simp only [laws_markIntS.l0]; rw [if_neg (by omega)]) (Ev.const (congrArg some ?_))
    refine congrArg (Prod.mk _) ?_
    apply List.ext_getElem?
    intro j
    rcases Nat.lt_or_ge j i with h | h
    · rw [hj j h, numsFrom_get _ _ _ h]
    · rw [List.getElem?_eq_none (by omega), List.getElem?_eq_none (by rw [numsFrom_length]; omega)]
  | succ d ih =>
    intro i x hd hi hx hj
    refine Ev.succ (fun k => by simp only [laws_markIntS.l0]; rw [if_pos (by omega), if_pos (by omega), wrap_succ (by omega) (by omega), wrap_succ (by omega) (by omega), Int.toNat_natCast]) ?_
    have := ih (i + 1) (x.set i (a + i)) (by omega) (by omega) (by simpa using hx) (fun j hji => ?_)
    · push_cast at this
      rw [show a + ((i : Int) + 1) = a + i + 1 by omega] at this
      exact this
    · rw [List.getElem?_set]
      by_cases e : i = j
      · subst e
        rw [if_pos rfl, if_pos (by omega)]
      · rw [if_neg e]
        exact hj j (by omega)
theorem markIntS_ok (l : List Int) (a : Int) (ha : 0 ≤ a) (hb : a + l.length < 9223372036854775807) : Ev (fun k => laws_markIntS.f k l a) (a + l.length, numsFrom a l.length) := by
  have := markIntS_loop a l.length ha hb l.length 0 l (by omega) (by omega) rfl (fun j h => absurd h (Nat.not_lt_zero _))
  rw [show a + ((0 : Nat) : Int) = a by omega] at this
  exact this

/-! ### laws_markSpace: function 23 -/
def laws_markSpace.f (k : Nat) (a0_0 : Int) (l0_1 : List Int) (a1 : Int) : Option (Int × List Int) := (laws_markIntS.f k l0_1 a1).bind fun bt102 => (some (bt102.1, bt102.2))
theorem laws_markSpace.mono : ∀ a0 a1 a2 k, LeO (laws_markSpace.f k a0 a1 a2) (laws_markSpace.f (k + 1) a0 a1 a2) := by
  intro a0 a1 a2 k
  unfold laws_markSpace.f
  repeat' first
      | (with_reducible exact laws_markIntS.mono _ _ _)
      | (with_reducible exact LeO.refl _)
      | (with_reducible exact LeO.none _)
      | (with_reducible refine LeO.ite ?_ ?_)
      | (with_reducible refine LeO.bind ?_ (fun _ => ?_))
      | exact laws_markIntS.mono _ _ _
      | exact LeO.none _
      | refine LeO.ite ?_ ?_
      | refine LeO.bind ?_ (fun _ => ?_)
set_option maxHeartbeats 8000000 in
set_option maxRecDepth 100000 in
theorem laws_markSpace.calls (k : Nat) (a0_0 : Int) (P0_1_ : Nat → Prop) (u9000_ : Value) (l0_1 : List Int) (a1 : Int) (r1 : Int) (r2 : List Int) (w0 w : World) (hB : Below w0.heap.size w0 w) (ho0_1 : Kd.R (Kd.int .i64) 3 w w0.heap.size P0_1_ u9000_ l0_1) (h : laws_markSpace.f k a0_0 l0_1 a1 = some (r1, r2)) :
    Calls Try.prog 23 #[.agg #[.int .i64 a0_0, u9000_], .int .i64 a1] w fun e w' => e = .returned (.int .i64 r1) ∧ Kd.R (Kd.int .i64) 3 w' w0.heap.size (fun k_ => (P0_1_ k_ ∨ w.heap.size ≤ k_)) u9000_ r2 ∧ Below w0.heap.size w0 w' ∧ Kept w w' (fun k_ => P0_1_ k_) := by
  have hu28 := Try.underlying28
  have HO0_1 := Aside0.mk (show Kd.R (Kd.int .i64) 3 w w0.heap.size (fun k_ => (P0_1_ k_ ∨ w.heap.size ≤ k_)) u9000_ l0_1 from Kd.R_mono ho0_1 (fun k_ hk => (.inl hk)))
  have HK := Aside0.mk (Kept.refl w (fun k_ => P0_1_ k_))
  have HW0 := Aside0.mk hB.size
  have HB := Aside0.mk hB
  clear hB
  have H : ((laws_markIntS.f k l0_1 a1).bind fun bt102 => (some (bt102.1, bt102.2))) = some (r1, r2) := h
  clear h
  replace H := Option.bind_eq_some_iff.mp H
  obtain ⟨⟨t102, t103⟩, A30, H⟩ := H
  replace H : (some (t102, t103)) = some (r1, r2) := H
  have A3 := Aside0.mk A30
  clear A30
  simp only [Option.some.injEq, Prod.mk.injEq] at H
  obtain ⟨rfl, rfl⟩ := H
  obtain ⟨Ao4, co4, eo4⟩ := Kd.R_slice HO0_1.out
  subst eo4
  go_enter Try.func23, Try.ntmps23
  go_wp2_with (first | ((with_reducible refine gate_dst (N := 2) rfl ?_); refine box_event ?hg (N := 2) ?hd (cs := #[.int .i64 a0_0, .slice Ao4 l0_1.length co4]) (t := 28) ?hr ?_; (case hd => rfl); (case hg => rfl); (case hr => first | (go_simp; done) | (go_simp; rfl)); intro gb101 hg w5 hbox hb; have n0_ := Aside0.mk (Kd.R_below (by (with_reducible repeat (first | apply Kd.R_alloc | apply Kd.R_drewN | apply Kd.R_drew)); exact HO0_1.out) hb); have n1_ := Aside0.mk (Kept.below (S := (fun k_ => P0_1_ k_)) (by repeat (first | (with_reducible first | exact HK.out | apply Kept.alloc | apply Kept.drewN | apply Kept.drew) | exact HK.out)) hb); have n2_ := Aside0.mk (below_step (by repeat (first | (with_reducible first | exact HB.out | apply below_alloc | apply pw_below_drewN | apply below_drew1) | exact HB.out)) hb); have n3_ := Aside0.mk (hbox); have n4_ := Aside0.mk ((by rw [hg]; exact (by first | exact HK.out.1 | exact (show Kept w _ (fun k_ => P0_1_ k_) from by repeat (first | (with_reducible first | exact HK.out | apply Kept.alloc | apply Kept.drewN | apply Kept.drew) | exact HK.out)).1) : w.heap.size ≤ gb101)); have n5_ := Aside0.mk ((by rw [hg]; exact (below_size (by repeat (first | (with_reducible first | exact HB.out | apply below_alloc | apply pw_below_drewN | apply below_drew1) | exact HB.out))) : w0.heap.size ≤ gb101)); clear HO0_1; clear HK; clear HB; have HO0_1 := n0_; have HK := n1_; have HB := n2_; have BK101 := n3_; have GW101 := n4_; have GE101 := n5_; clear n0_ n1_ n2_ n3_ n4_ n5_; clear hb hbox hg; have hcz6_0 : w5.cell? ⟨gb101, 0, none⟩ = some (.int .i64 a0_0) := (blk_cell BK101.out 0).trans rfl; have hcz6_1 : w5.cell? ⟨gb101, 1, none⟩ = some (.slice Ao4 l0_1.length co4) := (blk_cell BK101.out 1).trans rfl; have hfz6_0 := blk_frozen BK101.out 0; have hfz6_1 := blk_frozen BK101.out 1) | ((with_reducible refine gate_callee (f := 24) rfl ?_); refine goesL_ (some 8) rfl rfl Try.func24 (by kernel_rfl) rfl #[.slice Ao4 l0_1.length co4, .int .i64 a1] rfl (by (try simp only [List.map_toArray, List.map_cons, List.map_nil]); first | done | rfl | (simp only [List.length_drop, List.length_take]; rfl)) ?_; (with_reducible refine (laws_markIntS.calls k (fun k_ => some k_ = (.slice Ao4 l0_1.length co4 : Value).ownBlock) (.slice Ao4 l0_1.length co4) l0_1 a1 t102 t103 w0 _ ?side1 ?side2 A3.out).mono ?_); (case side1 => repeat (first | (with_reducible first | exact HB.out | apply below_alloc | apply pw_below_drewN | apply below_drew1 | refine below_set ?_ GE101.out) | exact HB.out)); (case side2 => exact Kd.R_tight rfl HO0_1.out); rintro e w7 ⟨rfl, hy0, hb, hkp⟩; refine ⟨_, rfl, ?_⟩; have n0_ := Aside0.mk (Kd.R_reok rfl hy0 (fun k_ e_ => HO0_1.out.1 k_ e_)); have n1_ := Aside0.mk (blk_kept (by (with_reducible repeat (first | refine blk_drewN ?_ _ | refine blk_drew ?_ | refine blk_alloc ?_ _)); exact BK101.out) hkp (fun hs_ => (fun e_ => (Kd.R_ne HO0_1.out BK101.out (by decide)) e_) hs_)); have n2_ := Aside0.mk (Kept.then_ (S := (fun k_ => P0_1_ k_)) (by repeat (first | (with_reducible first | exact HK.out | apply Kept.alloc | apply Kept.drewN | apply Kept.drew | refine Kept.setCell ?_ (.inr GW101.out) _) | exact HK.out)) hkp (fun k_ hs_ => (fun e_ => (HO0_1.out.1 k_ e_.symm)) hs_)); have n3_ := Aside0.mk (hb); clear HO0_1; clear BK101; clear HK; clear HB; have HO0_1 := n0_; have BK101 := n1_; have HK := n2_; have HB := n3_; clear n0_ n1_ n2_ n3_; (try clear hb); (try clear hkp); (try clear hy0)))
  go_ret
  exact ⟨by first | rfl | (simp [errW_none, errW_some] <;> rfl) | (simp [*, errW_none, errW_some] <;> rfl), by (with_reducible repeat (first | apply Kd.R_alloc | apply Kd.R_drewN | apply Kd.R_drew)); exact HO0_1.out, by repeat (first | (with_reducible first | exact HB.out | apply below_alloc | apply pw_below_drewN | apply below_drew1 | refine below_set ?_ GE101.out) | exact HB.out), by repeat (first | (with_reducible first | exact HK.out | apply Kept.alloc | apply Kept.drewN | apply Kept.drew | refine Kept.setCell ?_ (.inr GW101.out) _) | exact HK.out)⟩

-- HAND with laws.markSpace
theorem markSpace_ok (n : Int) (l : List Int) (a : Int) (ha : 0 ≤ a) (hb : a + l.length < 9223372036854775807) : Ev (fun k => laws_markSpace.f k n l a) (a + l.length, numsFrom a l.length) := by
  unfold laws_markSpace.f
  exact Ev.bind (markIntS_ok l a ha hb) (Ev.const rfl)

/-! ### laws_heldIntS: function 25 -/
def laws_heldIntS.l0 : Nat → List Int → Int → Int → Option (Int)
  | 0, _, _, _ => none
  | k + 1, x0, x1, x5 => if x5 < (x0.length : Int) then (if 0 ≤ x5 then (if (rd x0 x5) = x1 then (laws_heldIntS.l0 k x0 (wrap64 (x1 + 1)) (wrap64 (x5 + 1))) else (some (-1))) else (none)) else (some x1)
def laws_heldIntS.f (k : Nat) (l0 : List Int) (a1 : Int) : Option (Int) := laws_heldIntS.l0 k l0 a1 0
theorem laws_heldIntS.mono_l : ∀ k, (∀ y0 y1 y2, LeO (laws_heldIntS.l0 k y0 y1 y2) (laws_heldIntS.l0 (k + 1) y0 y1 y2))
  | 0 => fun _ _ _ r h => by simp [laws_heldIntS.l0] at h
  | k + 1 => by
    have ih0 := laws_heldIntS.mono_l k
    · intro y0 y1 y2
      unfold laws_heldIntS.l0
      repeat' first
      | (with_reducible exact ih0 _ _ _)
      | (with_reducible exact LeO.refl _)
      | (with_reducible exact LeO.none _)
      | (with_reducible refine LeO.ite ?_ ?_)
      | (with_reducible refine LeO.bind ?_ (fun _ => ?_))
      | exact ih0 _ _ _
      | exact LeO.none _
      | refine LeO.ite ?_ ?_
      | refine LeO.bind ?_ (fun _ => ?_)
theorem laws_heldIntS.mono : ∀ a0 a1 k, LeO (laws_heldIntS.f k a0 a1) (laws_heldIntS.f (k + 1) a0 a1) := by
  intro a0 a1 k
  have ih0 := laws_heldIntS.mono_l k
  unfold laws_heldIntS.f
  repeat' first
      | (with_reducible exact ih0 _ _ _)
      | (with_reducible exact LeO.refl _)
      | (with_reducible exact LeO.none _)
      | (with_reducible refine LeO.ite ?_ ?_)
      | (with_reducible refine LeO.bind ?_ (fun _ => ?_))
      | exact ih0 _ _ _
      | exact LeO.none _
      | refine LeO.ite ?_ ?_
      | refine LeO.bind ?_ (fun _ => ?_)
set_option maxHeartbeats 8000000 in
set_option maxRecDepth 100000 in
theorem laws_heldIntS.calls (k : Nat) (A0 : Option Addr) (c0 : Nat) (l0 : List Int) (a1 : Int) (r : Int) (w : World) (hr0 : Kd.C (Kd.int .i64) w A0 l0.length l0) (hc0 : l0.length ≤ c0) (h : laws_heldIntS.f k l0 a1 = some r) :
    Calls Try.prog 25 #[.slice A0 l0.length c0, .int .i64 a1] w fun e w' => e = .returned (.int .i64 r) ∧ Drawn0 w w' := by
  have HR0 := Aside0.mk hr0
  have HC0 := Aside0.mk hc0
  clear hr0 hc0
  have H : (laws_heldIntS.l0 k l0 a1 0) = some r := h
  clear h
  have H' := Aside0.mk H
  clear H
  go_enter Try.func25, Try.ntmps25
  go_wp2
  go_loopg [1, 5] k (fun kq v1 v5 w' => ∃ (x1_1 : Int) (x5_1 : Int), v1 = .int .i64 x1_1 ∧ v5 = .int .i64 x5_1 ∧ Aside0 (laws_heldIntS.l0 kq l0 x1_1 x5_1 = some r) ∧ Aside0 (kq ≤ k) ∧ Drawn0 w w')
  case atStart => exact ⟨(a1), (0), (by first | rfl | (simp; done) | (simp [*]; done)), (by first | rfl | (simp; done) | (simp [*]; done)), H', ⟨Nat.le_refl _⟩, by repeat (first | exact Drawn0.refl _ | apply Drawn0.step)⟩
  case round =>
    clear H'
    try clear c2
    try clear p2
    skip
    obtain ⟨x1_1, x5_1, rfl, rfl, HA, HK1, ⟨m1, rfl⟩⟩ := hrel
    cases gk with
    | zero => exact absurd HA.out (by simp [laws_heldIntS.l0])
    | succ k1 =>
      have H := HA.out
      clear HA
      simp only [laws_heldIntS.l0] at H
      by_cases c3 : x5_1 < (l0.length : Int)
      · rw [if_pos c3] at H
        have c3b0 : decide (x5_1 < (l0.length : Int)) = true := decide_eq_true c3
        clear c3
        by_cases c4 : 0 ≤ x5_1
        · rw [if_pos c4] at H
          have c4b0 : decide (0 ≤ x5_1) = true := decide_eq_true c4
          clear c4
          by_cases c5 : (rd l0 x5_1) = x1_1
          · rw [if_pos c5] at H
            have c5b0 : ((rd l0 x5_1) == x1_1) = true := beq_iff_eq.mpr c5
            have c5b1 : ((rd l0 x5_1) != x1_1) = false := bne_eq_false_iff_eq.mpr c5
            clear c5
            have H' := Aside0.mk H
            clear H
            have p101 : 0 ≤ (x5_1 : Int) := of_decide_eq_true (by first | (with_reducible assumption) | assumption)
            have q101 : x5_1 < (l0.length : Int) := of_decide_eq_true (by first | (with_reducible assumption) | assumption)
            obtain ⟨ad101, e101, hx101_0⟩ := Kd.at_int HR0.out x5_1 p101 q101
            cases e101
            replace p101 := eq_true p101
            replace q101 := eq_true q101
            go_wp2
            go_roundg k1
            case measure => have := HK1.out; omega
            case rel => exact ⟨(wrap64 (x1_1 + 1)), (wrap64 (x5_1 + 1)), (by first | rfl | (simp; done) | (simp [*]; done)), (by first | rfl | (simp; done) | (simp [*]; done)), H', ⟨by have := HK1.out; omega⟩, by repeat (first | exact Drawn0.refl _ | apply Drawn0.step)⟩
          · rw [if_neg c5] at H
            have c5b0 : ((rd l0 x5_1) == x1_1) = false := beq_eq_false_iff_ne.mpr c5
            have c5b1 : ((rd l0 x5_1) != x1_1) = true := bne_iff_ne.mpr c5
            obtain rfl := Option.some.inj H
            have p101 : 0 ≤ (x5_1 : Int) := of_decide_eq_true (by first | (with_reducible assumption) | assumption)
            have q101 : x5_1 < (l0.length : Int) := of_decide_eq_true (by first | (with_reducible assumption) | assumption)
            obtain ⟨ad101, e101, hx101_0⟩ := Kd.at_int HR0.out x5_1 p101 q101
            cases e101
            replace p101 := eq_true p101
            replace q101 := eq_true q101
            go_wp2
            go_ret
            exact ⟨by first | rfl | (simp; done) | (simp [*]; done), by repeat (first | exact Drawn0.refl _ | apply Drawn0.step)⟩
        · rw [if_neg c4] at H
          exact absurd H (by simp)
      · rw [if_neg c3] at H
        have c3b0 : decide (x5_1 < (l0.length : Int)) = false := decide_eq_false c3
        clear c3
        obtain rfl := Option.some.inj H
        go_wp2
        go_ret
        exact ⟨by first | rfl | (simp; done) | (simp [*]; done), by repeat (first | exact Drawn0.refl _ | apply Drawn0.step)⟩

-- HAND with laws.heldIntS
theorem heldIntS_loop (a : Int) (n : Nat) (ha : 0 ≤ a) (hb : a + n < 9223372036854775807) : ∀ (d i : Nat), n - i = d → i ≤ n → Ev (fun k => laws_heldIntS.l0 k (numsFrom a n) (a + i) i) (a + n) := by
  intro d
  induction d with
  | zero =>
    intro i hd hi
    obtain rfl : i = n := by omega
    exact Ev.succ (fun k => by simp only [laws_heldIntS.l0]; rw [if_neg (by rw [numsFrom_length]; omega)]) (Ev.const rfl)
  | succ d ih =>
    intro i hd hi
    have hi' : i < n := by omega
    have hr : rd (numsFrom a n) (i : Int) = a + i := by
      have := numsFrom_get a n i hi'
      simp [rd, List.getD, this]
    refine Ev.succ (fun k => by simp only [laws_heldIntS.l0]; rw [if_pos (by rw [numsFrom_length]; omega), if_pos (by omega), if_pos hr, wrap_succ (by omega) (by omega), wrap_succ (by omega) (by omega)]) ?_
    have := ih (i + 1) (by omega) (by omega)
    push_cast at this
    rw [show a + ((i : Int) + 1) = a + i + 1 by omega] at this
    exact this
theorem heldIntS_ok (a : Int) (n : Nat) (ha : 0 ≤ a) (hb : a + n < 9223372036854775807) : Ev (fun k => laws_heldIntS.f k (numsFrom a n) a) (a + n) := by
  have := heldIntS_loop a n ha hb n 0 (by omega) (by omega)
  rw [show a + ((0 : Nat) : Int) = a by omega] at this
  exact this

end Go.Proofs.Ytkepeflplmkcmaa.Q
