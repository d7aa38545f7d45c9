/- Contracts of functions that the laws reach: a call returns what the plain Lean function of the same name tells. Conditions: those of each theorem. Made by gen.py, a program of this session, over the print of the translation. -/
import Derived.Test.YtkepeflplmkcmaaPx0
import Derived.Test.YtkepeflplmkcmaaPx1
import Derived.Test.YtkepeflplmkcmaaPx4
import Derived.Test.YtkepeflplmkcmaaPx5
import Derived.Shelf.Abstract
import Derived.Lib.SliceRun
namespace Go.Proofs.Ytkepeflplmkcmaa.Q
open Go.RowKit Go.Proofs.YtkepeflplmkcmaaW.PrintWords Go.Proofs.YtkepeflplmkcmaaW.PrintLast Go.Proofs.YtkepeflplmkcmaaW.PrintMore
attribute [local go_sem] max2_int min2_int max_two min_two max_three min_three max_four min_four   -- for this text's walks alone
set_option linter.unusedVariables false
set_option linter.unusedSimpArgs false

/-! ### spec_BestCostPlain: function 32 -/
def spec_BestCostPlain.f (k : Nat) (a0_0 : Int) (l0_1 : List Int) (l1 : List (S83)) : Option (Int × Bool) := (spec_grGiven.f k a0_0 l0_1 l1).bind fun t102 => (if t102 = true then ((spec_grTable.f k a0_0 l0_1 l1 10000).bind fun t103 => (if 0 < (t103.length : Int) then (some ((rd_T79 t103 0).f0, true)) else (none))) else (some (0, false)))
theorem spec_BestCostPlain.mono : ∀ a0 a1 a2 k, LeO (spec_BestCostPlain.f k a0 a1 a2) (spec_BestCostPlain.f (k + 1) a0 a1 a2) := by
 intro a0 a1 a2 k
 unfold spec_BestCostPlain.f
 repeat' first
   | (with_reducible exact spec_grGiven.mono _ _ _ _)
   | (with_reducible exact spec_grTable.mono _ _ _ _ _)
   | (with_reducible exact LeO.refl _)
   | (with_reducible exact LeO.none _)
   | (with_reducible refine LeO.ite ?_ ?_)
   | (with_reducible refine LeO.bind ?_ (fun _ => ?_))
   | exact spec_grGiven.mono _ _ _ _
   | exact spec_grTable.mono _ _ _ _ _
   | exact LeO.none _
   | refine LeO.ite ?_ ?_
   | refine LeO.bind ?_ (fun _ => ?_)
set_option maxHeartbeats 8000000 in
set_option maxRecDepth 100000 in
theorem spec_BestCostPlain.calls (k : Nat) (a0_0 : Int) (A0_1 : Option Addr) (c0_1 : Nat) (l0_1 : List Int) (A1 : Option Addr) (c1 : Nat) (l1 : List (S83)) (r1 : Int) (r2 : Bool) (w : World) (hr0_1 : Kd.C (Kd.int .i64) w A0_1 l0_1.length l0_1) (hc0_1 : l0_1.length ≤ c0_1) (hr1 : Kd.C k83 w A1 l1.length l1) (hc1 : l1.length ≤ c1) (h : spec_BestCostPlain.f k a0_0 l0_1 l1 = some (r1, r2)) :
  Calls Try.prog 32 #[.agg #[.int .i64 a0_0, .slice A0_1 l0_1.length c0_1], .slice A1 l1.length c1] w fun e w' => e = .returned (.tuple #[.int .i64 r1, .bool r2]) ∧ Below w.heap.size w w' := by
 have hu28 := Try.underlying28
 have HR0_1 := asd hr0_1
 have HC0_1 := asd hc0_1
 clear hr0_1 hc0_1
 have HR1 := asd hr1
 have HC1 := asd hc1
 clear hr1 hc1
 have HB := asd (Below.refl w.heap.size w)
 have H : ((spec_grGiven.f k a0_0 l0_1 l1).bind fun t102 => (if t102 = true then ((spec_grTable.f k a0_0 l0_1 l1 10000).bind fun t103 => (if 0 < (t103.length : Int) then (some ((rd_T79 t103 0).f0, true)) else (none))) else (some (0, false)))) = some (r1, r2) := h
 clear h
 replace H := Option.bind_eq_some_iff.mp H
 obtain ⟨t102, A30, H⟩ := H
 replace H : (if t102 = true then ((spec_grTable.f k a0_0 l0_1 l1 10000).bind fun t103 => (if 0 < (t103.length : Int) then (some ((rd_T79 t103 0).f0, true)) else (none))) else (some (0, false))) = some (r1, r2) := H
 have A3 := asd A30
 clear A30
 by_cases c4 : t102 = true
 ·
  subst c4
  have H1 : ((spec_grTable.f k a0_0 l0_1 l1 10000).bind fun t103 => (if 0 < (t103.length : Int) then (some ((rd_T79 t103 0).f0, true)) else (none))) = some (r1, r2) := by rw [if_pos rfl] at H; exact H
  clear H
  have H := H1
  clear H1
  replace H := Option.bind_eq_some_iff.mp H
  obtain ⟨t103, A50, H⟩ := H
  replace H : (if 0 < (t103.length : Int) then (some ((rd_T79 t103 0).f0, true)) else (none)) = some (r1, r2) := H
  have A5 := asd A50
  clear A50
  by_cases c6 : 0 < (t103.length : Int)
  ·
   rw [if_pos c6] at H
   have c6b0 : decide (0 < (t103.length : Int)) = true := decide_eq_true c6
   have c6b1 : decide (0 < t103.length) = true := decide_eq_true (by omega)
   clear c6
   simp only [Option.some.injEq, Prod.mk.injEq] at H
   obtain ⟨rfl, rfl⟩ := H
   go_enter Try.func32, Try.ntmps32
   go_wp2_with (first | ((with_reducible refine gate_dst (N := 2) rfl ?_); refine box_event ?hg (N := 2) ?hd (cs := #[.int .i64 a0_0, .slice A0_1 l0_1.length c0_1]) (t := 28) ?hr ?_; (case hd => rfl); (case hg => rfl); (case hr => first | (go_simp; done) | (go_simp; rfl)); intro gb101 hg w7 hbox hb; have n0_ := asd (below_step (by repeat (first | (with_reducible first | exact HB.out | apply below_alloc | apply pw_below_drewN | apply below_drew1) | exact HB.out)) hb); have n1_ := asd (hbox); have n2_ := asd ((by rw [hg]; exact (below_size (by repeat (first | (with_reducible first | exact HB.out | apply below_alloc | apply pw_below_drewN | apply below_drew1) | exact HB.out))) : w.heap.size ≤ gb101)); have n3_ := asd ((by rw [hg]; exact (below_size (by repeat (first | (with_reducible first | exact HB.out | apply below_alloc | apply pw_below_drewN | apply below_drew1) | exact HB.out))) : w.heap.size ≤ gb101)); clear HB; have HB := n0_; have BK101 := n1_; have GW101 := n2_; have GE101 := n3_; clear n0_ n1_ n2_ n3_; clear hb hbox hg; have hcz8_0 : w7.cell? ⟨gb101, 0, none⟩ = some (.int .i64 a0_0) := (blk_cell BK101.out 0).trans rfl; have hcz8_1 : w7.cell? ⟨gb101, 1, none⟩ = some (.slice A0_1 l0_1.length c0_1) := (blk_cell BK101.out 1).trans rfl; have hfz8_0 := blk_frozen BK101.out 0; have hfz8_1 := blk_frozen BK101.out 1) | ((with_reducible refine gate_callee (f := 68) rfl ?_); refine goesL_ (some 8) rfl rfl Try.func68 (by kernel_rfl) rfl #[.agg #[.int .i64 a0_0, .slice A0_1 l0_1.length c0_1], .slice A1 l1.length c1] rfl (by (try simp only [List.map_toArray, List.map_cons, List.map_nil]); first | done | rfl | (simp only [List.length_drop, List.length_take]; rfl)) ?_; (with_reducible refine (spec_grGiven.calls k a0_0 _ _ l0_1 _ _ l1 true _ ?side1 ?side2 ?side3 ?side4 A3.out).mono ?_); (case side1 => repeat (first | exact (Kd.C_below HR0_1.out HB.out) | (with_reducible refine Kd.C_alloc ?_ _) | (with_reducible refine Kd.C_drewN ?_ _) | (with_reducible refine Kd.C_drew ?_))); (case side2 => exact HC0_1.out); (case side3 => repeat (first | exact (Kd.C_below HR1.out HB.out) | (with_reducible refine Kd.C_alloc ?_ _) | (with_reducible refine Kd.C_drewN ?_ _) | (with_reducible refine Kd.C_drew ?_))); (case side4 => exact HC1.out); rintro e w9 ⟨rfl, hb⟩; refine ⟨_, rfl, ?_⟩; have n0_ := asd (blk_below (upB BK101.out) hb); have n1_ := asd (below_step (by repeat (first | (with_reducible first | exact HB.out | apply below_alloc | apply pw_below_drewN | apply below_drew1 | refine below_set ?_ GE101.out) | exact HB.out)) hb); clear BK101; clear HB; have BK101 := n0_; have HB := n1_; clear n0_ n1_; (try clear hb); (try clear hb2); (try clear hk); (try clear hi); have hcz10_0 : w9.cell? ⟨gb101, 0, none⟩ = some (.int .i64 a0_0) := (blk_cell BK101.out 0).trans rfl; have hcz10_1 : w9.cell? ⟨gb101, 1, none⟩ = some (.slice A0_1 l0_1.length c0_1) := (blk_cell BK101.out 1).trans rfl; have hfz10_0 := blk_frozen BK101.out 0; have hfz10_1 := blk_frozen BK101.out 1) | ((with_reducible refine gate_callee (f := 69) rfl ?_); refine goesL_ (some 12) rfl rfl Try.func69 (by kernel_rfl) rfl #[.agg #[.int .i64 a0_0, .slice A0_1 l0_1.length c0_1], .slice A1 l1.length c1, .int .i64 10000] rfl (by (try simp only [List.map_toArray, List.map_cons, List.map_nil]); first | done | rfl | (simp only [List.length_drop, List.length_take]; rfl)) ?_; (with_reducible refine (spec_grTable.calls k a0_0 _ _ l0_1 _ _ l1 10000 t103 _ ?side1 ?side2 ?side3 ?side4 A5.out).mono ?_); (case side1 => repeat (first | exact (Kd.C_below HR0_1.out HB.out) | (with_reducible refine Kd.C_alloc ?_ _) | (with_reducible refine Kd.C_drewN ?_ _) | (with_reducible refine Kd.C_drew ?_))); (case side2 => exact HC0_1.out); (case side3 => repeat (first | exact (Kd.C_below HR1.out HB.out) | (with_reducible refine Kd.C_alloc ?_ _) | (with_reducible refine Kd.C_drewN ?_ _) | (with_reducible refine Kd.C_drew ?_))); (case side4 => exact HC1.out); rintro e w11 ⟨v104, rfl, ho0, hb⟩; refine ⟨_, rfl, ?_⟩; have n0_ := asd (Kd.R_lower ho0 (below_size (by repeat (first | (with_reducible first | exact HB.out | apply below_alloc | apply pw_below_drewN | apply below_drew1 | refine below_set ?_ GE101.out) | exact HB.out)))); have n1_ := asd (blk_below (upB BK101.out) hb); have n2_ := asd (below_step (by repeat (first | (with_reducible first | exact HB.out | apply below_alloc | apply pw_below_drewN | apply below_drew1 | refine below_set ?_ GE101.out) | exact HB.out)) hb); clear BK101; clear HB; have HO105 := n0_; have BK101 := n1_; have HB := n2_; clear n0_ n1_ n2_; (try clear hb); (try clear hb2); (try clear hk); (try clear hi); (try clear ho0); obtain ⟨Ao12, co12, eo12⟩ := Kd.R_slice HO105.out; subst eo12; have p106 : 0 ≤ (0 : Int) := (by omega); have q106 : 0 < (t103.length : Int) := of_decide_eq_true (by first | (with_reducible assumption) | assumption); obtain ⟨ad106, e106, hx106_0, hx106_1⟩ := at_T79 (Kd.R_reads' HO105.out).2.2 0 p106 q106; cases e106; have qi106 : (0 < t103.length) = True := eq_true (by omega); (try rw [show ((0 : Int)).toNat = 0 from rfl] at hx106_0); (try rw [show 0 * 2 = 0 from rfl] at hx106_0); (try rw [Addr.add_zero'] at hx106_0); (try rw [show ((0 : Int)).toNat = 0 from rfl] at hx106_1); (try rw [show 0 * 2 = 0 from rfl] at hx106_1); (try rw [Addr.add_zero'] at hx106_1); replace p106 := eq_true p106; replace q106 := eq_true q106))
   go_ret2
   exact ⟨by first | rfl | (simp [errW_none, errW_some] <;> rfl) | (simp [*, errW_none, errW_some] <;> rfl), by repeat (first | (with_reducible first | exact HB.out | apply below_alloc | apply pw_below_drewN | apply below_drew1 | refine below_set ?_ GE101.out) | exact HB.out)⟩
  ·
   rw [if_neg c6] at H
   exact absurd H (by simp)
 ·
  replace c4 := Bool.eq_false_iff.mpr c4
  subst c4
  have H1 : (some (0, false)) = some (r1, r2) := by rw [if_neg (show ¬ (false = true) by decide)] at H; exact H
  clear H
  have H := H1
  clear H1
  simp only [Option.some.injEq, Prod.mk.injEq] at H
  obtain ⟨rfl, rfl⟩ := H
  go_enter Try.func32, Try.ntmps32
  go_wp2_with (first | ((with_reducible refine gate_dst (N := 2) rfl ?_); refine box_event ?hg (N := 2) ?hd (cs := #[.int .i64 a0_0, .slice A0_1 l0_1.length c0_1]) (t := 28) ?hr ?_; (case hd => rfl); (case hg => rfl); (case hr => first | (go_simp; done) | (go_simp; rfl)); intro gb101 hg w13 hbox hb; have n0_ := asd (below_step (by repeat (first | (with_reducible first | exact HB.out | apply below_alloc | apply pw_below_drewN | apply below_drew1) | exact HB.out)) hb); have n1_ := asd (hbox); have n2_ := asd ((by rw [hg]; exact (below_size (by repeat (first | (with_reducible first | exact HB.out | apply below_alloc | apply pw_below_drewN | apply below_drew1) | exact HB.out))) : w.heap.size ≤ gb101)); have n3_ := asd ((by rw [hg]; exact (below_size (by repeat (first | (with_reducible first | exact HB.out | apply below_alloc | apply pw_below_drewN | apply below_drew1) | exact HB.out))) : w.heap.size ≤ gb101)); clear HB; have HB := n0_; have BK101 := n1_; have GW101 := n2_; have GE101 := n3_; clear n0_ n1_ n2_ n3_; clear hb hbox hg; have hcz14_0 : w13.cell? ⟨gb101, 0, none⟩ = some (.int .i64 a0_0) := (blk_cell BK101.out 0).trans rfl; have hcz14_1 : w13.cell? ⟨gb101, 1, none⟩ = some (.slice A0_1 l0_1.length c0_1) := (blk_cell BK101.out 1).trans rfl; have hfz14_0 := blk_frozen BK101.out 0; have hfz14_1 := blk_frozen BK101.out 1) | ((with_reducible refine gate_callee (f := 68) rfl ?_); refine goesL_ (some 8) rfl rfl Try.func68 (by kernel_rfl) rfl #[.agg #[.int .i64 a0_0, .slice A0_1 l0_1.length c0_1], .slice A1 l1.length c1] rfl (by (try simp only [List.map_toArray, List.map_cons, List.map_nil]); first | done | rfl | (simp only [List.length_drop, List.length_take]; rfl)) ?_; (with_reducible refine (spec_grGiven.calls k a0_0 _ _ l0_1 _ _ l1 false _ ?side1 ?side2 ?side3 ?side4 A3.out).mono ?_); (case side1 => repeat (first | exact (Kd.C_below HR0_1.out HB.out) | (with_reducible refine Kd.C_alloc ?_ _) | (with_reducible refine Kd.C_drewN ?_ _) | (with_reducible refine Kd.C_drew ?_))); (case side2 => exact HC0_1.out); (case side3 => repeat (first | exact (Kd.C_below HR1.out HB.out) | (with_reducible refine Kd.C_alloc ?_ _) | (with_reducible refine Kd.C_drewN ?_ _) | (with_reducible refine Kd.C_drew ?_))); (case side4 => exact HC1.out); rintro e w15 ⟨rfl, hb⟩; refine ⟨_, rfl, ?_⟩; have n0_ := asd (blk_below (upB BK101.out) hb); have n1_ := asd (below_step (by repeat (first | (with_reducible first | exact HB.out | apply below_alloc | apply pw_below_drewN | apply below_drew1 | refine below_set ?_ GE101.out) | exact HB.out)) hb); clear BK101; clear HB; have BK101 := n0_; have HB := n1_; clear n0_ n1_; (try clear hb); (try clear hb2); (try clear hk); (try clear hi)))
  go_ret2
  exact ⟨by first | rfl | (simp [errW_none, errW_some] <;> rfl) | (simp [*, errW_none, errW_some] <;> rfl), by repeat (first | (with_reducible first | exact HB.out | apply below_alloc | apply pw_below_drewN | apply below_drew1 | refine below_set ?_ GE101.out) | exact HB.out)⟩

/-! ### laws_toTask: function 70 -/
def laws_toTask.f (a0_0 : Int) (a0_1 : Int) (a0_2 : Int) : Option (Int × Int × Int) := some (a0_0, a0_1, a0_2)
set_option maxHeartbeats 8000000 in
set_option maxRecDepth 100000 in
theorem laws_toTask.calls (a0_0 : Int) (a0_1 : Int) (a0_2 : Int) (r1 : Int) (r2 : Int) (r3 : Int) (w : World) (h : laws_toTask.f a0_0 a0_1 a0_2 = some (r1, r2, r3)) :
  Calls Try.prog 70 #[.agg #[.int .i64 a0_0, .int .i64 a0_1, .int .i64 a0_2]] w fun e w' => e = .returned (.agg #[.int .i64 r1, .int .i64 r2, .int .i64 r3]) ∧ Below w.heap.size w w' := by
 have hu85 := Try.underlying85
 have hu83 := Try.underlying83
 have HB := asd (Below.refl w.heap.size w)
 have H : (some (a0_0, a0_1, a0_2)) = some (r1, r2, r3) := h
 clear h
 simp only [Option.some.injEq, Prod.mk.injEq] at H
 obtain ⟨rfl, rfl, rfl⟩ := H
 go_enter Try.func70, Try.ntmps70
 go_wp2_with (first | ((with_reducible refine gate_dst (N := 1) rfl ?_); refine box_event ?hg (N := 1) ?hd (cs := #[.int .i64 a0_0, .int .i64 a0_1, .int .i64 a0_2]) (t := 85) ?hr ?_; (case hd => rfl); (case hg => rfl); (case hr => first | (go_simp; done) | (go_simp; rfl)); intro gb101 hg w2 hbox hb; have n0_ := asd (below_step (by repeat (first | (with_reducible first | exact HB.out | apply below_alloc | apply pw_below_drewN | apply below_drew1) | exact HB.out)) hb); have n1_ := asd (hbox); have n2_ := asd ((by rw [hg]; exact (below_size (by repeat (first | (with_reducible first | exact HB.out | apply below_alloc | apply pw_below_drewN | apply below_drew1) | exact HB.out))) : w.heap.size ≤ gb101)); have n3_ := asd ((by rw [hg]; exact (below_size (by repeat (first | (with_reducible first | exact HB.out | apply below_alloc | apply pw_below_drewN | apply below_drew1) | exact HB.out))) : w.heap.size ≤ gb101)); clear HB; have HB := n0_; have BK101 := n1_; have GW101 := n2_; have GE101 := n3_; clear n0_ n1_ n2_ n3_; clear hb hbox hg) | ((with_reducible refine gate_dst (N := 2) rfl ?_); refine box_event ?hg (N := 2) ?hd (cs := #[.int .i64 0, .int .i64 0, .int .i64 0]) (t := 83) ?hr ?_; (case hd => rfl); (case hg => rfl); (case hr => first | (go_simp; done) | (go_simp; rfl)); intro gb102 hg w3 hbox hb; have n0_ := asd (blk_below (upB BK101.out) hb); have n1_ := asd (below_step (by repeat (first | (with_reducible first | exact HB.out | apply below_alloc | apply pw_below_drewN | apply below_drew1 | refine below_set ?_ GE101.out) | exact HB.out)) hb); have n2_ := asd (hbox); have n3_ := asd ((by rw [hg]; exact (below_size (by repeat (first | (with_reducible first | exact HB.out | apply below_alloc | apply pw_below_drewN | apply below_drew1 | refine below_set ?_ GE101.out) | exact HB.out))) : w.heap.size ≤ gb102)); have n4_ := asd ((by rw [hg]; exact (below_size (by repeat (first | (with_reducible first | exact HB.out | apply below_alloc | apply pw_below_drewN | apply below_drew1 | refine below_set ?_ GE101.out) | exact HB.out))) : w.heap.size ≤ gb102)); have n5_ := asd ((by rw [hg]; exact Nat.ne_of_lt (blk_lt (upB BK101.out)) : gb101 ≠ gb102)); have n6_ := asd ((by rw [hg]; exact Nat.ne_of_gt (blk_lt (upB BK101.out)) : gb102 ≠ gb101)); clear BK101; clear HB; have BK101 := n0_; have HB := n1_; have BK102 := n2_; have GW102 := n3_; have GE102 := n4_; have NB101_102 := n5_; have NB102_101 := n6_; clear n0_ n1_ n2_ n3_ n4_ n5_ n6_; clear hb hbox hg) | ((with_reducible refine gate_dst (N := 3) rfl ?_); refine box_event ?hg (N := 3) ?hd (cs := #[.int .i64 0, .int .i64 0, .int .i64 0]) (t := 83) ?hr ?_; (case hd => rfl); (case hg => rfl); (case hr => first | (go_simp; done) | (go_simp; rfl)); intro gb103 hg w4 hbox hb; have n0_ := asd (blk_below (upB BK101.out) hb); have n1_ := asd (blk_below (upB BK102.out) hb); have n2_ := asd (below_step (by repeat (first | (with_reducible first | exact HB.out | apply below_alloc | apply pw_below_drewN | apply below_drew1 | refine below_set ?_ GE101.out | refine below_set ?_ GE102.out) | exact HB.out)) hb); have n3_ := asd (hbox); have n4_ := asd ((by rw [hg]; exact (below_size (by repeat (first | (with_reducible first | exact HB.out | apply below_alloc | apply pw_below_drewN | apply below_drew1 | refine below_set ?_ GE101.out | refine below_set ?_ GE102.out) | exact HB.out))) : w.heap.size ≤ gb103)); have n5_ := asd ((by rw [hg]; exact (below_size (by repeat (first | (with_reducible first | exact HB.out | apply below_alloc | apply pw_below_drewN | apply below_drew1 | refine below_set ?_ GE101.out | refine below_set ?_ GE102.out) | exact HB.out))) : w.heap.size ≤ gb103)); have n6_ := asd ((by rw [hg]; exact Nat.ne_of_lt (blk_lt (upB BK101.out)) : gb101 ≠ gb103)); have n7_ := asd ((by rw [hg]; exact Nat.ne_of_gt (blk_lt (upB BK101.out)) : gb103 ≠ gb101)); have n8_ := asd ((by rw [hg]; exact Nat.ne_of_lt (blk_lt (upB BK102.out)) : gb102 ≠ gb103)); have n9_ := asd ((by rw [hg]; exact Nat.ne_of_gt (blk_lt (upB BK102.out)) : gb103 ≠ gb102)); clear BK101; clear BK102; clear HB; have BK101 := n0_; have BK102 := n1_; have HB := n2_; have BK103 := n3_; have GW103 := n4_; have GE103 := n5_; have NB101_103 := n6_; have NB103_101 := n7_; have NB102_103 := n8_; have NB103_102 := n9_; clear n0_ n1_ n2_ n3_ n4_ n5_ n6_ n7_ n8_ n9_; clear hb hbox hg; have hnb5 := NB101_102.out; have hnc5 := NB102_101.out; have hnb6 := NB101_103.out; have hnc6 := NB103_101.out; have hcz7_0 : w4.cell? ⟨gb101, 0, none⟩ = some (.int .i64 a0_0) := (blk_cell BK101.out 0).trans rfl; have hcz7_1 : w4.cell? ⟨gb101, 1, none⟩ = some (.int .i64 a0_1) := (blk_cell BK101.out 1).trans rfl; have hcz7_2 : w4.cell? ⟨gb101, 2, none⟩ = some (.int .i64 a0_2) := (blk_cell BK101.out 2).trans rfl; have hfz7_0 := blk_frozen BK101.out 0; have hfz7_1 := blk_frozen BK101.out 1; have hfz7_2 := blk_frozen BK101.out 2; have hnb8 := NB103_102.out; have hnc8 := NB102_103.out; have hcz9_0 : w4.cell? ⟨gb103, 0, none⟩ = some (.int .i64 0) := (blk_cell BK103.out 0).trans rfl; have hcz9_1 : w4.cell? ⟨gb103, 1, none⟩ = some (.int .i64 0) := (blk_cell BK103.out 1).trans rfl; have hcz9_2 : w4.cell? ⟨gb103, 2, none⟩ = some (.int .i64 0) := (blk_cell BK103.out 2).trans rfl; have hfz9_0 := blk_frozen BK103.out 0; have hfz9_1 := blk_frozen BK103.out 1; have hfz9_2 := blk_frozen BK103.out 2; have hcz10_0 : w4.cell? ⟨gb102, 0, none⟩ = some (.int .i64 0) := (blk_cell BK102.out 0).trans rfl; have hcz10_1 : w4.cell? ⟨gb102, 1, none⟩ = some (.int .i64 0) := (blk_cell BK102.out 1).trans rfl; have hcz10_2 : w4.cell? ⟨gb102, 2, none⟩ = some (.int .i64 0) := (blk_cell BK102.out 2).trans rfl; have hfz10_0 := blk_frozen BK102.out 0; have hfz10_1 := blk_frozen BK102.out 1; have hfz10_2 := blk_frozen BK102.out 2))
 refine bodyPost_ret (results_cell_row rfl _ _ gb102 83 #[.int .i64 a0_0, .int .i64 a0_1, .int .i64 a0_2] (0, 0) _ rfl (by (with_reducible repeat (first | refine blk_drewN ?_ _ | refine blk_drew ?_ | refine blk_alloc ?_ _)); refine blk_put (cs := #[.int .i64 a0_0, .int .i64 a0_1, .int .i64 0]) ?_ 2 _ rfl; (with_reducible repeat (first | refine blk_drewN ?_ _ | refine blk_drew ?_ | refine blk_alloc ?_ _)); refine blk_put (cs := #[.int .i64 a0_0, .int .i64 0, .int .i64 0]) ?_ 1 _ rfl; (with_reducible repeat (first | refine blk_drewN ?_ _ | refine blk_drew ?_ | refine blk_alloc ?_ _)); refine blk_put (cs := #[.int .i64 0, .int .i64 0, .int .i64 0]) ?_ 0 _ rfl; (with_reducible repeat (first | refine blk_drewN ?_ _ | refine blk_drew ?_ | refine blk_alloc ?_ _)); refine blk_far ?_ NB102_103.out _; (with_reducible repeat (first | refine blk_drewN ?_ _ | refine blk_drew ?_ | refine blk_alloc ?_ _)); refine blk_far ?_ NB102_103.out _; (with_reducible repeat (first | refine blk_drewN ?_ _ | refine blk_drew ?_ | refine blk_alloc ?_ _)); refine blk_far ?_ NB102_103.out _; (with_reducible repeat (first | refine blk_drewN ?_ _ | refine blk_drew ?_ | refine blk_alloc ?_ _)); exact BK102.out) Try.underlying83 rfl (by kernel_rfl)) rfl ?_
 exact ⟨by first | rfl | (simp [errW_none, errW_some] <;> rfl) | (simp [*, errW_none, errW_some] <;> rfl), by repeat (first | (with_reducible first | exact HB.out | apply below_alloc | apply pw_below_drewN | apply below_drew1 | refine below_set ?_ GE101.out | refine below_set ?_ GE102.out | refine below_set ?_ GE103.out) | exact HB.out)⟩

/-! ### laws_toTaskS: function 33 -/
def laws_toTaskS.l0 : Nat → List (S85) → List (S83) → Int → Option ((List (S83)))
 | 0, _, _, _ => none
 | k + 1, x0, x3, x4 => if x4 < (x0.length : Int) then (if 0 ≤ x4 then ((laws_toTask.f ((rd_T85 x0 x4).f0) ((rd_T85 x0 x4).f1) ((rd_T85 x0 x4).f2)).bind fun bt105 => (if x4 < (x3.length : Int) then (laws_toTaskS.l0 k x0 (x3.set (x4 : Int).toNat (⟨bt105.1, bt105.2.1, bt105.2.2⟩ : S83)) (wrap64 (x4 + 1))) else (none))) else (none)) else (some x3)
def laws_toTaskS.f (k : Nat) (l0 : List (S85)) : Option ((List (S83))) := if 0 ≤ (l0.length : Int) then (if ((l0.length : Int) : Int).toNat ≤ 11728124029610 then (laws_toTaskS.l0 k l0 (List.replicate ((l0.length : Int) : Int).toNat z83) 0) else (none)) else (none)
theorem laws_toTaskS.mono_l : ∀ k, (∀ y0 y1 y2, LeO (laws_toTaskS.l0 k y0 y1 y2) (laws_toTaskS.l0 (k + 1) y0 y1 y2))
 | 0 => fun _ _ _ r h => by simp [laws_toTaskS.l0] at h
 | k + 1 => by
  have ih0 := laws_toTaskS.mono_l k
  ·
   intro y0 y1 y2
   unfold laws_toTaskS.l0
   repeat' first
   | (with_reducible exact ih0 _ _ _)
   | (with_reducible exact LeO.refl _)
   | (with_reducible exact LeO.none _)
   | (with_reducible refine LeO.ite ?_ ?_)
   | (with_reducible refine LeO.bind ?_ (fun _ => ?_))
   | exact ih0 _ _ _
   | exact LeO.none _
   | refine LeO.ite ?_ ?_
   | refine LeO.bind ?_ (fun _ => ?_)
theorem laws_toTaskS.mono : ∀ a0 k, LeO (laws_toTaskS.f k a0) (laws_toTaskS.f (k + 1) a0) := by
 intro a0 k
 have ih0 := laws_toTaskS.mono_l k
 unfold laws_toTaskS.f
 repeat' first
   | (with_reducible exact ih0 _ _ _)
   | (with_reducible exact LeO.refl _)
   | (with_reducible exact LeO.none _)
   | (with_reducible refine LeO.ite ?_ ?_)
   | (with_reducible refine LeO.bind ?_ (fun _ => ?_))
   | exact ih0 _ _ _
   | exact LeO.none _
   | refine LeO.ite ?_ ?_
   | refine LeO.bind ?_ (fun _ => ?_)
set_option maxHeartbeats 8000000 in
set_option maxRecDepth 100000 in
theorem laws_toTaskS.calls (k : Nat) (A0 : Option Addr) (c0 : Nat) (l0 : List (S85)) (r : List (S83)) (w : World) (hr0 : Kd.C k85 w A0 l0.length l0) (hc0 : l0.length ≤ c0) (h : laws_toTaskS.f k l0 = some r) :
  Calls Try.prog 33 #[.slice A0 l0.length c0] w fun e w' => ∃ v0_ : Value, e = .returned (v0_) ∧ Kd.R k83 83 w' w.heap.size (fun _ => True) v0_ r ∧ Below w.heap.size w w' := by
 have hu85 := Try.underlying85
 have hu83 := Try.underlying83
 have HR0 := asd hr0
 have HC0 := asd hc0
 clear hr0 hc0
 have HB := asd (Below.refl w.heap.size w)
 have H : (if 0 ≤ (l0.length : Int) then (if ((l0.length : Int) : Int).toNat ≤ 11728124029610 then (laws_toTaskS.l0 k l0 (List.replicate ((l0.length : Int) : Int).toNat z83) 0) else (none)) else (none)) = some r := h
 clear h
 by_cases c2 : 0 ≤ (l0.length : Int)
 ·
  rw [if_pos c2] at H
  have c2b0 := eq_true c2
  have c2b1 : decide (0 ≤ (l0.length : Int)) = true := decide_eq_true c2
  clear c2
  by_cases c3 : ((l0.length : Int) : Int).toNat ≤ 11728124029610
  ·
   rw [if_pos c3] at H
   have c3b0 := eq_true c3
   have c3b1 : decide (((l0.length : Int) : Int).toNat ≤ 11728124029610) = true := decide_eq_true c3
   clear c3
   obtain ⟨y101, hy101⟩ : ∃ y_ : List (S83), y_ = (List.replicate ((l0.length : Int) : Int).toNat z83) := ⟨_, rfl⟩
   replace H : (laws_toTaskS.l0 k l0 y101 0) = some r := by first | (rw [hy101]; with_reducible exact H) | (have H2_ := (Option.bind_some _ _).symm.trans H; rw [hy101]; with_reducible exact H2_) | (have H2_ := (Option.bind_some _ _).symm.trans H; with_reducible exact H2_) | with_reducible exact H | (rw [hy101]; exact H) | exact H
   have Ny101 := asd hy101
   clear hy101
   have H' := asd H
   clear H
   go_enter Try.func33, Try.ntmps33
   go_wp2_with (first | ((with_reducible refine gate_dst (N := 7) rfl ?_); refine Kd.R_make k83 _ 83 rfl (N := 7) rfl 48 _ _ rfl (l0.length : Int) rfl rfl Try.underlying48 (.agg #[(.int .i64 0), (.int .i64 0), (.int .i64 0)]) 24 info83 rfl (by decide) (by omega) z83 (ok := fun _ => True) (okp := fun _ => True) (k83_mkM _ _ _ z83 ) (fun _ hk => hk) trivial (of_decide_eq_true (by first | (with_reducible assumption) | assumption)) (Nat.le_trans (Nat.mul_le_mul_right _ (of_decide_eq_true (by first | (with_reducible assumption) | assumption) : (l0.length : Int).toNat ≤ 11728124029610)) (by omega)) (Below.refl _ _) (Nat.le_refl _) ?_; intro v102 w4 ho5 hb hg_ hnew_; clear hg_ hnew_; (first | rw [← Ny101.out] at ho5 | (simp only [Int.reduceToNat] at ho5; rw [← Ny101.out] at ho5)); have n0_ := asd (Kd.R_lower ho5 (below_size (by repeat (first | (with_reducible first | exact HB.out | apply below_alloc | apply pw_below_drewN | apply below_drew1) | exact HB.out)))); have n1_ := asd (below_step (by repeat (first | (with_reducible first | exact HB.out | apply below_alloc | apply pw_below_drewN | apply below_drew1) | exact HB.out)) hb); clear HB; have HO103 := n0_; have HB := n1_; clear n0_ n1_; clear hb ho5))
   go_loopg [4] k (fun kq v4 w' => ∃ (x3_1 : List (S83)) (x4_1 : Int), v4 = .int .i64 x4_1 ∧ Aside0 (laws_toTaskS.l0 kq l0 x3_1 x4_1 = some r) ∧ Aside0 (kq ≤ k) ∧ Aside0 (Kd.R k83 83 w' w.heap.size (fun _ => True) v102 x3_1) ∧ Aside0 (Below w.heap.size w w'))
   case atStart => exact ⟨(y101), (0), (by first | rfl | (simp; done) | (simp [*]; done)), H', ⟨Nat.le_refl _⟩, ⟨by (with_reducible repeat (first | apply Kd.R_alloc | apply Kd.R_drewN | apply Kd.R_drew)); exact HO103.out⟩, ⟨by repeat (first | (with_reducible first | exact HB.out | apply below_alloc | apply pw_below_drewN | apply below_drew1) | exact HB.out)⟩⟩
   case round =>
    clear H'
    try clear c2
    try clear c2b0
    try clear c2b1
    try clear p2
    try clear c3
    try clear c3b0
    try clear c3b1
    try clear HO_3; skip
    obtain ⟨x3_1, x4_1, rfl, HA, HK1, HO_3, HB⟩ := hrel
    cases gk with
    | zero => exact absurd HA.out (by simp [laws_toTaskS.l0])
    | succ k1 =>
     have H := HA.out
     clear HA
     simp only [laws_toTaskS.l0] at H
     by_cases c6 : x4_1 < (l0.length : Int)
     ·
      rw [if_pos c6] at H
      have c6b0 : decide (x4_1 < (l0.length : Int)) = true := decide_eq_true c6
      clear c6
      by_cases c7 : 0 ≤ x4_1
      ·
       rw [if_pos c7] at H
       have c7b0 : decide (0 ≤ x4_1) = true := decide_eq_true c7
       clear c7
       replace H := Option.bind_eq_some_iff.mp H
       obtain ⟨⟨t105, t106, t107⟩, A80, H⟩ := H
       replace H : (if x4_1 < (x3_1.length : Int) then (laws_toTaskS.l0 k1 l0 (x3_1.set (x4_1 : Int).toNat (⟨t105, t106, t107⟩ : S83)) (wrap64 (x4_1 + 1))) else (none)) = some r := H
       have A8 := asd A80
       clear A80
       by_cases c9 : x4_1 < (x3_1.length : Int)
       ·
        rw [if_pos c9] at H
        have c9b0 : decide (x4_1 < (x3_1.length : Int)) = true := decide_eq_true c9
        clear c9
        obtain ⟨y108, hy108⟩ : ∃ y_ : List (S83), y_ = (x3_1.set (x4_1 : Int).toNat (⟨t105, t106, t107⟩ : S83)) := ⟨_, rfl⟩
        replace H : (laws_toTaskS.l0 k1 l0 y108 (wrap64 (x4_1 + 1))) = some r := by first | (rw [hy108]; with_reducible exact H) | (have H2_ := (Option.bind_some _ _).symm.trans H; rw [hy108]; with_reducible exact H2_) | (have H2_ := (Option.bind_some _ _).symm.trans H; with_reducible exact H2_) | with_reducible exact H | (rw [hy108]; exact H) | exact H
        have Ny108 := asd hy108
        clear hy108
        have H' := asd H
        clear H
        have p104 : 0 ≤ (x4_1 : Int) := of_decide_eq_true (by first | (with_reducible assumption) | assumption)
        have q104 : x4_1 < (l0.length : Int) := of_decide_eq_true (by first | (with_reducible assumption) | assumption)
        obtain ⟨ad104, e104, hx104_0, hx104_1, hx104_2⟩ := at_T85 HR0.out x4_1 p104 q104
        cases e104
        replace hx104_0 := (HB.out.cell (World.block_lt_of_cell? w _ hx104_0)).trans hx104_0
        replace hx104_1 := (HB.out.cell (World.block_lt_of_cell? w _ hx104_1)).trans hx104_1
        replace hx104_2 := (HB.out.cell (World.block_lt_of_cell? w _ hx104_2)).trans hx104_2
        replace p104 := eq_true p104
        replace q104 := eq_true q104
        go_wp2_with (first | ((with_reducible refine gate_callee (f := 70) rfl ?_); refine goesL_ (some 20) rfl rfl Try.func70 (by kernel_rfl) rfl #[.agg #[.int .i64 ((rd_T85 l0 x4_1).f0), .int .i64 ((rd_T85 l0 x4_1).f1), .int .i64 ((rd_T85 l0 x4_1).f2)]] rfl (by (try simp only [List.map_toArray, List.map_cons, List.map_nil]); first | done | rfl | (simp only [List.length_drop, List.length_take]; rfl)) ?_; (with_reducible refine (laws_toTask.calls ((rd_T85 l0 x4_1).f0) ((rd_T85 l0 x4_1).f1) ((rd_T85 l0 x4_1).f2) t105 t106 t107 _ A8.out).mono ?_); rintro e w11 ⟨rfl, hb⟩; refine ⟨_, rfl, ?_⟩; have n0_ := asd (Kd.R_below (upR <| HO_3.out) hb); have n1_ := asd (below_step (by repeat (first | (with_reducible first | exact HB.out | apply below_alloc | apply pw_below_drewN | apply below_drew1) | exact HB.out)) hb); clear HO_3; clear HB; have HO_3 := n0_; have HB := n1_; clear n0_ n1_; (try clear hb); (try clear hb2); (try clear hk); (try clear hi); have p10 : 0 ≤ (x4_1 : Int) := of_decide_eq_true (by first | (with_reducible assumption) | assumption); have q10 : (x4_1 : Int) < ((x3_1.length : Int) : Int) := of_decide_eq_true (by first | (with_reducible assumption) | assumption); obtain ⟨go10, co10, eo10, gb10, gl10, cl10, HG10⟩ := Kd.R_form HO_3.out (by omega); (first | cases eo10 | (injection eo10 with ea_ en_ ec_; (first | subst ea_ | (injection ea_ with ea_; subst ea_)); subst ec_; clear en_)); have GB10 := asd gb10; have GG10 := asd HG10; clear gb10 gl10 HG10; obtain ⟨ce10, hcl10, hM10, hcc10, hfr10⟩ := Kd.R_elem HO_3.out z83 (x4_1 : Int) p10 q10; obtain rfl := k83_openM hM10; have hx10_0 : w11.cell? ⟨go10, (x4_1 : Int).toNat * 3, none⟩ = some (.int .i64 ((rd_T83 x3_1 x4_1).f0)) := hcc10 0 _ rfl; have hx10_1 : w11.cell? ⟨go10, (x4_1 : Int).toNat * 3 + 1, none⟩ = some (.int .i64 ((rd_T83 x3_1 x4_1).f1)) := hcc10 1 _ rfl; have hx10_2 : w11.cell? ⟨go10, (x4_1 : Int).toNat * 3 + 2, none⟩ = some (.int .i64 ((rd_T83 x3_1 x4_1).f2)) := hcc10 2 _ rfl; have hf10_0 : w11.frozen? ⟨go10, (x4_1 : Int).toNat * 3, none⟩ = false := hfr10 0; have hf10_1 : w11.frozen? ⟨go10, (x4_1 : Int).toNat * 3 + 1, none⟩ = false := hfr10 1; have hf10_2 : w11.frozen? ⟨go10, (x4_1 : Int).toNat * 3 + 2, none⟩ = false := hfr10 2; clear hcl10 hcc10 hfr10; (try clear hM10); replace p10 := eq_true p10; replace q10 := eq_true q10; have HX12 := asd (show Kd.R k83 83 w11 w.heap.size (fun _ => True) (.slice (some ⟨go10, 0, none⟩) x3_1.length co10) x3_1 from (upR <| HO_3.out)); obtain ⟨ce12, hcl12, hM12, hcc12, hfr12⟩ := Kd.R_elem HX12.out z83 (x4_1 : Int) (of_decide_eq_true (by first | (with_reducible assumption) | assumption)) (by have h_ : (x4_1 : Int) < ((x3_1.length : Int) : Int) := of_decide_eq_true (by first | (with_reducible assumption) | assumption); first | exact h_ | (first | omega | (have e_ := (Kd.R_reads' HO_3.out).1; omega)) | simpa using h_); obtain rfl := k83_openM hM12; have HP12 := Kd.R_seg HX12.out (x4_1 : Int) (of_decide_eq_true (by first | (with_reducible assumption) | assumption)) (by have h_ : (x4_1 : Int) < ((x3_1.length : Int) : Int) := of_decide_eq_true (by first | (with_reducible assumption) | assumption); first | exact h_ | (first | omega | (have e_ := (Kd.R_reads' HO_3.out).1; omega)) | simpa using h_) (seg := [.int .i64 t105, .int .i64 t106, .int .i64 t107]) (j := 0) hcl12 hcc12 (show 3 ≤ 3 from by decide) (x' := (⟨t105, t106, t107⟩ : S83)) (k83_mkM _ _ _ (⟨t105, t106, t107⟩ : S83) ) (fun _ hk => hk); have hx12_0 := hcc12 0 _ rfl; (try simp only [show (k83).sz = 3 from rfl, Nat.mul_one, Nat.add_zero] at hx12_0); have hf12_0 := hfr12 0; (try simp only [show (k83).sz = 3 from rfl, Nat.mul_one, Nat.add_zero] at hf12_0); have hx12_1 := hcc12 1 _ rfl; (try simp only [show (k83).sz = 3 from rfl, Nat.mul_one, Nat.add_zero] at hx12_1); have hf12_1 := hfr12 1; (try simp only [show (k83).sz = 3 from rfl, Nat.mul_one, Nat.add_zero] at hf12_1); have hx12_2 := hcc12 2 _ rfl; (try simp only [show (k83).sz = 3 from rfl, Nat.mul_one, Nat.add_zero] at hx12_2); have hf12_2 := hfr12 2; (try simp only [show (k83).sz = 3 from rfl, Nat.mul_one, Nat.add_zero] at hf12_2); clear hcl12 hcc12 hfr12; (try clear hM12)) | ((with_reducible refine gate_store (t := 83) (p := 21) rfl ?_); refine store_event (t := 83) (p := 21) (v := ?vo_w13) (w1 := (((w11.setCell ⟨go10, (x4_1 : Int).toNat * 3, none⟩ (.int .i64 t105)).setCell ⟨go10, (x4_1 : Int).toNat * 3 + 1, none⟩ (.int .i64 t106)).setCell ⟨go10, (x4_1 : Int).toNat * 3 + 2, none⟩ (.int .i64 t107))) ?hg ?ho ?hn ?hr ?_; (case ho => rfl); (case hg => rfl); (case hn => rfl); (case hr => first | (go_simp; done) | (go_simp; rfl)); intro w13 hw; have hg : w11.grownBy w13 (some go10) := (by rw [hw]; exact HP12.2); have hp_ : Kd.R k83 83 w13 w.heap.size (fun _ => True) (.slice (some ⟨go10, 0, none⟩) x3_1.length co10) y108 := (by rw [hw, Ny108.out]; exact HP12.1); clear HP12; have n0_ := asd (hp_); have n1_ := asd ((by rw [hw]; exact below_set (below_set (below_set (HB.out) GB10.out) GB10.out) GB10.out : Below w.heap.size w w13)); clear HO_3; clear HB; have HO_3 := n0_; have HB := n1_; clear n0_ n1_; clear hg hw hp_))
        go_roundg k1
        case measure => have := HK1.out; omega
        case rel => exact ⟨(y108), (wrap64 (x4_1 + 1)), (by first | rfl | (simp; done) | (simp [*]; done)), H', ⟨by have := HK1.out; omega⟩, ⟨by (with_reducible repeat (first | apply Kd.R_alloc | apply Kd.R_drewN | apply Kd.R_drew)); exact HO_3.out⟩, ⟨by repeat (first | (with_reducible first | exact HB.out | apply below_alloc | apply pw_below_drewN | apply below_drew1) | exact HB.out)⟩⟩
       ·
        rw [if_neg c9] at H
        exact absurd H (by simp)
      ·
       rw [if_neg c7] at H
       exact absurd H (by simp)
     ·
      rw [if_neg c6] at H
      have c6b0 : decide (x4_1 < (l0.length : Int)) = false := decide_eq_false c6
      clear c6
      obtain rfl := Option.some.inj H
      go_wp2
      go_ret
      exact ⟨_, by first | rfl | (simp [errW_none, errW_some] <;> rfl) | (simp [*, errW_none, errW_some] <;> rfl), by (with_reducible repeat (first | apply Kd.R_alloc | apply Kd.R_drewN | apply Kd.R_drew)); exact HO_3.out, by repeat (first | (with_reducible first | exact HB.out | apply below_alloc | apply pw_below_drewN | apply below_drew1) | exact HB.out)⟩
  ·
   rw [if_neg c3] at H
   exact absurd H (by simp)
 ·
  rw [if_neg c2] at H
  exact absurd H (by simp)

-- HAND with laws.toTaskS
def taskOf (x : S85) : S83 := ⟨x.f0, x.f1, x.f2⟩
theorem toTaskS_loop (l : List S85) (hlen : l.length < 9223372036854775807) : ∀ (d i : Nat) (x : List S83), l.length - i = d → i ≤ l.length → x.length = l.length → (∀ j, j < i → x[j]? = (l[j]?).map taskOf) → Ev (fun k => laws_toTaskS.l0 k l x i) (l.map taskOf) := by
  intro d
  induction d with
  | zero =>
    intro i x hd hi hx hj
    refine Ev.succ (fun k => by simp only [laws_toTaskS.l0]; rw [if_neg (by omega)]) (Ev.const (congrArg some ?_))
    apply List.ext_getElem?
    intro j
    rw [List.getElem?_map]
    rcases Nat.lt_or_ge j i with h | h
    · exact hj j h
    · rw [List.getElem?_eq_none (by omega), List.getElem?_eq_none (by omega)]
      rfl
  | succ d ih =>
    intro i x hd hi hx hj
    refine Ev.succ (fun k => by simp only [laws_toTaskS.l0]; rw [if_pos (by omega), if_pos (by omega)]) ?_
    refine Ev.bindc (a := ((rd_T85 l i).f0, (rd_T85 l i).f1, (rd_T85 l i).f2)) rfl ?_
    refine Ev.to (fun k => by rw [if_pos (by omega), wrap_succ (by omega) (by omega), Int.toNat_natCast]) ?_
    refine ih (i + 1) _ (by omega) (by omega) (by simpa using hx) (fun j hji => ?_)
    rw [List.getElem?_set]
    by_cases e : i = j
    · subst e
      have hil : i < l.length := by omega
      simp [hx, hil, rd_T85, List.getD, taskOf]
    · rw [if_neg e]
      exact hj j (by omega)
theorem toTaskS_ok (l : List S85) (hlen : l.length ≤ 11728124029610) : Ev (fun k => laws_toTaskS.f k l) (l.map taskOf) := by
  refine Ev.to (fun k => by unfold laws_toTaskS.f; rw [if_pos (by omega), if_pos (by omega)]) ?_
  exact toTaskS_loop l (by omega) l.length 0 _ (by omega) (by omega) (by simp) (fun j h => absurd h (Nat.not_lt_zero _))

-- HAND slices_Clone_int_int: function 65
def slices_Clone_int_int.f (l0 : List Int) : Option (List Int) := if l0.length < 17592186044416 then some l0 else none
set_option maxHeartbeats 8000000 in
set_option maxRecDepth 100000 in
theorem slices_Clone_int_int.calls (A0 : Option Addr) (c0 : Nat) (l0 : List Int) (r : List Int) (w : World) (hr0 : Kd.C (Kd.int .i64) w A0 l0.length l0) (hc0 : l0.length ≤ c0) (h : slices_Clone_int_int.f l0 = some r) :
    Calls Try.prog 65 #[.slice A0 l0.length c0] w fun e w' => ∃ v0_ : Value, e = .returned (v0_) ∧ Kd.R (Kd.int .i64) 3 w' w.heap.size (fun _ => True) v0_ r ∧ Below w.heap.size w w' := by
  unfold slices_Clone_int_int.f at h
  split at h
  · rename_i hlt
    obtain rfl := Option.some.inj h
    have LM := Aside0.mk hlt
    clear h hlt
    have he : ∀ (w : World) (A : Option Addr) (n c : Nat), (binOp .eql 22 (.slice A n c) (.slice none 0 0)).run Try.prog w = .ok (.bool A.isNone) w := fun w A n c => Go.Lib.run_eql_slice_nil w 22 3 A n c 0 0 Try.underlying22
    cases A0 with
    | none =>
      have hl : l0 = [] := by
        rcases Nat.eq_zero_or_pos l0.length with e | e
        · exact List.eq_nil_of_length_eq_zero e
        · obtain ⟨ad, he, _⟩ := hr0.2.2 e
          cases he
      subst hl
      clear hr0 hc0 LM
      have he0 : ∀ (w : World) (n c : Nat), (binOp .eql 22 (.slice none n c) (.slice none 0 0)).run Try.prog w = .ok (.bool true) w := fun w n c => he w none n c
      clear he
      go_enter Try.func65, Try.ntmps65
      go_wp2
      go_ret
      exact ⟨_, rfl, Kd.R_nil _ _ _ _ _, Below.refl _ _⟩
    | some ad =>
      have HR0 := Aside0.mk hr0
      have HC0 := Aside0.mk hc0
      clear hr0 hc0
      have he0 : ∀ (w : World) (n c : Nat), (binOp .eql 22 (.slice (some ad) n c) (.slice none 0 0)).run Try.prog w = .ok (.bool false) w := fun w n c => he w (some ad) n c
      clear he
      have HB := Aside0.mk (Below.refl w.heap.size w)
      go_enter Try.func65, Try.ntmps65
      go_wp2_with (first | ((with_reducible refine gate_dst (N := 5) rfl ?_); refine Kd.R_lit (Kd.int .i64) _ 3 ?hg (N := 5) ?hd (xs := ([] : List Int)) (inner := []) (ok := fun _ => True) (okp := fun _ => True) ?hr ?hp (fun _ hk => hk) trivial (Below.refl _ _) (Nat.le_refl _) (by simp) ?_; (case hd => rfl); (case hg => rfl); (case hr => first | (go_simp; done) | (go_simp; rfl)); (case hp => exact (Reps.none _ _)); intro v102 w3 ho4 hb hg_ hnew_; clear hg_ hnew_; have n0_ := Aside0.mk (Kd.R_lower ho4 (below_size (by repeat (first | (with_reducible first | exact HB.out | apply below_alloc | apply pw_below_drewN | apply below_drew1) | exact HB.out)))); have n1_ := Aside0.mk (below_step (by repeat (first | (with_reducible first | exact HB.out | apply below_alloc | apply pw_below_drewN | apply below_drew1) | exact HB.out)) hb); clear HB; have HO103 := n0_; have HB := n1_; clear n0_ n1_; clear hb ho4) | ((with_reducible refine gate_builtin (b := .append) (xs := #[.tmp 5, .tmp 6]) rfl ?_); at_builtin; refine Kd.R_append_rows (Kd.int .i64) (w0 := w) w.heap.size rfl (.tmp 5) (.tmp 6) 22 3 (.int .i64 0) 8 rfl Try.underlying22 info3 rfl (by decide) (by omega) v102 ([] : List Int) l0 _ _ _ (fun _ => True) (fun _ => False) rfl rfl ?aO ?aR (fun _ _ h => h) (fun _ h => h.elim) ?aF ?aB ?aS ?aL ?_; (case aR => repeat (first | exact (Kd.C_below HR0.out HB.out) | (with_reducible refine Kd.C_alloc ?_ _) | (with_reducible refine Kd.C_drewN ?_ _) | (with_reducible refine Kd.C_drew ?_))); (case aB => exact (by repeat (first | (with_reducible first | exact HB.out | apply below_alloc | apply pw_below_drewN | apply below_drew1) | exact HB.out))); (case aF => exact (fun _ _ => trivial)); (case aO => exact (by (with_reducible repeat (first | apply Kd.R_alloc | apply Kd.R_drewN | apply Kd.R_drew)); exact HO103.out)); (case aS => exact (below_size (by repeat (first | (with_reducible first | exact HB.out | apply below_alloc | apply pw_below_drewN | apply below_drew1) | exact HB.out)))); (case aL => have := LM.out; simp; omega); intro v105 w5 ho hb hg hat; have n0_ := Aside0.mk (hb); have n1_ := Aside0.mk (ho); clear HB; clear HO103; have HB := n0_; have HO106 := n1_; clear n0_ n1_; clear ho hb hg hat))
      go_ret
      exact ⟨_, rfl, by (with_reducible repeat (first | apply Kd.R_alloc | apply Kd.R_drewN | apply Kd.R_drew)); exact HO106.out, by repeat (first | (with_reducible first | exact HB.out | apply below_alloc | apply pw_below_drewN | apply below_drew1) | exact HB.out)⟩
  · cases h

-- HAND impl_Space_family: function 102
set_option maxHeartbeats 8000000 in
set_option maxRecDepth 100000 in
theorem impl_Space_family.walk (a0 : Int) (A : Option Addr) (c : Nat) (l : List Int) (w : World) (hr : Kd.C (Kd.int .i64) w A l.length l) (hc : l.length ≤ c) (hl : ∀ x ∈ l, 0 ≤ x ∧ x < 128) :
    Calls Try.prog 102 #[.agg #[.int .i64 a0, .slice A l.length c]] w fun e w' => ∃ b, e = .returned (.pointer (some ⟨b, 0, none⟩)) ∧ FamAt w' b (famOf l) ∧ w.heap.size ≤ b ∧ Below w.heap.size w w' := by
  have HL := Aside0.mk hl
  have HR := Aside0.mk hr
  have HC := Aside0.mk hc
  have HM := Aside0.mk (Kd.C_max hr)
  clear hl hr hc
  go_enter Try.func102, Try.ntmps102
  go_wp2
  go_loopw [11] (fun v11 wr => ∃ k : Nat, Aside0 (k ≤ l.length) ∧ v11 = .int .i64 k ∧ Aside0 (FamAt wr (w.heap.size + 1) (famOf (l.take k))) ∧ Aside0 (Below w.heap.size w wr)) (fun v11 _ => l.length - (intOf v11).toNat)
  case atStart =>
    refine ⟨0, ⟨Nat.zero_le _⟩, rfl, ⟨?_⟩, ⟨below_alloc (below_alloc (Below.refl _ _) _) _⟩⟩
    have := FamAt.new (w.alloc (.cells #[.int .i64 a0, .slice A l.length c] 28)) (famOf []) (famOf_length _)
    rw [← zeroFam] at this
    simpa using this
  case round =>
    obtain ⟨k, hk, rfl, HF, HB⟩ := hrel
    by_cases hlt : k < l.length
    · obtain ⟨ad, e, hcell⟩ := Kd.at_int (Kd.C_below HR.out HB.out) (k : Int) (by omega) (by omega)
      have hx := HL.out _ (rd_mem (l := l) (i := (k : Int)) (by omega) (by omega))
      have HT := Aside0.mk (take_rd l k hlt)
      obtain ⟨x, hX⟩ : ∃ x, x = rd l k := ⟨_, rfl⟩
      rw [← hX] at hx hcell HT
      clear hX
      cases e
      rw [Int.toNat_natCast] at hcell
      obtain ⟨h0, h1⟩ := hx
      have hfc := HF.out.at_ x h0 h1
      have hfr := HF.out.fr x.toNat
      have hm := HM.out
      go_wp2
      go_roundw
      case rel =>
        refine ⟨k + 1, ⟨by omega⟩, by go_num, ⟨?_⟩, ⟨?_⟩⟩
        · rw [HT.out, ← famOf_snoc _ _ h0]
          exact HF.out.set _ _
        · exact below_set HB.out (Nat.le_succ _)
      case measure => simp [intOf]; omega
    · have hk' := hk.out
      obtain rfl : k = l.length := by omega
      have hm := HM.out
      go_wp2
      go_ret
      refine ⟨_, rfl, ?_, Nat.le_succ _, HB.out⟩
      have := HF.out
      rwa [List.take_length] at this
/-- The family of a list of sets, if they are such. -/
def impl_Space_family.f (a0_0 : Int) (l0_1 : List Int) : Option (List Bool) := if (l0_1.all fun x => decide (0 ≤ x) && decide (x < 128)) = true then some (famOf l0_1) else none
theorem impl_Space_family.len {a0_0 : Int} {l0_1 : List Int} {r : List Bool} (h : impl_Space_family.f a0_0 l0_1 = some r) : r.length = 128 := by
  unfold impl_Space_family.f at h
  split at h
  · rw [← Option.some.inj h]; exact famOf_length _
  · cases h
theorem impl_Space_family.calls (a0_0 : Int) (A0_1 : Option Addr) (c0_1 : Nat) (l0_1 : List Int) (r : List Bool) (w : World) (hr0_1 : Kd.C (Kd.int .i64) w A0_1 l0_1.length l0_1) (hc0_1 : l0_1.length ≤ c0_1) (h : impl_Space_family.f a0_0 l0_1 = some r) :
    Calls Try.prog 102 #[.agg #[.int .i64 a0_0, .slice A0_1 l0_1.length c0_1]] w fun e w' => ∃ v0_ : Value, e = .returned (ptrOf v0_) ∧ Kd.R Kd.bool 126 w' w.heap.size (fun _ => True) v0_ r ∧ Below w.heap.size w w' := by
  unfold impl_Space_family.f at h
  split at h
  · rename_i hl
    rw [List.all_eq_true] at hl
    have e := Option.some.inj h
    subst e
    refine (impl_Space_family.walk a0_0 A0_1 c0_1 l0_1 w hr0_1 hc0_1 (fun x hx => by have := hl x hx; simpa using this)).mono ?_
    rintro e w' ⟨b, rfl, HF, hb, hbel⟩
    exact ⟨_, rfl, HF.own hb, hbel⟩
  · cases h

-- HAND with (impl.Space).family
theorem family_f {n : Int} {l : List Int} (h : isSpaceB n l = true) : impl_Space_family.f n l = some (famOf l) := by
  unfold impl_Space_family.f
  rw [if_pos]
  rw [List.all_eq_true]
  intro x hx
  have := isSpaceB_128 h x hx
  simp
  omega

/-! ### impl_Space_all: function 103 -/
def impl_Space_all.f (a0_0 : Int) (l0_1 : List Int) : Option (Int) := if 0 ≤ a0_0 then (some (wrap64 ((shl .i64 1 a0_0) - 1))) else (none)
set_option maxHeartbeats 8000000 in
set_option maxRecDepth 100000 in
theorem impl_Space_all.calls (a0_0 : Int) (A0_1 : Option Addr) (c0_1 : Nat) (l0_1 : List Int) (r : Int) (w : World) (hr0_1 : Kd.C (Kd.int .i64) w A0_1 l0_1.length l0_1) (hc0_1 : l0_1.length ≤ c0_1) (h : impl_Space_all.f a0_0 l0_1 = some r) :
    Calls Try.prog 103 #[.agg #[.int .i64 a0_0, .slice A0_1 l0_1.length c0_1]] w fun e w' => e = .returned (.int .i64 r) ∧ Below w.heap.size w w' := by
  have hu28 := Try.underlying28
  have HR0_1 := Aside0.mk hr0_1
  have HC0_1 := Aside0.mk hc0_1
  clear hr0_1 hc0_1
  have HB := Aside0.mk (Below.refl w.heap.size w)
  have H : (if 0 ≤ a0_0 then (some (wrap64 ((shl .i64 1 a0_0) - 1))) else (none)) = some r := h
  clear h
  by_cases c2 : 0 ≤ a0_0
  · rw [if_pos c2] at H
    have c2b0 := eq_true c2
    have c2b1 : decide (0 ≤ a0_0) = true := decide_eq_true c2
    clear c2
    obtain ⟨ji3, hji3⟩ : ∃ j_ : Int, (shl .i64 1 a0_0) = j_ := ⟨_, rfl⟩
    replace H : (some (wrap64 ((ji3) - 1))) = some r := by first | (rw [hji3] at H; exact H) | (simp only [hji3] at H ⊢; exact H)
    have hji3_ : (IntKind.i64.wrap (1 * 2 ^ min a0_0.toNat 64)) = ji3 := hji3
    have hji3z : a0_0 ≤ 64 → (IntKind.i64.wrap (1 * 2 ^ a0_0.toNat)) = ji3 := shl_small hji3
    have hji3u : (IntKind.i64.wrap (2 ^ min a0_0.toNat 64)) = ji3 := by have h_ := hji3_; rw [Int.one_mul] at h_; exact h_
    have hji3v : a0_0 ≤ 64 → (IntKind.i64.wrap (2 ^ a0_0.toNat)) = ji3 := fun hle_ => by have h_ := hji3z hle_; rw [Int.one_mul] at h_; exact h_
    have hji3y : (wrap64 (1 * 2 ^ min a0_0.toNat 64)) = ji3 := (i64_w _).symm.trans hji3_
    have hji3x : a0_0 ≤ 64 → (wrap64 (1 * 2 ^ a0_0.toNat)) = ji3 := fun h_ => (i64_w _).symm.trans (hji3z h_)
    obtain rfl := Option.some.inj H
    go_enter Try.func103, Try.ntmps103
    go_wp2_with (first | ((with_reducible refine gate_dst (N := 1) rfl ?_); refine box_event ?hg (N := 1) ?hd (cs := #[.int .i64 a0_0, .slice A0_1 l0_1.length c0_1]) (t := 28) ?hr ?_; (case hd => rfl); (case hg => rfl); (case hr => first | (go_simp; done) | (go_simp; rfl)); intro gb101 hg w4 hbox hb; have n0_ := Aside0.mk (below_step (by repeat (first | (with_reducible first | exact HB.out | apply below_alloc | apply pw_below_drewN | apply below_drew1) | exact HB.out)) hb); have n1_ := Aside0.mk (hbox); have n2_ := Aside0.mk ((by rw [hg]; exact (below_size (by repeat (first | (with_reducible first | exact HB.out | apply below_alloc | apply pw_below_drewN | apply below_drew1) | exact HB.out))) : w.heap.size ≤ gb101)); have n3_ := Aside0.mk ((by rw [hg]; exact (below_size (by repeat (first | (with_reducible first | exact HB.out | apply below_alloc | apply pw_below_drewN | apply below_drew1) | exact HB.out))) : w.heap.size ≤ gb101)); clear HB; have HB := n0_; have BK101 := n1_; have GW101 := n2_; have GE101 := n3_; clear n0_ n1_ n2_ n3_; clear hb hbox hg; have hcz5_0 : w4.cell? ⟨gb101, 0, none⟩ = some (.int .i64 a0_0) := (blk_cell BK101.out 0).trans rfl; have hcz5_1 : w4.cell? ⟨gb101, 1, none⟩ = some (.slice A0_1 l0_1.length c0_1) := (blk_cell BK101.out 1).trans rfl; have hfz5_0 := blk_frozen BK101.out 0; have hfz5_1 := blk_frozen BK101.out 1))
    go_ret
    exact ⟨by first | rfl | (simp [errW_none, errW_some] <;> rfl) | (simp only [← hji3]; first | rfl | (simp [errW_none, errW_some] <;> rfl)) | (simp [*, errW_none, errW_some] <;> rfl), by repeat (first | (with_reducible first | exact HB.out | apply below_alloc | apply pw_below_drewN | apply below_drew1 | refine below_set ?_ GE101.out) | exact HB.out)⟩
  · rw [if_neg c2] at H
    exact absurd H (by simp)

-- HAND with (impl.Space).all
theorem all_ok (n : Int) (l : List Int) (h0 : 0 ≤ n) (h1 : n ≤ 7) : impl_Space_all.f n l = some (2 ^ n.toNat - 1) := by
  unfold impl_Space_all.f
  rw [if_pos h0, wrapPow h0 h1]

/-! ### impl_items: function 109 -/
def impl_items.l0 : Nat → Int → List Int → Int → Option (List Int)
 | 0, _, _, _ => none
 | k + 1, x0, x3, x6 => if x6 < 7 then (if 0 ≤ x6 then (if (Go.bits .and .i64 (shr .i64 x0 x6) 1) = 1 then (if x3.length < 17592186044416 then (impl_items.l0 k x0 (x3 ++ [x6]) (wrap64 (x6 + 1))) else (none)) else (impl_items.l0 k x0 x3 (wrap64 (x6 + 1)))) else (none)) else (some x3)
def impl_items.f (k : Nat) (a0 : Int) : Option (List Int) := impl_items.l0 k a0 (([] : List Int)) 0
theorem impl_items.mono_l : ∀ k, (∀ y0 y1 y2, LeO (impl_items.l0 k y0 y1 y2) (impl_items.l0 (k + 1) y0 y1 y2))
 | 0 => fun _ _ _ r h => by simp [impl_items.l0] at h
 | k + 1 => by
  have ih0 := impl_items.mono_l k
  ·
   intro y0 y1 y2
   unfold impl_items.l0
   repeat' first
   | (with_reducible exact ih0 _ _ _)
   | (with_reducible exact LeO.refl _)
   | (with_reducible exact LeO.none _)
   | (with_reducible refine LeO.ite ?_ ?_)
   | (with_reducible refine LeO.bind ?_ (fun _ => ?_))
   | exact ih0 _ _ _
   | exact LeO.none _
   | refine LeO.ite ?_ ?_
   | refine LeO.bind ?_ (fun _ => ?_)
theorem impl_items.mono : ∀ a0 k, LeO (impl_items.f k a0) (impl_items.f (k + 1) a0) := by
 intro a0 k
 have ih0 := impl_items.mono_l k
 unfold impl_items.f
 repeat' first
   | (with_reducible exact ih0 _ _ _)
   | (with_reducible exact LeO.refl _)
   | (with_reducible exact LeO.none _)
   | (with_reducible refine LeO.ite ?_ ?_)
   | (with_reducible refine LeO.bind ?_ (fun _ => ?_))
   | exact ih0 _ _ _
   | exact LeO.none _
   | refine LeO.ite ?_ ?_
   | refine LeO.bind ?_ (fun _ => ?_)
set_option maxHeartbeats 8000000 in
set_option maxRecDepth 100000 in
theorem impl_items.calls (k : Nat) (a0 : Int) (r : List Int) (w : World) (h : impl_items.f k a0 = some r) :
  Calls Try.prog 109 #[.int .i64 a0] w fun e w' => ∃ v0_ : Value, e = .returned (v0_) ∧ Kd.R (Kd.int .i64) 3 w' w.heap.size (fun _ => True) v0_ r ∧ Below w.heap.size w w' := by
 have HB := asd (Below.refl w.heap.size w)
 have H : (impl_items.l0 k a0 (([] : List Int)) 0) = some r := h
 clear h
 obtain ⟨y101, hy101⟩ : ∃ y_ : List Int, y_ = (([] : List Int)) := ⟨_, rfl⟩
 replace H : (impl_items.l0 k a0 y101 0) = some r := by first | (rw [hy101]; with_reducible exact H) | (have H2_ := (Option.bind_some _ _).symm.trans H; rw [hy101]; with_reducible exact H2_) | (have H2_ := (Option.bind_some _ _).symm.trans H; with_reducible exact H2_) | with_reducible exact H | (rw [hy101]; exact H) | exact H
 have Ny101 := asd hy101
 clear hy101
 have H' := asd H
 clear H
 go_enter Try.func109, Try.ntmps109
 go_wp2_with (first | ((with_reducible refine gate_dst (N := 5) rfl ?_); refine Kd.R_lit (Kd.int .i64) _ 3 ?hg (N := 5) ?hd (xs := ([] : List Int)) (inner := []) (ok := fun _ => True) (okp := fun _ => True) ?hr ?hp (fun _ hk => hk) trivial (Below.refl _ _) (Nat.le_refl _) (by simp) ?_; (case hd => rfl); (case hg => rfl); (case hr => first | (go_simp; done) | (go_simp; rfl)); (case hp => exact (Reps.none _ _)); intro v102 w2 ho3 hb hg_ hnew_; clear hg_ hnew_; (first | rw [← Ny101.out] at ho3 | (simp only [Int.reduceToNat] at ho3; rw [← Ny101.out] at ho3)); have n0_ := asd (Kd.R_lower ho3 (below_size (by repeat (first | (with_reducible first | exact HB.out | apply below_alloc | apply pw_below_drewN | apply below_drew1) | exact HB.out)))); have n1_ := asd (below_step (by repeat (first | (with_reducible first | exact HB.out | apply below_alloc | apply pw_below_drewN | apply below_drew1) | exact HB.out)) hb); clear HB; have HO103 := n0_; have HB := n1_; clear n0_ n1_; clear hb ho3))
 go_loopg [3, 6] k (fun kq v3 v6 w' => ∃ (x3_1 : List Int) (x6_1 : Int), v6 = .int .i64 x6_1 ∧ Aside0 (impl_items.l0 kq a0 x3_1 x6_1 = some r) ∧ Aside0 (kq ≤ k) ∧ Aside0 (Kd.R (Kd.int .i64) 3 w' w.heap.size (fun _ => True) v3 x3_1) ∧ Aside0 (Below w.heap.size w w'))
 case atStart => exact ⟨(y101), (0), (by first | rfl | (simp; done) | (simp [*]; done)), H', ⟨Nat.le_refl _⟩, ⟨by (with_reducible repeat (first | apply Kd.R_alloc | apply Kd.R_drewN | apply Kd.R_drew)); exact HO103.out⟩, ⟨by repeat (first | (with_reducible first | exact HB.out | apply below_alloc | apply pw_below_drewN | apply below_drew1) | exact HB.out)⟩⟩
 case round =>
  clear H'
  try clear c1
  try clear p2
  try clear HO_3; skip
  obtain ⟨x3_1, x6_1, rfl, HA, HK1, HO_3, HB⟩ := hrel
  cases gk with
  | zero => exact absurd HA.out (by simp [impl_items.l0])
  | succ k1 =>
   have H := HA.out
   clear HA
   simp only [impl_items.l0] at H
   by_cases c4 : x6_1 < 7
   ·
    rw [if_pos c4] at H
    have c4b0 : decide (x6_1 < 7) = true := decide_eq_true c4
    clear c4
    by_cases c5 : 0 ≤ x6_1
    ·
     rw [if_pos c5] at H
     have c5b0 := eq_true c5
     have c5b1 : decide (0 ≤ x6_1) = true := decide_eq_true c5
     clear c5
     obtain ⟨ji6, hji6⟩ : ∃ j_ : Int, (shr .i64 a0 x6_1) = j_ := ⟨_, rfl⟩
     replace H : (if (Go.bits .and .i64 (ji6) 1) = 1 then (if x3_1.length < 17592186044416 then (impl_items.l0 k1 a0 (x3_1 ++ [x6_1]) (wrap64 (x6_1 + 1))) else (none)) else (impl_items.l0 k1 a0 x3_1 (wrap64 (x6_1 + 1)))) = some r := by first | (rw [hji6] at H; exact H) | (simp only [hji6] at H ⊢; exact H)
     have hji6_ : (a0 / 2 ^ min x6_1.toNat 64) = ji6 := hji6
     have hji6z : x6_1 ≤ 64 → (a0 / 2 ^ x6_1.toNat) = ji6 := shr_small hji6
     by_cases c7 : (Go.bits .and .i64 (ji6) 1) = 1
     ·
      rw [if_pos c7] at H
      have c7b0 : ((Go.bits .and .i64 (ji6) 1) == 1) = true := beq_iff_eq.mpr c7
      have c7b1 : ((Go.bits .and .i64 (ji6) 1) != 1) = false := bne_eq_false_iff_eq.mpr c7
      clear c7
      by_cases c8 : x3_1.length < 17592186044416
      ·
       rw [if_pos c8] at H
       have LMc8 := asd c8
       clear c8
       obtain ⟨y104, hy104⟩ : ∃ y_ : List Int, y_ = (x3_1 ++ [x6_1]) := ⟨_, rfl⟩
       replace H : (impl_items.l0 k1 a0 y104 (wrap64 (x6_1 + 1))) = some r := by first | (rw [hy104]; with_reducible exact H) | (have H2_ := (Option.bind_some _ _).symm.trans H; rw [hy104]; with_reducible exact H2_) | (have H2_ := (Option.bind_some _ _).symm.trans H; with_reducible exact H2_) | with_reducible exact H | (rw [hy104]; exact H) | exact H
       have Ny104 := asd hy104
       clear hy104
       have H' := asd H
       clear H
       go_wp2_with (first | ((with_reducible refine gate_builtin (b := .append) (xs := #[.tmp 14, .tmp 16]) rfl ?_); at_builtin; refine Kd.R_append (Kd.int .i64) (w0 := w) w.heap.size rfl (.tmp 14) (.tmp 16) 22 3 (.int .i64 0) 8 rfl Try.underlying22 info3 rfl (by decide) (by omega) u3 x3_1 x6_1 [.int .i64 x6_1] (fun _ => True) (fun _ => False) rfl rfl ?aP (fun _ hk => hk.elim) ?aF ?aO ?aB ?aS ?aL ?_; (case aP => exact rfl); (case aB => exact (by repeat (first | (with_reducible first | exact HB.out | apply below_alloc | apply pw_below_drewN | apply below_drew1) | exact HB.out))); (case aF => exact (fun _ _ => trivial)); (case aO => exact (upR <| HO_3.out)); (case aS => exact (below_size (by repeat (first | (with_reducible first | exact HB.out | apply below_alloc | apply pw_below_drewN | apply below_drew1) | exact HB.out)))); (case aL => have := LMc8.out; omega); intro v105 w9 ho hb hg hat; rw [← Ny104.out] at ho; have n0_ := asd (hb); have n1_ := asd (ho); clear HB; clear HO_3; have HB := n0_; have HO106 := n1_; clear n0_ n1_; clear ho hb hg hat))
       go_roundg k1
       case measure => have := HK1.out; omega
       case rel => exact ⟨(y104), (wrap64 (x6_1 + 1)), (by first | rfl | (simp; done) | (simp [*]; done)), H', ⟨by have := HK1.out; omega⟩, ⟨by (with_reducible repeat (first | apply Kd.R_alloc | apply Kd.R_drewN | apply Kd.R_drew)); exact HO106.out⟩, ⟨by repeat (first | (with_reducible first | exact HB.out | apply below_alloc | apply pw_below_drewN | apply below_drew1) | exact HB.out)⟩⟩
      ·
       rw [if_neg c8] at H
       exact absurd H (by simp)
     ·
      rw [if_neg c7] at H
      have c7b0 : ((Go.bits .and .i64 (ji6) 1) == 1) = false := beq_eq_false_iff_ne.mpr c7
      have c7b1 : ((Go.bits .and .i64 (ji6) 1) != 1) = true := bne_iff_ne.mpr c7
      have H' := asd H
      clear H
      go_wp2
      go_roundg k1
      case measure => have := HK1.out; omega
      case rel => exact ⟨(x3_1), (wrap64 (x6_1 + 1)), (by first | rfl | (simp; done) | (simp [*]; done)), H', ⟨by have := HK1.out; omega⟩, ⟨by (with_reducible repeat (first | apply Kd.R_alloc | apply Kd.R_drewN | apply Kd.R_drew)); exact HO_3.out⟩, ⟨by repeat (first | (with_reducible first | exact HB.out | apply below_alloc | apply pw_below_drewN | apply below_drew1) | exact HB.out)⟩⟩
    ·
     rw [if_neg c5] at H
     exact absurd H (by simp)
   ·
    rw [if_neg c4] at H
    have c4b0 : decide (x6_1 < 7) = false := decide_eq_false c4
    clear c4
    obtain rfl := Option.some.inj H
    go_wp2
    go_ret
    exact ⟨_, by first | rfl | (simp [errW_none, errW_some] <;> rfl) | (simp [*, errW_none, errW_some] <;> rfl), by (with_reducible repeat (first | apply Kd.R_alloc | apply Kd.R_drewN | apply Kd.R_drew)); exact HO_3.out, by repeat (first | (with_reducible first | exact HB.out | apply below_alloc | apply pw_below_drewN | apply below_drew1) | exact HB.out)⟩

-- HAND with impl.items
theorem items_fin : ∀ x : Fin 128, impl_items.f 8 (x.val : Int) = some (itemsL (x.val : Int)) := by decide +kernel
theorem items_ok (x : Int) (h0 : 0 ≤ x) (h1 : x < 128) : impl_items.f 8 x = some (itemsL x) := by
  have h := items_fin ⟨x.toNat, by omega⟩
  have e : ((x.toNat : Nat) : Int) = x := by omega
  simp only [e] at h
  exact h

theorem itemsL_mem {x i : Int} (h : i ∈ itemsL x) : 0 ≤ i ∧ i < 7 ∧ x.toNat.testBit i.toNat = true := by
  simp only [itemsL, List.mem_map] at h
  obtain ⟨j, hj, rfl⟩ := h
  have := itemsN_lt hj
  exact ⟨by omega, by omega, by rw [Int.toNat_natCast]; exact itemsN_bit hj⟩

-- HAND with impl.items
theorem itemsE {x : Int} (h0 : 0 ≤ x) (h1 : x < 128) : Ev (fun k => impl_items.f k x) (itemsL x) := Ev.of (fun k => impl_items.mono x k) (items_ok x h0 h1)

-- HAND impl_family_outer: function 110
set_option maxHeartbeats 8000000 in
set_option maxRecDepth 100000 in
theorem impl_family_outer.walkC (ad0 : Addr) (F : List Bool) (x : Int) (w : World) (hF : FamC w ad0 F) (h0 : 0 ≤ x) (h1 : x < 128) :
    Calls Try.prog 110 #[.pointer (some ad0), .int .i64 x] w fun e w' => e = .returned (.int .i64 (outerF F x.toNat)) ∧ Drawn0 w w' := by
  obtain ⟨x, rfl⟩ := Int.eq_ofNat_of_zero_le h0
  have HX := Aside0.mk (show x < 128 by omega)
  have HF := Aside0.mk hF
  clear h0 h1 hF
  rw [Int.toNat_natCast]
  go_enter Try.func110, Try.ntmps110
  go_wp2
  go_loopw [5, 7] (fun v5 v7 wr => ∃ (i : Int) (a : Nat), Aside0 (0 ≤ i ∧ i ≤ 7) ∧ v7 = .int .i64 i ∧ Aside0 (a < 128) ∧ v5 = .int .i64 a ∧ Aside0 (outK F x i.toNat = a) ∧ Drawn0 w wr) (fun _ v7 _ => 7 - (intOf v7).toNat)
  case atStart => exact ⟨0, 0, ⟨by decide⟩, rfl, ⟨by decide⟩, rfl, ⟨rfl⟩, Drawn0.refl _⟩
  case round =>
    obtain ⟨i, a, hi, rfl, ha, rfl, hf, ⟨n, rfl⟩⟩ := hrel
    by_cases hlt : i < 7
    · have i0 := hi.out.1
      have HO := Aside0.mk (bits_or a (2 ^ i.toNat) (lt63 ha.out) (lt63 (pow_lt128 i0 hlt)))
      have HOL := Aside0.mk (Nat.or_lt_two_pow (n := 7) ha.out (pow_lt128 i0 hlt))
      have HS := Aside0.mk (show outK F x (i + 1).toNat = if (!x.testBit i.toNat && F.getD (x ||| 2 ^ i.toNat) false) = true then a ||| 2 ^ i.toNat else a by rw [show (i + 1).toNat = i.toNat + 1 by omega, outK_succ, hf.out])
      obtain ⟨z, z0, z1, hz, hz2⟩ := and_one x i i0 (by omega) HX.out
      obtain ⟨r1, r2⟩ := shr_ways hz (by omega)
      clear hz
      by_cases hb : x.testBit i.toNat = true
      · rw [if_pos hb] at hz2
        rw [hb] at HS
        go_wp2
        go_quiet (fail)
        go_wp2
        go_roundw
        case rel => exact ⟨i + 1, a, ⟨by have := hi.out; omega⟩, by first | rfl | go_num, ha, rfl, ⟨by simpa using HS.out⟩, by repeat (first | exact Drawn0.refl _ | apply Drawn0.step)⟩
        case measure => simp [intOf]; omega
      · have hb' : x.testBit i.toNat = false := by simpa using hb
        rw [if_neg hb] at hz2
        rw [hb'] at HS
        clear hb hb'
        have hy := bits_or x (2 ^ i.toNat) (lt63 HX.out) (lt63 (pow_lt128 i0 hlt))
        have hylt : x ||| 2 ^ i.toNat < 128 := Nat.or_lt_two_pow (n := 7) HX.out (pow_lt128 i0 hlt)
        obtain ⟨j, hj⟩ : ∃ j, j = ((2 ^ i.toNat : Nat) : Int) := ⟨_, rfl⟩
        rw [← hj] at hy HO
        obtain ⟨s1, s2, s3, s4, s5, s6, s7, s8⟩ := shl_ways ((shl_nat i0 (by omega)).trans hj.symm) (by omega)
        clear hj
        obtain ⟨y, hY⟩ : ∃ y : Int, y = (x ||| 2 ^ i.toNat : Nat) := ⟨_, rfl⟩
        have y0 : 0 ≤ y := by omega
        have y1 : y < 128 := by omega
        have hYn : x ||| 2 ^ i.toNat = y.toNat := by omega
        rw [← hY] at hy
        rw [hYn] at HS
        clear hY hYn hylt
        have hfc := HF.out.at_ y y0 y1
        obtain ⟨v, hv⟩ : ∃ v, v = F.getD y.toNat false := ⟨_, rfl⟩
        rw [← hv] at hfc HS
        clear hv
        cases v
        all_goals
          go_wp2
          go_quiet (fail)
          go_wp2
        · go_roundw
          case rel => exact ⟨i + 1, a, ⟨by have := hi.out; omega⟩, by first | rfl | go_num, ha, rfl, ⟨by simpa using HS.out⟩, by repeat (first | exact Drawn0.refl _ | apply Drawn0.step)⟩
          case measure => simp [intOf]; omega
        · go_roundw
          case rel => exact ⟨i + 1, a ||| 2 ^ i.toNat, ⟨by have := hi.out; omega⟩, by first | rfl | go_num, HOL, by first | rfl | (rw [← HO.out]), ⟨by simpa using HS.out⟩, by repeat (first | exact Drawn0.refl _ | apply Drawn0.step)⟩
          case measure => simp [intOf]; omega
    · have HW := Aside0.mk (show (a : Int) = outerF F x by rw [← outK_7, ← hf.out, show i.toNat = 7 by have := hi.out; omega])
      clear hf
      go_wp2
      go_ret
      exact ⟨by have := HW.out; first | (rw [this]; done) | (simp; omega) | omega, by repeat (first | exact Drawn0.refl _ | apply Drawn0.step)⟩
theorem impl_family_outer.walk (b : Nat) (F : List Bool) (x : Int) (w : World) (hF : FamAt w b F) (h0 : 0 ≤ x) (h1 : x < 128) :
    Calls Try.prog 110 #[.pointer (some ⟨b, 0, none⟩), .int .i64 x] w fun e w' => e = .returned (.int .i64 (outerF F x.toNat)) ∧ Drawn0 w w' := impl_family_outer.walkC ⟨b, 0, none⟩ F x w hF.c h0 h1
def impl_family_outer.f (l0 : List Bool) (a1 : Int) : Option Int := if l0.length = 128 ∧ 0 ≤ a1 ∧ a1 < 128 then some (outerF l0 a1.toNat) else none
theorem impl_family_outer.calls (A0 : Option Addr) (c0 : Nat) (l0 : List Bool) (a1 : Int) (r : Int) (w : World) (hr0 : Kd.C Kd.bool w A0 l0.length l0) (hc0 : l0.length ≤ c0) (h : impl_family_outer.f l0 a1 = some r) :
    Calls Try.prog 110 #[.pointer A0, .int .i64 a1] w fun e w' => e = .returned (.int .i64 r) ∧ Drawn0 w w' := by
  unfold impl_family_outer.f at h
  split at h
  · rename_i hl
    have e := Option.some.inj h
    subst e
    obtain ⟨ad, rfl, HF⟩ := FamC.of_reads hr0 hl.1
    exact impl_family_outer.walkC ad l0 a1 w HF hl.2.1 hl.2.2
  · cases h

-- HAND with (*impl.family).outer
theorem outer_f (F : List Bool) (hF : F.length = 128) (x : Int) (h0 : 0 ≤ x) (h1 : x < 128) : impl_family_outer.f F x = some (outerF F x.toNat : Int) := by
  unfold impl_family_outer.f
  rw [if_pos ⟨hF, h0, h1⟩]

-- HAND impl_Space_words_1: function 111
/-- What is left of some items, each put at the end of a word. -/
def loopF {σ : Type} (rec_ : σ → Bool → List Int → Int → Option (σ × Bool)) (ws : List Int) (set : Int) : List Int → σ → Bool → Option (σ × Bool)
 | [], st, g => some (st, g)
 | i :: I, st, g => if g = true then (if 0 ≤ i ∧ ws.length < 17592186044416 then (rec_ st g (ws ++ [i]) (Go.bits .or .i64 set (shl .i64 1 i))).bind fun r => loopF rec_ ws set I r.1 r.2 else none) else some (st, g)
/-- A visit to all words that go on. (Fuel; what the visitor keeps; whether it goes on; a word; its set.) -/
def wordsW {σ : Type} (all : Int) (F : List Bool) (D : σ → List Int → Option (σ × Bool)) : Nat → σ → Bool → List Int → Int → Option (σ × Bool)
 | 0, _, _, _, _ => none
 | k + 1, st, g, ws, set => if set = all then D st ws else (impl_family_outer.f F set).bind fun m => (impl_items.f k m).bind fun I => loopF (fun st g ws set => wordsW all F D k st g ws set) ws set I st g
theorem loopF_mono {σ : Type} {r1 r2 : σ → Bool → List Int → Int → Option (σ × Bool)} (h : ∀ st g ws set, LeO (r1 st g ws set) (r2 st g ws set)) (ws : List Int) (set : Int) : ∀ (I : List Int) (st : σ) (g : Bool), LeO (loopF r1 ws set I st g) (loopF r2 ws set I st g)
 | [], _, _ => LeO.refl _
 | i :: I, st, g => by
  unfold loopF
  exact LeO.ite (LeO.ite (LeO.bind (h _ _ _ _) fun r => loopF_mono h ws set I r.1 r.2) (LeO.refl _)) (LeO.refl _)
theorem wordsW_mono {σ : Type} {all : Int} {F : List Bool} {D1 D2 : σ → List Int → Option (σ × Bool)} (hD : ∀ s ws, LeO (D1 s ws) (D2 s ws)) : ∀ (k : Nat) (st : σ) (g : Bool) (ws : List Int) (set : Int), LeO (wordsW all F D1 k st g ws set) (wordsW all F D2 (k + 1) st g ws set)
 | 0, _, _, _, _ => LeO.none _
 | k + 1, st, g, ws, set => by
  show LeO (if set = all then D1 st ws else (impl_family_outer.f F set).bind fun m => (impl_items.f k m).bind fun I => loopF (fun st g ws set => wordsW all F D1 k st g ws set) ws set I st g) (if set = all then D2 st ws else (impl_family_outer.f F set).bind fun m => (impl_items.f (k + 1) m).bind fun I => loopF (fun st g ws set => wordsW all F D2 (k + 1) st g ws set) ws set I st g)
  exact LeO.ite (hD _ _) (LeO.bind (LeO.refl _) fun m => LeO.bind (impl_items.mono _ k) fun I => loopF_mono (wordsW_mono hD k) _ _ I _ _)
/-- A visitor: what it keeps, what it answers. -/
structure CBok {σ : Type} (I : World → (Nat → Prop) → σ → Prop) (D : σ → List Int → Option (σ × Bool)) (fd : Nat) (cd : Array Value) (wb : World) : Prop where
 bound : ∀ W C st, I W C st → ∀ k, C k → k < W.heap.size
 stay : ∀ W W' C st, I W C st → (∀ k, k < W.heap.size → C k → W'.heap[k]? = W.heap[k]?) → W.heap.size ≤ W'.heap.size → I W' C st
 enter : ∀ args w, (callFunc fd args).run Try.prog w = .ok (.enter fd args) w
 run : ∀ W C st A c xs r, I W C st → Below wb.heap.size wb W → Kd.C (Kd.int .i64) W A xs.length xs → xs.length ≤ c → D st xs = some r → Calls Try.prog fd (#[.slice A xs.length c] ++ cd) W fun e W' => e = .returned (.bool r.2) ∧ ∃ C', I W' C' r.1 ∧ (∀ k, C' k → C k ∨ W.heap.size ≤ k) ∧ Kept W W' C ∧ Below wb.heap.size wb W'
theorem kept_blk {w w' : World} {S : Nat → Prop} {g : Nat} {o : Obj} (h : w.heap[g]? = some o) (hK : Kept w w' S) (hg : ¬ S g) : w'.heap[g]? = some o := (hK.2 g (blk_lt h) hg).trans h
/-- The variables in memory of a visit. -/
structure WdS {σ : Type} (I : World → (Nat → Prop) → σ → Prop) (wb w : World) (C : Nat → Prop) (gs gd gw gg gf gn bf : Nat) (n : Int) (A : Option Addr) (c : Nat) (l : List Int) (vd : Value) (F : List Bool) (g : Bool) (u v : Value) (ws : List Int) (st : σ) : Prop where
 bel : Below wb.heap.size wb w
 b1 : w.heap[gs]? = some (.cells #[.int .i64 n, .slice A l.length c] 28 (0, 0))
 b2 : w.heap[gd]? = some (.cells #[vd] 75 (0, 0))
 b3 : w.heap[gw]? = some (.cells #[u] 22 (0, 0))
 b4 : w.heap[gg]? = some (.cells #[.bool g] 4 (0, 0))
 b5 : w.heap[gf]? = some (.cells #[.pointer (some ⟨bf, 0, none⟩)] 105 (0, 0))
 b6 : w.heap[gn]? = some (.cells #[.func (.func 111) #[] #[.pointer (some ⟨gs, 0, none⟩), .pointer (some ⟨gd, 0, none⟩), .pointer (some ⟨gw, 0, none⟩), .pointer (some ⟨gg, 0, none⟩), .pointer (some ⟨gf, 0, none⟩), .pointer (some ⟨gn, 0, none⟩)]] 114 (0, 0))
 fam : FamAt w bf F
 row : Kd.R (Kd.int .i64) 3 w wb.heap.size (fun k => ¬ C k) v ws
 n1 : ¬ C gs
 n2 : ¬ C gd
 n3 : ¬ C gw
 n4 : ¬ C gg
 n5 : ¬ C gf
 n6 : ¬ C gn
 nf : ¬ C bf
 w3 : wb.heap.size ≤ gw
 w4 : wb.heap.size ≤ gg
 inv : I w C st
section
variable {σ : Type} {I : World → (Nat → Prop) → σ → Prop} {D : σ → List Int → Option (σ × Bool)} {fd : Nat} {cd : Array Value} {wb w w' : World} {C C' S : Nat → Prop} {gs gd gw gg gf gn bf : Nat} {n : Int} {A : Option Addr} {c : Nat} {l : List Int} {vd : Value} {F : List Bool} {g : Bool} {u v : Value} {ws : List Int} {st st' : σ}
theorem WdS.move (h : WdS I wb w C gs gd gw gg gf gn bf n A c l vd F g u v ws st) (hb : Below wb.heap.size wb w') (hK : Kept w w' S) (hS : ∀ k, S k → C k) (hC' : ∀ k, C' k → C k ∨ w.heap.size ≤ k) (hi : I w' C' st') : WdS I wb w' C' gs gd gw gg gf gn bf n A c l vd F g u v ws st' := by
 have nn : ∀ {k : Nat} {o : Obj}, w.heap[k]? = some o → ¬ C k → ¬ C' k := fun hk hn hc => by
  rcases hC' _ hc with h1 | h1
  ·
   exact hn h1
  ·
   have := blk_lt hk; omega
 have kb : ∀ {k : Nat} {o : Obj}, w.heap[k]? = some o → ¬ C k → w'.heap[k]? = some o := fun hk hn => kept_blk hk hK (fun hs => hn (hS _ hs))
 have hr := Kd.R_mono (Kd.R_bound h.row) (ok' := fun k => ¬ C k ∧ k < w.heap.size) (fun k hk => ⟨hk.1, hk.2.2.1⟩)
 exact ⟨hb, kb h.b1 h.n1, kb h.b2 h.n2, kb h.b3 h.n3, kb h.b4 h.n4, kb h.b5 h.n5, kb h.b6 h.n6, ⟨h.fam.len, kb h.fam.blk h.nf⟩, Kd.R_mono (Kd.R_step hr (fun k hk hlt => hK.2 k hlt (fun hs => hk.1 (hS _ hs)))) (fun k hk hc => by
  rcases hC' _ hc with h1 | h1
  ·
   exact hk.1 h1
  ·
   have := hk.2; omega), nn h.b1 h.n1, nn h.b2 h.n2, nn h.b3 h.n3, nn h.b4 h.n4, nn h.b5 h.n5, nn h.b6 h.n6, nn h.fam.blk h.nf, h.w3, h.w4, hi⟩
theorem WdS.below (hD : CBok I D fd cd wb) (h : WdS I wb w C gs gd gw gg gf gn bf n A c l vd F g u v ws st) (hb : Below w.heap.size w w') : WdS I wb w' C gs gd gw gg gf gn bf n A c l vd F g u v ws st :=
 h.move (S := fun _ => False) (below_step h.bel hb) (Kept.of_below hb _) (fun _ hk => hk.elim) (fun _ hk => .inl hk) (hD.stay _ _ _ _ h.inv (fun k hk _ => hb.block k hk) hb.size)
theorem WdS.drewN (hD : CBok I D fd cd wb) (h : WdS I wb w C gs gd gw gg gf gn bf n A c l vd F g u v ws st) (m : Nat) : WdS I wb (w.drewN m) C gs gd gw gg gf gn bf n A c l vd F g u v ws st := h.below hD (pw_below_drewN (Below.refl _ _) m)
theorem WdS.grown (hD : CBok I D fd cd wb) (h : WdS I wb w C gs gd gw gg gf gn bf n A c l vd F g u v ws st) {v1 : Value} {ws1 : List Int} (hb : Below wb.heap.size wb w') (hg : w.grownBy w' v.ownBlock) (ho : Kd.R (Kd.int .i64) 3 w' wb.heap.size (fun k => ¬ C k) v1 ws1) : WdS I wb w' C gs gd gw gg gf gn bf n A c l vd F g u v1 ws1 st := by
 have hf : some bf ≠ v.ownBlock := Kd.R_ne h.row h.fam.blk (by decide)
 refine ⟨hb, blk_grown h.b1 hg (Kd.R_ne h.row h.b1 (by decide)), blk_grown h.b2 hg (Kd.R_ne h.row h.b2 (by decide)), blk_grown h.b3 hg (Kd.R_ne h.row h.b3 (by decide)), blk_grown h.b4 hg (Kd.R_ne h.row h.b4 (by decide)), blk_grown h.b5 hg (Kd.R_ne h.row h.b5 (by decide)), blk_grown h.b6 hg (Kd.R_ne h.row h.b6 (by decide)), ⟨h.fam.len, blk_grown h.fam.blk hg hf⟩, ho, h.n1, h.n2, h.n3, h.n4, h.n5, h.n6, h.nf, h.w3, h.w4, ?_⟩
 exact hD.stay _ _ _ _ h.inv (fun k hk hc => hg.block k hk (fun e => h.row.1 k e.symm hc)) hg.size
theorem WdS.setW (hD : CBok I D fd cd wb) (h : WdS I wb w C gs gd gw gg gf gn bf n A c l vd F g u v ws st) (x : Value) : WdS I wb (w.setCell ⟨gw, 0, none⟩ x) C gs gd gw gg gf gn bf n A c l vd F g x v ws st :=
 ⟨h.bel.setCell h.w3 _, blk_far h.b1 (p := ⟨gw, 0, none⟩) (blk_ne h.b1 h.b3 (by decide)) _, blk_far h.b2 (p := ⟨gw, 0, none⟩) (blk_ne h.b2 h.b3 (by decide)) _, blk_put h.b3 0 x rfl, blk_far h.b4 (p := ⟨gw, 0, none⟩) (blk_ne h.b4 h.b3 (by decide)) _, blk_far h.b5 (p := ⟨gw, 0, none⟩) (blk_ne h.b5 h.b3 (by decide)) _, blk_far h.b6 (p := ⟨gw, 0, none⟩) (blk_ne h.b6 h.b3 (by decide)) _, h.fam.far (p := ⟨gw, 0, none⟩) (blk_ne h.fam.blk h.b3 (by decide)) _, Kd.R_set h.row h.b3 (by decide) 0 x, h.n1, h.n2, h.n3, h.n4, h.n5, h.n6, h.nf, h.w3, h.w4,
  hD.stay _ _ _ _ h.inv (fun k hk hc => Below.heap_setCell w ⟨gw, 0, none⟩ x k (fun e => h.n3 (show C gw from (show k = gw from e) ▸ hc))) (by rw [World.size_setCell]; exact Nat.le_refl _)⟩
theorem WdS.setG (hD : CBok I D fd cd wb) (h : WdS I wb w C gs gd gw gg gf gn bf n A c l vd F g u v ws st) (x : Bool) : WdS I wb (w.setCell ⟨gg, 0, none⟩ (.bool x)) C gs gd gw gg gf gn bf n A c l vd F x u v ws st :=
 ⟨h.bel.setCell h.w4 _, blk_far h.b1 (p := ⟨gg, 0, none⟩) (blk_ne h.b1 h.b4 (by decide)) _, blk_far h.b2 (p := ⟨gg, 0, none⟩) (blk_ne h.b2 h.b4 (by decide)) _, blk_far h.b3 (p := ⟨gg, 0, none⟩) (blk_ne h.b3 h.b4 (by decide)) _, blk_put h.b4 0 (.bool x) rfl, blk_far h.b5 (p := ⟨gg, 0, none⟩) (blk_ne h.b5 h.b4 (by decide)) _, blk_far h.b6 (p := ⟨gg, 0, none⟩) (blk_ne h.b6 h.b4 (by decide)) _, h.fam.far (p := ⟨gg, 0, none⟩) (blk_ne h.fam.blk h.b4 (by decide)) _, Kd.R_set h.row h.b4 (by decide) 0 (.bool x), h.n1, h.n2, h.n3, h.n4, h.n5, h.n6, h.nf, h.w3, h.w4,
  hD.stay _ _ _ _ h.inv (fun k hk hc => Below.heap_setCell w ⟨gg, 0, none⟩ (.bool x) k (fun e => h.n4 (show C gg from (show k = gg from e) ▸ hc))) (by rw [World.size_setCell]; exact Nat.le_refl _)⟩
theorem WdS.take (h : WdS I wb w C gs gd gw gg gf gn bf n A c l vd F g u v ws st) {v1 : Value} {ws1 : List Int} (ho : Kd.R (Kd.int .i64) 3 w wb.heap.size (fun k => ¬ C k) v1 ws1) : WdS I wb w C gs gd gw gg gf gn bf n A c l vd F g u v1 ws1 st :=
 ⟨h.bel, h.b1, h.b2, h.b3, h.b4, h.b5, h.b6, h.fam, ho, h.n1, h.n2, h.n3, h.n4, h.n5, h.n6, h.nf, h.w3, h.w4, h.inv⟩
end
set_option maxHeartbeats 4000000 in
set_option maxRecDepth 100000 in
theorem impl_Space_words_1.calls {σ : Type} (I : World → (Nat → Prop) → σ → Prop) (D : σ → List Int → Option (σ × Bool)) (fd : Nat) (cd : Array Value) (wb : World) (hD : CBok I D fd cd wb) (gs gd gw gg gf gn bf : Nat) (n : Int) (A : Option Addr) (c : Nat) (l : List Int) (F : List Bool) (all : Int) (hl : Kd.C (Kd.int .i64) wb A l.length l) (hc : l.length ≤ c) (hall : impl_Space_all.f n l = some all) :
  ∀ (k : Nat) (st : σ) (g : Bool) (ws : List Int) (set : Int) (r : σ × Bool) (C : Nat → Prop) (v : Value) (w : World) (hS : WdS I wb w C gs gd gw gg gf gn bf n A c l (.func (.func fd) #[] cd) F g v v ws st) (h : wordsW all F D k st g ws set = some r),
  Calls Try.prog 111 #[.int .i64 set, .pointer (some ⟨gs, 0, none⟩), .pointer (some ⟨gd, 0, none⟩), .pointer (some ⟨gw, 0, none⟩), .pointer (some ⟨gg, 0, none⟩), .pointer (some ⟨gf, 0, none⟩), .pointer (some ⟨gn, 0, none⟩)] w fun e w' => e = .returned (.tuple #[]) ∧ ∃ (C' : Nat → Prop) (v' : Value), WdS I wb w' C' gs gd gw gg gf gn bf n A c l (.func (.func fd) #[] cd) F r.2 v' v' ws r.1 ∧ Kept w w' (fun k => C k ∨ k = gw ∨ k = gg ∨ some k = v.ownBlock) ∧ (∀ k, C' k → C k ∨ w.heap.size ≤ k) ∧ (v'.ownBlock = v.ownBlock ∨ ∃ b, v'.ownBlock = some b ∧ w.heap.size ≤ b) := by
 have hu := Try.underlying28
 have HL := asd hl
 have HC := asd hc
 have HAL := asd hall
 have HD := asd hD
 have eg := hD.enter
 clear hl hc hall hD
 intro k
 induction k with
 | zero =>
  intro st g ws set r C v w hS h
  cases h
 | succ k ih =>
  intro st g ws set r C v w hS h
  have IH := asd ih
  have HS := asd hS
  obtain ⟨Av, cv, rfl⟩ := Kd.R_slice hS.row
  have q1 : w.cell? ⟨gs, 0, none⟩ = some (.int .i64 n) := (blk_cell hS.b1 0).trans rfl
  have q2 : w.cell? ⟨gs, 1, none⟩ = some (.slice A l.length c) := (blk_cell hS.b1 1).trans rfl
  clear ih hS
  unfold wordsW at h
  by_cases c1 : set = all
  ·
   rw [if_pos c1] at h
   have H := asd h
   have c1b : (set == all) = true := beq_iff_eq.mpr c1
   clear h c1
   go_enter Try.func111, Try.ntmps111
   go_wp2_with (first | (go_at_call 103; (with_reducible refine (impl_Space_all.calls n _ _ l all _ ?sa ?sb HAL.out).mono ?_); (case sa => exact Kd.C_below HL.out HS.out.bel); (case sb => exact HC.out); rintro e W3 ⟨rfl, hb3⟩; have HS3 := asd (HS.out.below HD.out hb3); have HB3 := asd hb3; have q4 : W3.cell? ⟨gd, 0, none⟩ = some (.func (.func fd) #[] cd) := (blk_cell HS3.out.b2 0).trans rfl; have q5 : W3.cell? ⟨gw, 0, none⟩ = some (.slice Av ws.length cv) := (blk_cell HS3.out.b3 0).trans rfl; clear q1 q2 hb3) | (go_at_fn fd; refine (HD.out.run _ C st Av cv ws r HS3.out.inv HS3.out.bel (Kd.R_reads' HS3.out.row).2.2 (Kd.R_reads' HS3.out.row).2.1 H.out).mono ?_; rintro e W4 ⟨rfl, C', hi, hC', hK, hB4⟩; have HS4 := asd (HS3.out.move hB4 hK (fun _ hk => hk) hC' hi); have HK4 := asd hK; have HC4 := asd hC'; have q6 : W4.cell? ⟨gg, 0, none⟩ = some (.bool g) := (blk_cell HS4.out.b4 0).trans rfl; have f6 := blk_frozen HS4.out.b4 0; clear hi hK hC' hB4))
   ((try simp only [Exit.inBlock, Exit.then]); first | refine bodyPost_ret (results_none rfl _ _ _) rfl ?_ | refine bodyPost_end (results_none rfl _ _ _) rfl ?_)
   refine ⟨rfl, C', _, HS4.out.setG HD.out r.2, ?_, fun k hk => ?_, .inl rfl⟩
   ·
    exact (((Kept.of_below HB3.out (fun k => C k ∨ k = gw ∨ k = gg ∨ some k = (Value.slice Av ws.length cv).ownBlock)).then_ HK4.out (fun _ hk => .inl (.inl hk))).setCell (p := ⟨gg, 0, none⟩) (.inl (.inr (.inr (.inl rfl)))) _)
   ·
    rcases HC4.out k hk with h1 | h1
    ·
     exact .inl h1
    ·
     exact .inr (Nat.le_trans HB3.out.size h1)
  ·
   rw [if_neg c1] at h
   obtain ⟨m, hm, h⟩ := Option.bind_eq_some_iff.1 h
   obtain ⟨L, hL, h⟩ := Option.bind_eq_some_iff.1 h
   have H' := asd h
   have HM := asd hm
   have HI := asd hL
   have c1b : (set == all) = false := beq_eq_false_iff_ne.mpr c1
   clear h c1 hm hL
   go_enter Try.func111, Try.ntmps111
   go_wp2_with (first | (go_at_call 103; (with_reducible refine (impl_Space_all.calls n _ _ l all _ ?sa ?sb HAL.out).mono ?_); (case sa => exact Kd.C_below HL.out HS.out.bel); (case sb => exact HC.out); rintro e W3 ⟨rfl, hb3⟩; have HS3 := asd (HS.out.below HD.out hb3); have HB3 := asd hb3; have q4 : W3.cell? ⟨gf, 0, none⟩ = some (.pointer (some ⟨bf, 0, none⟩)) := (blk_cell HS3.out.b5 0).trans rfl; clear q1 q2 hb3) | (go_at_call 110; (with_reducible refine (impl_family_outer.calls (some ⟨bf, 0, none⟩) 128 F set m _ ?sc ?sd HM.out).mono ?_); (case sc => exact (Kd.R_reads' (HS3.out.fam.own (Nat.zero_le _))).2.2); (case sd => exact (Kd.R_reads' (HS3.out.fam.own (Nat.zero_le _))).2.1); rintro e W4 ⟨rfl, ⟨nd, rfl⟩⟩; have HS4 := asd (HS3.out.drewN HD.out nd); have HB4 : Aside0 (Below w.heap.size w (World.drewN W3 nd)) := ⟨pw_below_drewN HB3.out nd⟩; generalize World.drewN W3 nd = W4 at *; clear q4) | (go_at_call 109; (with_reducible refine (impl_items.calls k m L _ HI.out).mono ?_); rintro e W5 ⟨vI, rfl, hR, hb5⟩; have HS5 := asd (HS4.out.below HD.out hb5); have HB5 := asd (below_step HB4.out hb5); obtain ⟨AI, cI, rfl⟩ := Kd.R_slice hR; have HIT := asd (Kd.R_tight rfl hR); have HIB := asd (Kd.R_base hR); clear hR hb5))
   have HNI : Aside0 (∀ k, some k = (Value.slice AI L.length cI).ownBlock → ¬ (C k ∨ k = gw ∨ k = gg ∨ some k = (Value.slice Av ws.length cv).ownBlock)) := ⟨fun k hk hh => by
    have h1 := HIB.out k hk.symm
    rcases hh with hh | hh | hh | hh
    ·
     have := HD.out.bound _ _ _ HS4.out.inv k hh; omega
    ·
     have := blk_lt HS4.out.b3; omega
    ·
     have := blk_lt HS4.out.b4; omega
    ·
     have := Kd.R_lt HS4.out.row k hh.symm; omega⟩
   clear HS3 HB3 HS4 HB4 HIB
   go_loopg [22] L.length (fun kq v22 wr => ∃ (j : Nat) (g1 : Bool) (st1 : σ) (C1 : Nat → Prop) (v1 : Value), v22 = .int .i64 j ∧ Aside0 (j ≤ L.length ∧ L.length - j ≤ kq) ∧ Aside0 (loopF (fun st g ws set => wordsW all F D k st g ws set) ws set (L.drop j) st1 g1 = some r) ∧ Aside0 (WdS I wb wr C1 gs gd gw gg gf gn bf n A c l (.func (.func fd) #[] cd) F g1 v1 v1 ws st1) ∧ Aside0 (Kept W5 wr (fun k => C k ∨ k = gw ∨ k = gg ∨ some k = (Value.slice Av ws.length cv).ownBlock)) ∧ Aside0 (∀ k, C1 k → C k ∨ W5.heap.size ≤ k) ∧ Aside0 (v1.ownBlock = (Value.slice Av ws.length cv).ownBlock ∨ ∃ b, v1.ownBlock = some b ∧ W5.heap.size ≤ b))
   case atStart => exact ⟨0, g, st, C, _, rfl, ⟨Nat.zero_le _, Nat.le_refl _⟩, ⟨H'.out⟩, HS5, ⟨Kept.refl _ _⟩, ⟨fun k hk => .inl hk⟩, ⟨.inl rfl⟩⟩
   case round =>
    clear H' HS5 HS
    obtain ⟨j, g1, st1, C1, v1, rfl, hj, HA, HS, HK, HC1, HV⟩ := hrel
    obtain ⟨hjl, hgg⟩ := hj.out
    clear hj
    obtain ⟨A1, cc1, rfl⟩ := Kd.R_slice HS.out.row
    have HIR := asd (Kd.R_reads' (Kd.R_step HIT.out (fun k hk hlt => HK.out.2 k hlt (HNI.out k hk)))).2.2
    have hmx := Kd.C_max HIR.out
    by_cases hlt : j < L.length
    ·
     have hltz : (j : Int) < (L.length : Int) := by omega
     have H := HA.out
     clear HA
     rw [List.drop_eq_getElem_cons hlt, ← rd_get hlt] at H
     obtain ⟨ad, e, hcx⟩ := Kd.at_int HIR.out (j : Int) (by omega) hltz
     cases e
     rw [Int.toNat_natCast] at hcx
     generalize rd L (j : Int) = x at *
     unfold loopF at H
     have q4 : wr.cell? ⟨gg, 0, none⟩ = some (.bool g1) := (blk_cell HS.out.b4 0).trans rfl
     cases g1 with
     | false =>
      rw [if_neg (by decide)] at H
      obtain rfl := Option.some.inj H
      clear H
      go_wp2
      ((try simp only [Exit.inBlock, Exit.then]); first | refine bodyPost_ret (results_none rfl _ _ _) rfl ?_ | refine bodyPost_end (results_none rfl _ _ _) rfl ?_)
      refine ⟨rfl, C1, _, HS.out, (Kept.of_below HB5.out _).then_ HK.out (fun _ hk => .inl hk), fun k hk => ?_, ?_⟩
      ·
       rcases HC1.out k hk with h1 | h1
       ·
        exact .inl h1
       ·
        exact .inr (Nat.le_trans HB5.out.size h1)
      ·
       rcases HV.out with h1 | ⟨b, h1, h2⟩
       ·
        exact .inl h1
       ·
        exact .inr ⟨b, h1, Nat.le_trans HB5.out.size h2⟩
     | true =>
      rw [if_pos rfl] at H
      by_cases hx : 0 ≤ x ∧ ws.length < 17592186044416
      ·
       rw [if_pos hx] at H
       obtain ⟨hx0, hwl⟩ := hx
       obtain ⟨r1, hrec, H⟩ := Option.bind_eq_some_iff.1 H
       have HREC := asd hrec
       have HH := asd H
       have HWL := asd hwl
       have hx0b : decide (0 ≤ x) = true := decide_eq_true hx0
       obtain ⟨ws2, hws2⟩ : ∃ y, y = ws ++ [x] := ⟨_, rfl⟩
       have HN : Aside0 (ws2.length = ws.length + 1) := ⟨by rw [hws2, List.length_append, List.length_singleton]⟩
       have HTK : Aside0 (ws2.take ws.length = ws) := ⟨by rw [hws2, List.take_left' rfl]⟩
       have HW2 := asd hws2
       obtain ⟨sx, hsx⟩ : ∃ y, y = shl .i64 1 x := ⟨_, rfl⟩
       have sA : IntKind.i64.wrap (1 * 2 ^ min x.toNat 64) = sx := hsx.symm
       have sB : IntKind.i64.wrap (2 ^ min x.toNat 64) = sx := by rw [← sA, Int.one_mul]
       have sC : wrap64 (1 * 2 ^ min x.toNat 64) = sx := (i64_w _).symm.trans sA
       have sD : wrap64 (2 ^ min x.toNat 64) = sx := (i64_w _).symm.trans sB
       have HREC : Aside0 (wordsW all F D k st1 true ws2 (Go.bits .or .i64 set sx) = some r1) := ⟨by rw [HW2.out, hsx]; exact HREC.out⟩
       clear hsx
       clear H hrec hwl hws2
       have q5 : wr.cell? ⟨gw, 0, none⟩ = some (.slice A1 ws.length cc1) := (blk_cell HS.out.b3 0).trans rfl
       have f5 := blk_frozen HS.out.b3 0
       go_wp2_with (first | ((with_reducible refine gate_builtin (b := .append) (xs := #[.tmp 28, .tmp 30]) rfl ?_); at_builtin; refine Kd.R_append (Kd.int .i64) (w0 := wb) wb.heap.size rfl (.tmp 28) (.tmp 30) 22 3 (.int .i64 0) 8 rfl Try.underlying22 info3 rfl (by decide) (by omega) (.slice A1 ws.length cc1) ws x [.int .i64 x] (fun k => ¬ C1 k) (fun _ => False) rfl rfl ?aP (fun _ hk => hk.elim) ?aF ?aO ?aB ?aS ?aL ?_; (case aP => exact rfl); (case aB => exact below_step HS.out.bel (by repeat (first | exact Below.refl _ _ | apply below_alloc | apply pw_below_drewN | apply below_drew1))); (case aF => exact (fun k hk hc => by have h1 := HD.out.bound _ _ _ HS.out.inv k hc; have h2 : wr.heap.size ≤ _ := (show Below wr.heap.size wr _ from by repeat (first | exact Below.refl _ _ | apply below_alloc | apply pw_below_drewN | apply below_drew1)).size; exact absurd (Nat.lt_of_lt_of_le h1 (Nat.le_trans h2 hk)) (Nat.lt_irrefl _))); (case aO => exact (upR <| HS.out.row)); (case aS => exact below_size (below_step HS.out.bel (by repeat (first | exact Below.refl _ _ | apply below_alloc | apply pw_below_drewN | apply below_drew1)))); (case aL => have := HWL.out; omega); intro v2 w12 ho hb hg hat; rw [← HW2.out] at ho; obtain ⟨A2, cc2, e2⟩ := Kd.R_slice ho; subst e2; have HB6 := asd (show Below wr.heap.size wr _ from by repeat (first | exact Below.refl _ _ | apply below_alloc | apply pw_below_drewN | apply below_drew1)); have HS2 := asd ((HS.out.below HD.out HB6.out).grown HD.out hb hg ho); have HG := asd hg; have HAT := asd hat; clear q5 f5 q4; have q5 : w12.cell? ⟨gw, 0, none⟩ = some (.slice A1 ws.length cc1) := (blk_cell HS2.out.b3 0).trans rfl; have f5 := blk_frozen HS2.out.b3 0; clear ho hb hg hat))
       have HS3 := asd (HS2.out.setW HD.out (.slice A2 ws2.length cc2))
       have HK6 := asd ((Kept.of_grown HG.out (Kept.of_below HB6.out (fun k => C1 k ∨ k = gw ∨ k = gg ∨ some k = (Value.slice A1 ws.length cc1).ownBlock)) (fun k hk => .inl (.inr (.inr (.inr hk.symm))))).setCell (p := ⟨gw, 0, none⟩) (.inl (.inr (.inl rfl))) (.slice A2 ws2.length cc2))
       have HAT : Aside0 ((Value.slice A2 ws2.length cc2).ownBlock = (Value.slice A1 ws.length cc1).ownBlock ∨ ∃ b, (Value.slice A2 ws2.length cc2).ownBlock = some b ∧ wr.heap.size ≤ b) := ⟨HAT.out.imp id (fun ⟨b, h1, h2⟩ => ⟨b, h1, Nat.le_trans HB6.out.size h2⟩)⟩
       clear HS2 HG HB6 q5 f5
       generalize World.setCell w12 ⟨gw, 0, none⟩ (.slice A2 ws2.length cc2) = W13 at *
       have q6 : W13.cell? ⟨gn, 0, none⟩ = some (.func (.func 111) #[] #[.pointer (some ⟨gs, 0, none⟩), .pointer (some ⟨gd, 0, none⟩), .pointer (some ⟨gw, 0, none⟩), .pointer (some ⟨gg, 0, none⟩), .pointer (some ⟨gf, 0, none⟩), .pointer (some ⟨gn, 0, none⟩)]) := (blk_cell HS3.out.b6 0).trans rfl
       go_still_tail 5, (by kernel_rfl)
       change wpList _ _ _ _ _ W13.drew
       have HS4 : Aside0 (WdS I wb W13.drew C1 gs gd gw gg gf gn bf n A c l (.func (.func fd) #[] cd) F true (.slice A2 ws2.length cc2) (.slice A2 ws2.length cc2) ws2 st1) := ⟨HS3.out.below HD.out (below_drew (Below.refl _ _))⟩
       have HK7 : Aside0 (Kept wr W13.drew (fun k => C1 k ∨ k = gw ∨ k = gg ∨ some k = (Value.slice A1 ws.length cc1).ownBlock)) := ⟨HK6.out.drew⟩
       clear HS3 HK6
       generalize World.drew W13 = W14 at *
       go_wp2_with (go_at_call 111; (refine (IH.out st1 true ws2 _ r1 C1 _ _ HS4.out HREC.out).mono ?_); rintro e W15 ⟨rfl, C2, v3, hS5, hK5, hC5, hv5⟩; obtain ⟨A3, cc3, e3⟩ := Kd.R_slice hS5.row; subst e3; have HS5 := asd hS5; have HK5 := asd hK5; have HC5 := asd hC5; have HV5 := asd hv5; have q7 : W15.cell? ⟨gw, 0, none⟩ = some (.slice A3 ws2.length cc3) := (blk_cell hS5.b3 0).trans rfl; have f7 := blk_frozen hS5.b3 0; have hJ : IntKind.i64.wrap ((ws2.length : Int) - 1) = (ws.length : Int) := (i64_w _).trans (by rw [wrap_in (by have := HN.out; have := HWL.out; omega) (by have := HN.out; have := HWL.out; omega)]; have := HN.out; omega); obtain ⟨i0, hi0, _, hsz, _⟩ := info_parts info3; have hcut := cut_to (P := Try.prog) 22 3 .i64 Try.underlying22 hi0 A3 ws2.length cc3 (ws.length : Int) (by omega) (by have := HN.out; omega) (Kd.R_reads' hS5.row).2.1; rw [Int.toNat_natCast] at hcut; clear hS5 hK5 hC5 hv5 hi0 hsz)
       go_roundg (L.length - (j + 1))
       case measure => omega
       case rel =>
        have hrow := Kd.R_take (m := ws.length) HS5.out.row (by have := HN.out; omega)
        rw [HTK.out] at hrow
        refine ⟨j + 1, r1.2, r1.1, C2, .slice A3 ws.length cc3, by go_num, ⟨by omega, Nat.le_refl _⟩, ⟨HH.out⟩, ⟨(HS5.out.take hrow).setW HD.out _⟩, ⟨?_⟩, ⟨fun k hk => ?_⟩, ⟨?_⟩⟩
        ·
         refine HK.out.then_ (((HK7.out.then_ HK5.out (fun k hk => ?_)).setCell (p := ⟨gw, 0, none⟩) (.inl (.inr (.inl rfl))) _)) (fun k hk => ?_)
         ·
          rcases hk with hk | hk | hk | hk
          ·
           exact .inl (.inl hk)
          ·
           exact .inl (.inr (.inl hk))
          ·
           exact .inl (.inr (.inr (.inl hk)))
          ·
           rcases HAT.out with h1 | ⟨b, h1, h2⟩
           ·
            exact .inl (.inr (.inr (.inr (hk.trans h1))))
           ·
            rw [h1] at hk
            obtain rfl := Option.some.inj hk
            exact .inr h2
         ·
          rcases hk with hk | hk | hk | hk
          ·
           rcases HC1.out k hk with h1 | h1
           ·
            exact .inl (.inl h1)
           ·
            exact .inr h1
          ·
           exact .inl (.inr (.inl hk))
          ·
           exact .inl (.inr (.inr (.inl hk)))
          ·
           rcases HV.out with h1 | ⟨b, h1, h2⟩
           ·
            exact .inl (.inr (.inr (.inr (hk.trans h1))))
           ·
            rw [h1] at hk
            obtain rfl := Option.some.inj hk
            exact .inr h2
        ·
         rcases HC5.out k hk with h1 | h1
         ·
          exact HC1.out k h1
         ·
          exact .inr (Nat.le_trans HK.out.1 (Nat.le_trans HK7.out.1 h1))
        ·
         have hown : (Value.slice A3 ws.length cc3).ownBlock = (Value.slice A3 ws2.length cc3).ownBlock := by cases A3 <;> rfl
         rw [hown]
         rcases HV5.out with h1 | ⟨b, h1, h2⟩
         ·
          rw [h1]
          rcases HAT.out with h3 | ⟨b, h3, h4⟩
          ·
           rw [h3]
           exact HV.out
          ·
           exact .inr ⟨b, h3, Nat.le_trans HK.out.1 h4⟩
         ·
          exact .inr ⟨b, h1, Nat.le_trans HK.out.1 (Nat.le_trans HK7.out.1 h2)⟩
      ·
       rw [if_neg hx] at H
       cases H
    ·
     obtain rfl : j = L.length := by omega
     have hltz : ¬ (L.length : Int) < (L.length : Int) := by omega
     have H := HA.out
     clear HA
     rw [List.drop_of_length_le (Nat.le_refl _)] at H
     unfold loopF at H
     obtain rfl := Option.some.inj H
     clear H
     go_wp2
     ((try simp only [Exit.inBlock, Exit.then]); first | refine bodyPost_ret (results_none rfl _ _ _) rfl ?_ | refine bodyPost_end (results_none rfl _ _ _) rfl ?_)
     refine ⟨rfl, C1, _, HS.out, (Kept.of_below HB5.out _).then_ HK.out (fun _ hk => .inl hk), fun k hk => ?_, ?_⟩
     ·
      rcases HC1.out k hk with h1 | h1
      ·
       exact .inl h1
      ·
       exact .inr (Nat.le_trans HB5.out.size h1)
     ·
      rcases HV.out with h1 | ⟨b, h1, h2⟩
      ·
       exact .inl h1
      ·
       exact .inr ⟨b, h1, Nat.le_trans HB5.out.size h2⟩

/-! ### impl_within: function 61 -/
def impl_within.f (a0 : Int) (a1 : Int) (a2 : Int) : Option (Bool) := if a1 ≤ a0 then (some (decide (a0 ≤ a2))) else (some false)
set_option maxHeartbeats 8000000 in
set_option maxRecDepth 100000 in
theorem impl_within.calls (a0 : Int) (a1 : Int) (a2 : Int) (r : Bool) (w : World) (h : impl_within.f a0 a1 a2 = some r) :
    Calls Try.prog 61 #[.int .i64 a0, .int .i64 a1, .int .i64 a2] w fun e w' => e = .returned (.bool r) ∧ Drawn0 w w' := by
  have H : (if a1 ≤ a0 then (some (decide (a0 ≤ a2))) else (some false)) = some r := h
  clear h
  by_cases c4 : a1 ≤ a0
  · rw [if_pos c4] at H
    have c4b0 : decide (a1 ≤ a0) = true := decide_eq_true c4
    clear c4
    obtain rfl := Option.some.inj H
    go_enter Try.func61, Try.ntmps61
    go_wp2
    go_ret
    exact ⟨by first | rfl | (simp; done) | (simp [*]; done), by repeat (first | exact Drawn0.refl _ | apply Drawn0.step)⟩
  · rw [if_neg c4] at H
    have c4b0 : decide (a1 ≤ a0) = false := decide_eq_false c4
    clear c4
    obtain rfl := Option.some.inj H
    go_enter Try.func61, Try.ntmps61
    go_wp2
    go_ret
    exact ⟨by first | rfl | (simp; done) | (simp [*]; done), by repeat (first | exact Drawn0.refl _ | apply Drawn0.step)⟩

-- HAND with impl.within
theorem within_ok (x a b : Int) : impl_within.f x a b = some (decide (a ≤ x) && decide (x ≤ b)) := by
  unfold impl_within.f
  by_cases h : a ≤ x
  · rw [if_pos h]; simp [h]
  · rw [if_neg h]; simp [h]

/-! ### impl_Space_setOf: function 112 -/
def impl_Space_setOf.l0 : Nat → List Bool → Int → List Int → Int → Int → Int → List Int → Option (Int × Bool)
 | 0, _, _, _, _, _, _, _ => none
 | k + 1, x6, x7, x12, x13, x14, x102000, x102001 => if x14 < x13 then (if 0 ≤ x14 then (if x14 < (x12.length : Int) then ((impl_within.f (rd x12 x14) 0 (wrap64 (x102000 - 1))).bind fun t106 => (if t106 = true then (if 0 ≤ (rd x12 x14) then (if (Go.bits .and .i64 (shr .i64 x7 (rd x12 x14)) 1) = 1 then (some (0, false)) else (if 0 ≤ (Go.bits .or .i64 x7 (shl .i64 1 (rd x12 x14))) then (if (Go.bits .or .i64 x7 (shl .i64 1 (rd x12 x14))) < 128 then (if (rdOf false x6 (Go.bits .or .i64 x7 (shl .i64 1 (rd x12 x14))) = true) then (impl_Space_setOf.l0 k x6 (Go.bits .or .i64 x7 (shl .i64 1 (rd x12 x14))) x12 x13 (wrap64 (x14 + 1)) x102000 x102001) else (some (0, false))) else (none)) else (none))) else (none)) else (some (0, false)))) else (none)) else (none)) else (some (x7, true))
def impl_Space_setOf.f (k : Nat) (a0_0 : Int) (l0_1 : List Int) (l1 : List Int) : Option (Int × Bool) := (impl_Space_family.f a0_0 l0_1).bind fun t102 => (impl_Space_setOf.l0 k t102 0 l1 (l1.length : Int) 0 a0_0 l0_1)
theorem impl_Space_setOf.mono_l : ∀ k, (∀ y0 y1 y2 y3 y4 y5 y6, LeO (impl_Space_setOf.l0 k y0 y1 y2 y3 y4 y5 y6) (impl_Space_setOf.l0 (k + 1) y0 y1 y2 y3 y4 y5 y6))
 | 0 => fun _ _ _ _ _ _ _ r h => by simp [impl_Space_setOf.l0] at h
 | k + 1 => by
  have ih0 := impl_Space_setOf.mono_l k
  ·
   intro y0 y1 y2 y3 y4 y5 y6
   unfold impl_Space_setOf.l0
   repeat' first
   | (with_reducible exact ih0 _ _ _ _ _ _ _)
   | (with_reducible exact LeO.refl _)
   | (with_reducible exact LeO.none _)
   | (with_reducible refine LeO.ite ?_ ?_)
   | (with_reducible refine LeO.bind ?_ (fun _ => ?_))
   | exact ih0 _ _ _ _ _ _ _
   | exact LeO.none _
   | refine LeO.ite ?_ ?_
   | refine LeO.bind ?_ (fun _ => ?_)
theorem impl_Space_setOf.mono : ∀ a0 a1 a2 k, LeO (impl_Space_setOf.f k a0 a1 a2) (impl_Space_setOf.f (k + 1) a0 a1 a2) := by
 intro a0 a1 a2 k
 have ih0 := impl_Space_setOf.mono_l k
 unfold impl_Space_setOf.f
 repeat' first
   | (with_reducible exact ih0 _ _ _ _ _ _ _)
   | (with_reducible exact LeO.refl _)
   | (with_reducible exact LeO.none _)
   | (with_reducible refine LeO.ite ?_ ?_)
   | (with_reducible refine LeO.bind ?_ (fun _ => ?_))
   | exact ih0 _ _ _ _ _ _ _
   | exact LeO.none _
   | refine LeO.ite ?_ ?_
   | refine LeO.bind ?_ (fun _ => ?_)
set_option maxHeartbeats 8000000 in
set_option maxRecDepth 100000 in
theorem impl_Space_setOf.calls (k : Nat) (a0_0 : Int) (A0_1 : Option Addr) (c0_1 : Nat) (l0_1 : List Int) (A1 : Option Addr) (c1 : Nat) (l1 : List Int) (r1 : Int) (r2 : Bool) (w : World) (hr0_1 : Kd.C (Kd.int .i64) w A0_1 l0_1.length l0_1) (hc0_1 : l0_1.length ≤ c0_1) (hr1 : Kd.C (Kd.int .i64) w A1 l1.length l1) (hc1 : l1.length ≤ c1) (h : impl_Space_setOf.f k a0_0 l0_1 l1 = some (r1, r2)) :
  Calls Try.prog 112 #[.agg #[.int .i64 a0_0, .slice A0_1 l0_1.length c0_1], .slice A1 l1.length c1] w fun e w' => e = .returned (.tuple #[.int .i64 r1, .bool r2]) ∧ Below w.heap.size w w' := by
 have hu28 := Try.underlying28
 have HR0_1 := asd hr0_1
 have HC0_1 := asd hc0_1
 clear hr0_1 hc0_1
 have HR1 := asd hr1
 have HC1 := asd hc1
 clear hr1 hc1
 have HB := asd (Below.refl w.heap.size w)
 have H : ((impl_Space_family.f a0_0 l0_1).bind fun t102 => (impl_Space_setOf.l0 k t102 0 l1 (l1.length : Int) 0 a0_0 l0_1)) = some (r1, r2) := h
 clear h
 replace H := Option.bind_eq_some_iff.mp H
 obtain ⟨t102, A30, H⟩ := H
 replace H : (impl_Space_setOf.l0 k t102 0 l1 (l1.length : Int) 0 a0_0 l0_1) = some (r1, r2) := H
 have A3 := asd A30
 clear A30
 have HLt102 := asd (impl_Space_family.len A3.out)
 have H' := asd H
 clear H
 go_enter Try.func112, Try.ntmps112
 go_wp2_with (first | ((with_reducible refine gate_dst (N := 2) rfl ?_); refine box_event ?hg (N := 2) ?hd (cs := #[.int .i64 a0_0, .slice A0_1 l0_1.length c0_1]) (t := 28) ?hr ?_; (case hd => rfl); (case hg => rfl); (case hr => first | (go_simp; done) | (go_simp; rfl)); intro gb101 hg w4 hbox hb; have n0_ := asd (below_step (by repeat (first | (with_reducible first | exact HB.out | apply below_alloc | apply pw_below_drewN | apply below_drew1) | exact HB.out)) hb); have n1_ := asd (hbox); have n2_ := asd ((by rw [hg]; exact (below_size (by repeat (first | (with_reducible first | exact HB.out | apply below_alloc | apply pw_below_drewN | apply below_drew1) | exact HB.out))) : w.heap.size ≤ gb101)); have n3_ := asd ((by rw [hg]; exact (below_size (by repeat (first | (with_reducible first | exact HB.out | apply below_alloc | apply pw_below_drewN | apply below_drew1) | exact HB.out))) : w.heap.size ≤ gb101)); clear HB; have HB := n0_; have BK101 := n1_; have GW101 := n2_; have GE101 := n3_; clear n0_ n1_ n2_ n3_; clear hb hbox hg; have hcz5_0 : w4.cell? ⟨gb101, 0, none⟩ = some (.int .i64 a0_0) := (blk_cell BK101.out 0).trans rfl; have hcz5_1 : w4.cell? ⟨gb101, 1, none⟩ = some (.slice A0_1 l0_1.length c0_1) := (blk_cell BK101.out 1).trans rfl; have hfz5_0 := blk_frozen BK101.out 0; have hfz5_1 := blk_frozen BK101.out 1) | (go_at_call 102; (with_reducible refine (impl_Space_family.calls a0_0 _ _ l0_1 t102 _ ?side1 ?side2 A3.out).mono ?_); (case side1 => repeat (first | exact (Kd.C_below HR0_1.out HB.out) | (with_reducible refine Kd.C_alloc ?_ _) | (with_reducible refine Kd.C_drewN ?_ _) | (with_reducible refine Kd.C_drew ?_))); (case side2 => exact HC0_1.out); rintro e w6 ⟨v103, rfl, ho0, hb⟩; have n0_ := asd (Kd.R_lower ho0 (below_size (by repeat (first | (with_reducible first | exact HB.out | apply below_alloc | apply pw_below_drewN | apply below_drew1 | refine below_set ?_ GE101.out) | exact HB.out)))); have n1_ := asd (blk_below (upB BK101.out) hb); have n2_ := asd (below_step (by repeat (first | (with_reducible first | exact HB.out | apply below_alloc | apply pw_below_drewN | apply below_drew1 | refine below_set ?_ GE101.out) | exact HB.out)) hb); clear BK101; clear HB; have HO104 := n0_; have BK101 := n1_; have HB := n2_; clear n0_ n1_ n2_; (try clear hb); (try clear hb2); (try clear hk); (try clear hi); (try clear ho0)))
 repeat (go_quiet (first | ((with_reducible refine gate_dst (N := 2) rfl ?_); refine box_event ?hg (N := 2) ?hd (cs := #[.int .i64 a0_0, .slice A0_1 l0_1.length c0_1]) (t := 28) ?hr ?_; (case hd => rfl); (case hg => rfl); (case hr => first | (go_simp; done) | (go_simp; rfl)); intro gb101 hg w4 hbox hb; have n0_ := asd (below_step (by repeat (first | (with_reducible first | exact HB.out | apply below_alloc | apply pw_below_drewN | apply below_drew1) | exact HB.out)) hb); have n1_ := asd (hbox); have n2_ := asd ((by rw [hg]; exact (below_size (by repeat (first | (with_reducible first | exact HB.out | apply below_alloc | apply pw_below_drewN | apply below_drew1) | exact HB.out))) : w.heap.size ≤ gb101)); have n3_ := asd ((by rw [hg]; exact (below_size (by repeat (first | (with_reducible first | exact HB.out | apply below_alloc | apply pw_below_drewN | apply below_drew1) | exact HB.out))) : w.heap.size ≤ gb101)); clear HB; have HB := n0_; have BK101 := n1_; have GW101 := n2_; have GE101 := n3_; clear n0_ n1_ n2_ n3_; clear hb hbox hg; have hcz5_0 : w4.cell? ⟨gb101, 0, none⟩ = some (.int .i64 a0_0) := (blk_cell BK101.out 0).trans rfl; have hcz5_1 : w4.cell? ⟨gb101, 1, none⟩ = some (.slice A0_1 l0_1.length c0_1) := (blk_cell BK101.out 1).trans rfl; have hfz5_0 := blk_frozen BK101.out 0; have hfz5_1 := blk_frozen BK101.out 1) | (go_at_call 102; (with_reducible refine (impl_Space_family.calls a0_0 _ _ l0_1 t102 _ ?side1 ?side2 A3.out).mono ?_); (case side1 => repeat (first | exact (Kd.C_below HR0_1.out HB.out) | (with_reducible refine Kd.C_alloc ?_ _) | (with_reducible refine Kd.C_drewN ?_ _) | (with_reducible refine Kd.C_drew ?_))); (case side2 => exact HC0_1.out); rintro e w6 ⟨v103, rfl, ho0, hb⟩; have n0_ := asd (Kd.R_lower ho0 (below_size (by repeat (first | (with_reducible first | exact HB.out | apply below_alloc | apply pw_below_drewN | apply below_drew1 | refine below_set ?_ GE101.out) | exact HB.out)))); have n1_ := asd (blk_below (upB BK101.out) hb); have n2_ := asd (below_step (by repeat (first | (with_reducible first | exact HB.out | apply below_alloc | apply pw_below_drewN | apply below_drew1 | refine below_set ?_ GE101.out) | exact HB.out)) hb); clear BK101; clear HB; have HO104 := n0_; have BK101 := n1_; have HB := n2_; clear n0_ n1_ n2_; (try clear hb); (try clear hb2); (try clear hk); (try clear hi); (try clear ho0))); try go_wp2_with (first | ((with_reducible refine gate_dst (N := 2) rfl ?_); refine box_event ?hg (N := 2) ?hd (cs := #[.int .i64 a0_0, .slice A0_1 l0_1.length c0_1]) (t := 28) ?hr ?_; (case hd => rfl); (case hg => rfl); (case hr => first | (go_simp; done) | (go_simp; rfl)); intro gb101 hg w4 hbox hb; have n0_ := asd (below_step (by repeat (first | (with_reducible first | exact HB.out | apply below_alloc | apply pw_below_drewN | apply below_drew1) | exact HB.out)) hb); have n1_ := asd (hbox); have n2_ := asd ((by rw [hg]; exact (below_size (by repeat (first | (with_reducible first | exact HB.out | apply below_alloc | apply pw_below_drewN | apply below_drew1) | exact HB.out))) : w.heap.size ≤ gb101)); have n3_ := asd ((by rw [hg]; exact (below_size (by repeat (first | (with_reducible first | exact HB.out | apply below_alloc | apply pw_below_drewN | apply below_drew1) | exact HB.out))) : w.heap.size ≤ gb101)); clear HB; have HB := n0_; have BK101 := n1_; have GW101 := n2_; have GE101 := n3_; clear n0_ n1_ n2_ n3_; clear hb hbox hg; have hcz5_0 : w4.cell? ⟨gb101, 0, none⟩ = some (.int .i64 a0_0) := (blk_cell BK101.out 0).trans rfl; have hcz5_1 : w4.cell? ⟨gb101, 1, none⟩ = some (.slice A0_1 l0_1.length c0_1) := (blk_cell BK101.out 1).trans rfl; have hfz5_0 := blk_frozen BK101.out 0; have hfz5_1 := blk_frozen BK101.out 1) | (go_at_call 102; (with_reducible refine (impl_Space_family.calls a0_0 _ _ l0_1 t102 _ ?side1 ?side2 A3.out).mono ?_); (case side1 => repeat (first | exact (Kd.C_below HR0_1.out HB.out) | (with_reducible refine Kd.C_alloc ?_ _) | (with_reducible refine Kd.C_drewN ?_ _) | (with_reducible refine Kd.C_drew ?_))); (case side2 => exact HC0_1.out); rintro e w6 ⟨v103, rfl, ho0, hb⟩; have n0_ := asd (Kd.R_lower ho0 (below_size (by repeat (first | (with_reducible first | exact HB.out | apply below_alloc | apply pw_below_drewN | apply below_drew1 | refine below_set ?_ GE101.out) | exact HB.out)))); have n1_ := asd (blk_below (upB BK101.out) hb); have n2_ := asd (below_step (by repeat (first | (with_reducible first | exact HB.out | apply below_alloc | apply pw_below_drewN | apply below_drew1 | refine below_set ?_ GE101.out) | exact HB.out)) hb); clear BK101; clear HB; have HO104 := n0_; have BK101 := n1_; have HB := n2_; clear n0_ n1_ n2_; (try clear hb); (try clear hb2); (try clear hk); (try clear hi); (try clear ho0))))
 go_loopg [7, 14] k (fun kq v7 v14 w' => ∃ (x7_1 : Int) (x14_1 : Int), v7 = .int .i64 x7_1 ∧ v14 = .int .i64 x14_1 ∧ Aside0 (impl_Space_setOf.l0 kq t102 x7_1 l1 (l1.length : Int) x14_1 a0_0 l0_1 = some (r1, r2)) ∧ Aside0 (kq ≤ k) ∧ Aside0 (Kd.R Kd.bool 126 w' w.heap.size (fun _ => True) v103 t102) ∧ Aside0 (w'.heap[gb101]? = some (.cells #[.int .i64 a0_0, (.slice A0_1 l0_1.length c0_1)] 28 (0, 0))) ∧ Aside0 (Below w.heap.size w w'))
 case atStart => exact ⟨(0), (0), (by first | rfl | (simp; done) | (simp [*]; done)), (by first | rfl | (simp; done) | (simp [*]; done)), H', ⟨Nat.le_refl _⟩, ⟨by (with_reducible repeat (first | apply Kd.R_alloc | apply Kd.R_drewN | apply Kd.R_drew)); exact HO104.out⟩, ⟨by (with_reducible repeat (first | refine blk_drewN ?_ _ | refine blk_drew ?_ | refine blk_alloc ?_ _)); exact BK101.out⟩, ⟨by repeat (first | (with_reducible first | exact HB.out | apply below_alloc | apply pw_below_drewN | apply below_drew1 | refine below_set ?_ GE101.out) | exact HB.out)⟩⟩
 case round =>
  clear H'
  try clear c1
  try clear p2
  try clear hcz5_0
  try clear hcz5_1
  try clear hfz5_0
  try clear hfz5_1
  try clear HO_6; skip
  obtain ⟨x7_1, x14_1, rfl, rfl, HA, HK1, HO_6, BK101, HB⟩ := hrel
  cases gk with
  | zero => exact absurd HA.out (by simp [impl_Space_setOf.l0])
  | succ k1 =>
   have H := HA.out
   clear HA
   simp only [impl_Space_setOf.l0] at H
   by_cases c7 : x14_1 < (l1.length : Int)
   ·
    rw [if_pos c7] at H
    have c7b0 : decide (x14_1 < (l1.length : Int)) = true := decide_eq_true c7
    clear c7
    by_cases c8 : 0 ≤ x14_1
    ·
     rw [if_pos c8] at H
     have c8b0 : decide (0 ≤ x14_1) = true := decide_eq_true c8
     clear c8
     by_cases c9 : x14_1 < (l1.length : Int)
     ·
      rw [if_pos c9] at H
      have c9b0 : decide (x14_1 < (l1.length : Int)) = true := decide_eq_true c9
      clear c9
      replace H := Option.bind_eq_some_iff.mp H
      obtain ⟨t106, A100, H⟩ := H
      replace H : (if t106 = true then (if 0 ≤ (rd l1 x14_1) then (if (Go.bits .and .i64 (shr .i64 x7_1 (rd l1 x14_1)) 1) = 1 then (some (0, false)) else (if 0 ≤ (Go.bits .or .i64 x7_1 (shl .i64 1 (rd l1 x14_1))) then (if (Go.bits .or .i64 x7_1 (shl .i64 1 (rd l1 x14_1))) < 128 then (if (rdOf false t102 (Go.bits .or .i64 x7_1 (shl .i64 1 (rd l1 x14_1))) = true) then (impl_Space_setOf.l0 k1 t102 (Go.bits .or .i64 x7_1 (shl .i64 1 (rd l1 x14_1))) l1 (l1.length : Int) (wrap64 (x14_1 + 1)) a0_0 l0_1) else (some (0, false))) else (none)) else (none))) else (none)) else (some (0, false))) = some (r1, r2) := H
      have A10 := asd A100
      clear A100
      by_cases c11 : t106 = true
      ·
       subst c11
       have H1 : (if 0 ≤ (rd l1 x14_1) then (if (Go.bits .and .i64 (shr .i64 x7_1 (rd l1 x14_1)) 1) = 1 then (some (0, false)) else (if 0 ≤ (Go.bits .or .i64 x7_1 (shl .i64 1 (rd l1 x14_1))) then (if (Go.bits .or .i64 x7_1 (shl .i64 1 (rd l1 x14_1))) < 128 then (if (rdOf false t102 (Go.bits .or .i64 x7_1 (shl .i64 1 (rd l1 x14_1))) = true) then (impl_Space_setOf.l0 k1 t102 (Go.bits .or .i64 x7_1 (shl .i64 1 (rd l1 x14_1))) l1 (l1.length : Int) (wrap64 (x14_1 + 1)) a0_0 l0_1) else (some (0, false))) else (none)) else (none))) else (none)) = some (r1, r2) := by rw [if_pos rfl] at H; exact H
       clear H
       have H := H1
       clear H1
       by_cases c12 : 0 ≤ (rd l1 x14_1)
       ·
        rw [if_pos c12] at H
        have c12b0 := eq_true c12
        have c12b1 : decide (0 ≤ (rd l1 x14_1)) = true := decide_eq_true c12
        clear c12
        obtain ⟨ji13, hji13⟩ : ∃ j_ : Int, (shr .i64 x7_1 (rd l1 x14_1)) = j_ := ⟨_, rfl⟩
        replace H : (if (Go.bits .and .i64 (ji13) 1) = 1 then (some (0, false)) else (if 0 ≤ (Go.bits .or .i64 x7_1 (shl .i64 1 (rd l1 x14_1))) then (if (Go.bits .or .i64 x7_1 (shl .i64 1 (rd l1 x14_1))) < 128 then (if (rdOf false t102 (Go.bits .or .i64 x7_1 (shl .i64 1 (rd l1 x14_1))) = true) then (impl_Space_setOf.l0 k1 t102 (Go.bits .or .i64 x7_1 (shl .i64 1 (rd l1 x14_1))) l1 (l1.length : Int) (wrap64 (x14_1 + 1)) a0_0 l0_1) else (some (0, false))) else (none)) else (none))) = some (r1, r2) := by first | (rw [hji13] at H; exact H) | (simp only [hji13] at H ⊢; exact H)
        (try rw [hji13] at A10)
        have hji13_ : (x7_1 / 2 ^ min (rd l1 x14_1).toNat 64) = ji13 := hji13
        have hji13z : (rd l1 x14_1) ≤ 64 → (x7_1 / 2 ^ (rd l1 x14_1).toNat) = ji13 := shr_small hji13
        by_cases c14 : (Go.bits .and .i64 (ji13) 1) = 1
        ·
         rw [if_pos c14] at H
         have c14b0 : ((Go.bits .and .i64 (ji13) 1) == 1) = true := beq_iff_eq.mpr c14
         have c14b1 : ((Go.bits .and .i64 (ji13) 1) != 1) = false := bne_eq_false_iff_eq.mpr c14
         clear c14
         simp only [Option.some.injEq, Prod.mk.injEq] at H
         obtain ⟨rfl, rfl⟩ := H
         have p105 : 0 ≤ (x14_1 : Int) := of_decide_eq_true (by first | (with_reducible assumption) | assumption)
         have q105 : x14_1 < (l1.length : Int) := of_decide_eq_true (by first | (with_reducible assumption) | assumption)
         obtain ⟨ad105, e105, hx105_0⟩ := Kd.at_int HR1.out x14_1 p105 q105
         cases e105
         replace hx105_0 := (HB.out.cell (World.block_lt_of_cell? w _ hx105_0)).trans hx105_0
         replace p105 := eq_true p105
         replace q105 := eq_true q105
         have hcz15_0 : wr.cell? ⟨gb101, 0, none⟩ = some (.int .i64 a0_0) := (blk_cell BK101.out 0).trans rfl
         have hcz15_1 : wr.cell? ⟨gb101, 1, none⟩ = some (.slice A0_1 l0_1.length c0_1) := (blk_cell BK101.out 1).trans rfl
         have hfz15_0 := blk_frozen BK101.out 0
         have hfz15_1 := blk_frozen BK101.out 1
         go_wp2_with (first | (go_at_call 61; (with_reducible refine (impl_within.calls (rd l1 x14_1) 0 (wrap64 (a0_0 - 1)) true _ A10.out).mono ?_); rintro e w' ⟨rfl, ⟨nd, rfl⟩⟩; (try first | exact ⟨rfl, _, World.drewN_drewN _ _ _⟩ | exact ⟨rfl, _, Eq.trans (World.drewN_drewN _ _ _) (congrArg (World.drewN _) (Nat.add_assoc _ _ _))⟩)))
         repeat (go_quiet (first | (go_at_call 61; (first | (with_reducible refine (impl_within.calls (rd l1 x14_1) 0 (wrap64 (a0_0 - 1)) true _ A10.out).mono ?_) | (with_reducible refine (impl_within.calls (rd l1 x14_1) 0 (IntKind.i64.wrap (a0_0 - 1)) true _ (by first | exact A10.out | (with_unfolding_all exact A10.out))).mono ?_)); rintro e w' ⟨rfl, ⟨nd, rfl⟩⟩; (try first | exact ⟨rfl, _, World.drewN_drewN _ _ _⟩ | exact ⟨rfl, _, Eq.trans (World.drewN_drewN _ _ _) (congrArg (World.drewN _) (Nat.add_assoc _ _ _))⟩))); try go_wp2_with (first | (go_at_call 61; (first | (with_reducible refine (impl_within.calls (rd l1 x14_1) 0 (wrap64 (a0_0 - 1)) true _ A10.out).mono ?_) | (with_reducible refine (impl_within.calls (rd l1 x14_1) 0 (IntKind.i64.wrap (a0_0 - 1)) true _ (by first | exact A10.out | (with_unfolding_all exact A10.out))).mono ?_)); rintro e w' ⟨rfl, ⟨nd, rfl⟩⟩; (try first | exact ⟨rfl, _, World.drewN_drewN _ _ _⟩ | exact ⟨rfl, _, Eq.trans (World.drewN_drewN _ _ _) (congrArg (World.drewN _) (Nat.add_assoc _ _ _))⟩))))
         go_ret2
         exact ⟨by first | rfl | (simp [errW_none, errW_some] <;> rfl) | (simp only [← hji13]; first | rfl | (simp [errW_none, errW_some] <;> rfl)) | (simp [*, errW_none, errW_some] <;> rfl), by repeat (first | (with_reducible first | exact HB.out | apply below_alloc | apply pw_below_drewN | apply below_drew1 | refine below_set ?_ GE101.out) | exact HB.out)⟩
        ·
         rw [if_neg c14] at H
         have c14b0 : ((Go.bits .and .i64 (ji13) 1) == 1) = false := beq_eq_false_iff_ne.mpr c14
         have c14b1 : ((Go.bits .and .i64 (ji13) 1) != 1) = true := bne_iff_ne.mpr c14
         have c16b0 := eq_true (of_decide_eq_true (by first | (with_reducible assumption) | assumption) : 0 ≤ (rd l1 x14_1))
         obtain ⟨ji17, hji17⟩ : ∃ j_ : Int, (shl .i64 1 (rd l1 x14_1)) = j_ := ⟨_, rfl⟩
         replace H : (if 0 ≤ (Go.bits .or .i64 x7_1 (ji17)) then (if (Go.bits .or .i64 x7_1 (ji17)) < 128 then (if (rdOf false t102 (Go.bits .or .i64 x7_1 (ji17)) = true) then (impl_Space_setOf.l0 k1 t102 (Go.bits .or .i64 x7_1 (ji17)) l1 (l1.length : Int) (wrap64 (x14_1 + 1)) a0_0 l0_1) else (some (0, false))) else (none)) else (none)) = some (r1, r2) := by first | (rw [hji17] at H; exact H) | (simp only [hji17] at H ⊢; exact H)
         (try rw [hji17] at A10)
         have hji17_ : (IntKind.i64.wrap (1 * 2 ^ min (rd l1 x14_1).toNat 64)) = ji17 := hji17
         have hji17z : (rd l1 x14_1) ≤ 64 → (IntKind.i64.wrap (1 * 2 ^ (rd l1 x14_1).toNat)) = ji17 := shl_small hji17
         have hji17u : (IntKind.i64.wrap (2 ^ min (rd l1 x14_1).toNat 64)) = ji17 := by have h_ := hji17_; rw [Int.one_mul] at h_; exact h_
         have hji17v : (rd l1 x14_1) ≤ 64 → (IntKind.i64.wrap (2 ^ (rd l1 x14_1).toNat)) = ji17 := fun hle_ => by have h_ := hji17z hle_; rw [Int.one_mul] at h_; exact h_
         have hji17y : (wrap64 (1 * 2 ^ min (rd l1 x14_1).toNat 64)) = ji17 := (i64_w _).symm.trans hji17_
         have hji17x : (rd l1 x14_1) ≤ 64 → (wrap64 (1 * 2 ^ (rd l1 x14_1).toNat)) = ji17 := fun h_ => (i64_w _).symm.trans (hji17z h_)
         by_cases c18 : 0 ≤ (Go.bits .or .i64 x7_1 (ji17))
         ·
          rw [if_pos c18] at H
          have c18b0 : decide (0 ≤ (Go.bits .or .i64 x7_1 (ji17))) = true := decide_eq_true c18
          clear c18
          by_cases c19 : (Go.bits .or .i64 x7_1 (ji17)) < 128
          ·
           rw [if_pos c19] at H
           have c19b0 : decide ((Go.bits .or .i64 x7_1 (ji17)) < 128) = true := decide_eq_true c19
           clear c19
           obtain ⟨bq20, hbq20⟩ : ∃ b_ : Bool, b_ = (rdOf false t102 (Go.bits .or .i64 x7_1 (ji17))) := ⟨_, rfl⟩
           replace H : (if (bq20 = true) then (impl_Space_setOf.l0 k1 t102 (Go.bits .or .i64 x7_1 (ji17)) l1 (l1.length : Int) (wrap64 (x14_1 + 1)) a0_0 l0_1) else (some (0, false))) = some (r1, r2) := by rw [← hbq20] at H; exact H
           have Nbq20 := asd hbq20
           clear hbq20
           by_cases c21 : (bq20 = true)
           ·
            subst c21
            have H1 : (impl_Space_setOf.l0 k1 t102 (Go.bits .or .i64 x7_1 (ji17)) l1 (l1.length : Int) (wrap64 (x14_1 + 1)) a0_0 l0_1) = some (r1, r2) := by rw [if_pos rfl] at H; exact H
            clear H
            have H := H1
            clear H1
            have c22b0 := eq_true (of_decide_eq_true (by first | (with_reducible assumption) | assumption) : 0 ≤ (rd l1 x14_1))
            have H' := asd H
            clear H
            have p105 : 0 ≤ (x14_1 : Int) := of_decide_eq_true (by first | (with_reducible assumption) | assumption)
            have q105 : x14_1 < (l1.length : Int) := of_decide_eq_true (by first | (with_reducible assumption) | assumption)
            obtain ⟨ad105, e105, hx105_0⟩ := Kd.at_int HR1.out x14_1 p105 q105
            cases e105
            replace hx105_0 := (HB.out.cell (World.block_lt_of_cell? w _ hx105_0)).trans hx105_0
            replace p105 := eq_true p105
            replace q105 := eq_true q105
            have hcz23_0 : wr.cell? ⟨gb101, 0, none⟩ = some (.int .i64 a0_0) := (blk_cell BK101.out 0).trans rfl
            have hcz23_1 : wr.cell? ⟨gb101, 1, none⟩ = some (.slice A0_1 l0_1.length c0_1) := (blk_cell BK101.out 1).trans rfl
            have hfz23_0 := blk_frozen BK101.out 0
            have hfz23_1 := blk_frozen BK101.out 1
            go_wp2_with (first | (go_at_call 61; (with_reducible refine (impl_within.calls (rd l1 x14_1) 0 (wrap64 (a0_0 - 1)) true _ A10.out).mono ?_); rintro e w' ⟨rfl, ⟨nd, rfl⟩⟩; (try first | exact ⟨rfl, _, World.drewN_drewN _ _ _⟩ | exact ⟨rfl, _, Eq.trans (World.drewN_drewN _ _ _) (congrArg (World.drewN _) (Nat.add_assoc _ _ _))⟩); obtain ⟨Ao24, co24, eo24⟩ := Kd.R_slice HO_6.out; subst eo24; (try simp only [ptrOf_slice]); have p107 : 0 ≤ ((Go.bits .or .i64 x7_1 (ji17)) : Int) := of_decide_eq_true (by first | (with_reducible assumption) | assumption); have q107 : (Go.bits .or .i64 x7_1 (ji17)) < (t102.length : Int) := (by have h_ : ((Go.bits .or .i64 x7_1 (ji17)) : Int) < (128 : Int) := of_decide_eq_true (by first | (with_reducible assumption) | assumption); (try have e_ := (Kd.R_reads' HO_6.out).1); (try have e0_ := HLt102.out); omega); have ql107 : (((Go.bits .or .i64 x7_1 (ji17)) : Int) < (128 : Int)) = True := eq_true (of_decide_eq_true (by first | (with_reducible assumption) | assumption)); obtain ⟨ad107, e107, hx107_0⟩ := Kd.at_bool (Kd.R_reads' HO_6.out).2.2 (Go.bits .or .i64 x7_1 (ji17)) p107 q107; (try rw [← Nbq20.out] at hx107_0); cases e107; replace p107 := eq_true p107; replace q107 := eq_true q107))
            try (obtain ⟨Ao24, co24, eo24⟩ := Kd.R_slice HO_6.out; subst eo24; (try simp only [ptrOf_slice]); have p107 : 0 ≤ ((Go.bits .or .i64 x7_1 (ji17)) : Int) := of_decide_eq_true (by first | (with_reducible assumption) | assumption); have q107 : (Go.bits .or .i64 x7_1 (ji17)) < (t102.length : Int) := (by have h_ : ((Go.bits .or .i64 x7_1 (ji17)) : Int) < (128 : Int) := of_decide_eq_true (by first | (with_reducible assumption) | assumption); (try have e_ := (Kd.R_reads' HO_6.out).1); (try have e0_ := HLt102.out); omega); have ql107 : (((Go.bits .or .i64 x7_1 (ji17)) : Int) < (128 : Int)) = True := eq_true (of_decide_eq_true (by first | (with_reducible assumption) | assumption)); obtain ⟨ad107, e107, hx107_0⟩ := Kd.at_bool (Kd.R_reads' HO_6.out).2.2 (Go.bits .or .i64 x7_1 (ji17)) p107 q107; (try rw [← Nbq20.out] at hx107_0); cases e107; replace p107 := eq_true p107; replace q107 := eq_true q107)
            repeat (go_quiet (first | (go_at_call 61; (first | (with_reducible refine (impl_within.calls (rd l1 x14_1) 0 (wrap64 (a0_0 - 1)) true _ A10.out).mono ?_) | (with_reducible refine (impl_within.calls (rd l1 x14_1) 0 (IntKind.i64.wrap (a0_0 - 1)) true _ (by first | exact A10.out | (with_unfolding_all exact A10.out))).mono ?_)); rintro e w' ⟨rfl, ⟨nd, rfl⟩⟩; (try first | exact ⟨rfl, _, World.drewN_drewN _ _ _⟩ | exact ⟨rfl, _, Eq.trans (World.drewN_drewN _ _ _) (congrArg (World.drewN _) (Nat.add_assoc _ _ _))⟩) <;> (obtain ⟨Ao24, co24, eo24⟩ := Kd.R_slice HO_6.out; subst eo24; (try simp only [ptrOf_slice]); have p107 : 0 ≤ ((Go.bits .or .i64 x7_1 (ji17)) : Int) := of_decide_eq_true (by first | (with_reducible assumption) | assumption); have q107 : (Go.bits .or .i64 x7_1 (ji17)) < (t102.length : Int) := (by have h_ : ((Go.bits .or .i64 x7_1 (ji17)) : Int) < (128 : Int) := of_decide_eq_true (by first | (with_reducible assumption) | assumption); (try have e_ := (Kd.R_reads' HO_6.out).1); (try have e0_ := HLt102.out); omega); have ql107 : (((Go.bits .or .i64 x7_1 (ji17)) : Int) < (128 : Int)) = True := eq_true (of_decide_eq_true (by first | (with_reducible assumption) | assumption)); obtain ⟨ad107, e107, hx107_0⟩ := Kd.at_bool (Kd.R_reads' HO_6.out).2.2 (Go.bits .or .i64 x7_1 (ji17)) p107 q107; (try rw [← Nbq20.out] at hx107_0); cases e107; replace p107 := eq_true p107; replace q107 := eq_true q107))); try go_wp2_with (first | (go_at_call 61; (first | (with_reducible refine (impl_within.calls (rd l1 x14_1) 0 (wrap64 (a0_0 - 1)) true _ A10.out).mono ?_) | (with_reducible refine (impl_within.calls (rd l1 x14_1) 0 (IntKind.i64.wrap (a0_0 - 1)) true _ (by first | exact A10.out | (with_unfolding_all exact A10.out))).mono ?_)); rintro e w' ⟨rfl, ⟨nd, rfl⟩⟩; (try first | exact ⟨rfl, _, World.drewN_drewN _ _ _⟩ | exact ⟨rfl, _, Eq.trans (World.drewN_drewN _ _ _) (congrArg (World.drewN _) (Nat.add_assoc _ _ _))⟩) <;> (obtain ⟨Ao24, co24, eo24⟩ := Kd.R_slice HO_6.out; subst eo24; (try simp only [ptrOf_slice]); have p107 : 0 ≤ ((Go.bits .or .i64 x7_1 (ji17)) : Int) := of_decide_eq_true (by first | (with_reducible assumption) | assumption); have q107 : (Go.bits .or .i64 x7_1 (ji17)) < (t102.length : Int) := (by have h_ : ((Go.bits .or .i64 x7_1 (ji17)) : Int) < (128 : Int) := of_decide_eq_true (by first | (with_reducible assumption) | assumption); (try have e_ := (Kd.R_reads' HO_6.out).1); (try have e0_ := HLt102.out); omega); have ql107 : (((Go.bits .or .i64 x7_1 (ji17)) : Int) < (128 : Int)) = True := eq_true (of_decide_eq_true (by first | (with_reducible assumption) | assumption)); obtain ⟨ad107, e107, hx107_0⟩ := Kd.at_bool (Kd.R_reads' HO_6.out).2.2 (Go.bits .or .i64 x7_1 (ji17)) p107 q107; (try rw [← Nbq20.out] at hx107_0); cases e107; replace p107 := eq_true p107; replace q107 := eq_true q107))))
            go_roundg k1
            case measure => have := HK1.out; omega
            case rel => exact ⟨(Go.bits .or .i64 x7_1 (ji17)), (wrap64 (x14_1 + 1)), (by first | rfl | (simp; done) | (simp only [← hji17] <;> (first | rfl | simp)) | (simp [*]; done)), (by first | rfl | (simp; done) | (simp [*]; done)), H', ⟨by have := HK1.out; omega⟩, ⟨by (with_reducible repeat (first | apply Kd.R_alloc | apply Kd.R_drewN | apply Kd.R_drew)); exact HO_6.out⟩, ⟨by (with_reducible repeat (first | refine blk_drewN ?_ _ | refine blk_drew ?_ | refine blk_alloc ?_ _)); exact BK101.out⟩, ⟨by repeat (first | (with_reducible first | exact HB.out | apply below_alloc | apply pw_below_drewN | apply below_drew1 | refine below_set ?_ GE101.out) | exact HB.out)⟩⟩
           ·
            replace c21 := Bool.eq_false_iff.mpr c21
            subst c21
            have H1 : (some (0, false)) = some (r1, r2) := by rw [if_neg (show ¬ (false = true) by decide)] at H; exact H
            clear H
            have H := H1
            clear H1
            simp only [Option.some.injEq, Prod.mk.injEq] at H
            obtain ⟨rfl, rfl⟩ := H
            have p105 : 0 ≤ (x14_1 : Int) := of_decide_eq_true (by first | (with_reducible assumption) | assumption)
            have q105 : x14_1 < (l1.length : Int) := of_decide_eq_true (by first | (with_reducible assumption) | assumption)
            obtain ⟨ad105, e105, hx105_0⟩ := Kd.at_int HR1.out x14_1 p105 q105
            cases e105
            replace hx105_0 := (HB.out.cell (World.block_lt_of_cell? w _ hx105_0)).trans hx105_0
            replace p105 := eq_true p105
            replace q105 := eq_true q105
            have hcz25_0 : wr.cell? ⟨gb101, 0, none⟩ = some (.int .i64 a0_0) := (blk_cell BK101.out 0).trans rfl
            have hcz25_1 : wr.cell? ⟨gb101, 1, none⟩ = some (.slice A0_1 l0_1.length c0_1) := (blk_cell BK101.out 1).trans rfl
            have hfz25_0 := blk_frozen BK101.out 0
            have hfz25_1 := blk_frozen BK101.out 1
            go_wp2_with (first | (go_at_call 61; (with_reducible refine (impl_within.calls (rd l1 x14_1) 0 (wrap64 (a0_0 - 1)) true _ A10.out).mono ?_); rintro e w' ⟨rfl, ⟨nd, rfl⟩⟩; (try first | exact ⟨rfl, _, World.drewN_drewN _ _ _⟩ | exact ⟨rfl, _, Eq.trans (World.drewN_drewN _ _ _) (congrArg (World.drewN _) (Nat.add_assoc _ _ _))⟩); obtain ⟨Ao26, co26, eo26⟩ := Kd.R_slice HO_6.out; subst eo26; (try simp only [ptrOf_slice]); have p107 : 0 ≤ ((Go.bits .or .i64 x7_1 (ji17)) : Int) := of_decide_eq_true (by first | (with_reducible assumption) | assumption); have q107 : (Go.bits .or .i64 x7_1 (ji17)) < (t102.length : Int) := (by have h_ : ((Go.bits .or .i64 x7_1 (ji17)) : Int) < (128 : Int) := of_decide_eq_true (by first | (with_reducible assumption) | assumption); (try have e_ := (Kd.R_reads' HO_6.out).1); (try have e0_ := HLt102.out); omega); have ql107 : (((Go.bits .or .i64 x7_1 (ji17)) : Int) < (128 : Int)) = True := eq_true (of_decide_eq_true (by first | (with_reducible assumption) | assumption)); obtain ⟨ad107, e107, hx107_0⟩ := Kd.at_bool (Kd.R_reads' HO_6.out).2.2 (Go.bits .or .i64 x7_1 (ji17)) p107 q107; (try rw [← Nbq20.out] at hx107_0); cases e107; replace p107 := eq_true p107; replace q107 := eq_true q107))
            try (obtain ⟨Ao26, co26, eo26⟩ := Kd.R_slice HO_6.out; subst eo26; (try simp only [ptrOf_slice]); have p107 : 0 ≤ ((Go.bits .or .i64 x7_1 (ji17)) : Int) := of_decide_eq_true (by first | (with_reducible assumption) | assumption); have q107 : (Go.bits .or .i64 x7_1 (ji17)) < (t102.length : Int) := (by have h_ : ((Go.bits .or .i64 x7_1 (ji17)) : Int) < (128 : Int) := of_decide_eq_true (by first | (with_reducible assumption) | assumption); (try have e_ := (Kd.R_reads' HO_6.out).1); (try have e0_ := HLt102.out); omega); have ql107 : (((Go.bits .or .i64 x7_1 (ji17)) : Int) < (128 : Int)) = True := eq_true (of_decide_eq_true (by first | (with_reducible assumption) | assumption)); obtain ⟨ad107, e107, hx107_0⟩ := Kd.at_bool (Kd.R_reads' HO_6.out).2.2 (Go.bits .or .i64 x7_1 (ji17)) p107 q107; (try rw [← Nbq20.out] at hx107_0); cases e107; replace p107 := eq_true p107; replace q107 := eq_true q107)
            repeat (go_quiet (first | (go_at_call 61; (first | (with_reducible refine (impl_within.calls (rd l1 x14_1) 0 (wrap64 (a0_0 - 1)) true _ A10.out).mono ?_) | (with_reducible refine (impl_within.calls (rd l1 x14_1) 0 (IntKind.i64.wrap (a0_0 - 1)) true _ (by first | exact A10.out | (with_unfolding_all exact A10.out))).mono ?_)); rintro e w' ⟨rfl, ⟨nd, rfl⟩⟩; (try first | exact ⟨rfl, _, World.drewN_drewN _ _ _⟩ | exact ⟨rfl, _, Eq.trans (World.drewN_drewN _ _ _) (congrArg (World.drewN _) (Nat.add_assoc _ _ _))⟩) <;> (obtain ⟨Ao26, co26, eo26⟩ := Kd.R_slice HO_6.out; subst eo26; (try simp only [ptrOf_slice]); have p107 : 0 ≤ ((Go.bits .or .i64 x7_1 (ji17)) : Int) := of_decide_eq_true (by first | (with_reducible assumption) | assumption); have q107 : (Go.bits .or .i64 x7_1 (ji17)) < (t102.length : Int) := (by have h_ : ((Go.bits .or .i64 x7_1 (ji17)) : Int) < (128 : Int) := of_decide_eq_true (by first | (with_reducible assumption) | assumption); (try have e_ := (Kd.R_reads' HO_6.out).1); (try have e0_ := HLt102.out); omega); have ql107 : (((Go.bits .or .i64 x7_1 (ji17)) : Int) < (128 : Int)) = True := eq_true (of_decide_eq_true (by first | (with_reducible assumption) | assumption)); obtain ⟨ad107, e107, hx107_0⟩ := Kd.at_bool (Kd.R_reads' HO_6.out).2.2 (Go.bits .or .i64 x7_1 (ji17)) p107 q107; (try rw [← Nbq20.out] at hx107_0); cases e107; replace p107 := eq_true p107; replace q107 := eq_true q107))); try go_wp2_with (first | (go_at_call 61; (first | (with_reducible refine (impl_within.calls (rd l1 x14_1) 0 (wrap64 (a0_0 - 1)) true _ A10.out).mono ?_) | (with_reducible refine (impl_within.calls (rd l1 x14_1) 0 (IntKind.i64.wrap (a0_0 - 1)) true _ (by first | exact A10.out | (with_unfolding_all exact A10.out))).mono ?_)); rintro e w' ⟨rfl, ⟨nd, rfl⟩⟩; (try first | exact ⟨rfl, _, World.drewN_drewN _ _ _⟩ | exact ⟨rfl, _, Eq.trans (World.drewN_drewN _ _ _) (congrArg (World.drewN _) (Nat.add_assoc _ _ _))⟩) <;> (obtain ⟨Ao26, co26, eo26⟩ := Kd.R_slice HO_6.out; subst eo26; (try simp only [ptrOf_slice]); have p107 : 0 ≤ ((Go.bits .or .i64 x7_1 (ji17)) : Int) := of_decide_eq_true (by first | (with_reducible assumption) | assumption); have q107 : (Go.bits .or .i64 x7_1 (ji17)) < (t102.length : Int) := (by have h_ : ((Go.bits .or .i64 x7_1 (ji17)) : Int) < (128 : Int) := of_decide_eq_true (by first | (with_reducible assumption) | assumption); (try have e_ := (Kd.R_reads' HO_6.out).1); (try have e0_ := HLt102.out); omega); have ql107 : (((Go.bits .or .i64 x7_1 (ji17)) : Int) < (128 : Int)) = True := eq_true (of_decide_eq_true (by first | (with_reducible assumption) | assumption)); obtain ⟨ad107, e107, hx107_0⟩ := Kd.at_bool (Kd.R_reads' HO_6.out).2.2 (Go.bits .or .i64 x7_1 (ji17)) p107 q107; (try rw [← Nbq20.out] at hx107_0); cases e107; replace p107 := eq_true p107; replace q107 := eq_true q107))))
            go_ret2
            exact ⟨by first | rfl | (simp [errW_none, errW_some] <;> rfl) | (simp only [← hji13, ← hji17]; first | rfl | (simp [errW_none, errW_some] <;> rfl)) | (simp [*, errW_none, errW_some] <;> rfl), by repeat (first | (with_reducible first | exact HB.out | apply below_alloc | apply pw_below_drewN | apply below_drew1 | refine below_set ?_ GE101.out) | exact HB.out)⟩
          ·
           rw [if_neg c19] at H
           exact absurd H (by simp)
         ·
          rw [if_neg c18] at H
          exact absurd H (by simp)
       ·
        rw [if_neg c12] at H
        exact absurd H (by simp)
      ·
       replace c11 := Bool.eq_false_iff.mpr c11
       subst c11
       have H1 : (some (0, false)) = some (r1, r2) := by rw [if_neg (show ¬ (false = true) by decide)] at H; exact H
       clear H
       have H := H1
       clear H1
       simp only [Option.some.injEq, Prod.mk.injEq] at H
       obtain ⟨rfl, rfl⟩ := H
       have p105 : 0 ≤ (x14_1 : Int) := of_decide_eq_true (by first | (with_reducible assumption) | assumption)
       have q105 : x14_1 < (l1.length : Int) := of_decide_eq_true (by first | (with_reducible assumption) | assumption)
       obtain ⟨ad105, e105, hx105_0⟩ := Kd.at_int HR1.out x14_1 p105 q105
       cases e105
       replace hx105_0 := (HB.out.cell (World.block_lt_of_cell? w _ hx105_0)).trans hx105_0
       replace p105 := eq_true p105
       replace q105 := eq_true q105
       have hcz27_0 : wr.cell? ⟨gb101, 0, none⟩ = some (.int .i64 a0_0) := (blk_cell BK101.out 0).trans rfl
       have hcz27_1 : wr.cell? ⟨gb101, 1, none⟩ = some (.slice A0_1 l0_1.length c0_1) := (blk_cell BK101.out 1).trans rfl
       have hfz27_0 := blk_frozen BK101.out 0
       have hfz27_1 := blk_frozen BK101.out 1
       go_wp2_with (first | (go_at_call 61; (with_reducible refine (impl_within.calls (rd l1 x14_1) 0 (wrap64 (a0_0 - 1)) false _ A10.out).mono ?_); rintro e w' ⟨rfl, ⟨nd, rfl⟩⟩; (try first | exact ⟨rfl, _, World.drewN_drewN _ _ _⟩ | exact ⟨rfl, _, Eq.trans (World.drewN_drewN _ _ _) (congrArg (World.drewN _) (Nat.add_assoc _ _ _))⟩)))
       repeat (go_quiet (first | (go_at_call 61; (first | (with_reducible refine (impl_within.calls (rd l1 x14_1) 0 (wrap64 (a0_0 - 1)) false _ A10.out).mono ?_) | (with_reducible refine (impl_within.calls (rd l1 x14_1) 0 (IntKind.i64.wrap (a0_0 - 1)) false _ (by first | exact A10.out | (with_unfolding_all exact A10.out))).mono ?_)); rintro e w' ⟨rfl, ⟨nd, rfl⟩⟩; (try first | exact ⟨rfl, _, World.drewN_drewN _ _ _⟩ | exact ⟨rfl, _, Eq.trans (World.drewN_drewN _ _ _) (congrArg (World.drewN _) (Nat.add_assoc _ _ _))⟩))); try go_wp2_with (first | (go_at_call 61; (first | (with_reducible refine (impl_within.calls (rd l1 x14_1) 0 (wrap64 (a0_0 - 1)) false _ A10.out).mono ?_) | (with_reducible refine (impl_within.calls (rd l1 x14_1) 0 (IntKind.i64.wrap (a0_0 - 1)) false _ (by first | exact A10.out | (with_unfolding_all exact A10.out))).mono ?_)); rintro e w' ⟨rfl, ⟨nd, rfl⟩⟩; (try first | exact ⟨rfl, _, World.drewN_drewN _ _ _⟩ | exact ⟨rfl, _, Eq.trans (World.drewN_drewN _ _ _) (congrArg (World.drewN _) (Nat.add_assoc _ _ _))⟩))))
       go_ret2
       exact ⟨by first | rfl | (simp [errW_none, errW_some] <;> rfl) | (simp [*, errW_none, errW_some] <;> rfl), by repeat (first | (with_reducible first | exact HB.out | apply below_alloc | apply pw_below_drewN | apply below_drew1 | refine below_set ?_ GE101.out) | exact HB.out)⟩
     ·
      rw [if_neg c9] at H
      exact absurd H (by simp)
    ·
     rw [if_neg c8] at H
     exact absurd H (by simp)
   ·
    rw [if_neg c7] at H
    have c7b0 : decide (x14_1 < (l1.length : Int)) = false := decide_eq_false c7
    clear c7
    simp only [Option.some.injEq, Prod.mk.injEq] at H
    obtain ⟨rfl, rfl⟩ := H
    go_wp2
    repeat (go_quiet (fail); try go_wp2)
    go_ret2
    exact ⟨by first | rfl | (simp [errW_none, errW_some] <;> rfl) | (simp [*, errW_none, errW_some] <;> rfl), by repeat (first | (with_reducible first | exact HB.out | apply below_alloc | apply pw_below_drewN | apply below_drew1 | refine below_set ?_ GE101.out) | exact HB.out)⟩

end Go.Proofs.Ytkepeflplmkcmaa.Q
