/- Contracts of functions that the laws reach: a call returns what the plain Lean function of the same name tells. Conditions: those of each theorem. Made by gen.py, a program of this session, over the print of the translation. -/
import Derived.Test.YtkepeflplmkcmaaPx0
import Derived.Test.YtkepeflplmkcmaaPx1
import Derived.Test.YtkepeflplmkcmaaPx4
import Derived.Test.YtkepeflplmkcmaaPx5
import Derived.Test.YtkepeflplmkcmaaPx6
import Derived.Maps.OwnSet
import Derived.Maps.OwnOps
namespace Go.Proofs.Ytkepeflplmkcmaa.Q
open Go.RowKit Go.Proofs.YtkepeflplmkcmaaW.PrintWords Go.Proofs.YtkepeflplmkcmaaW.PrintLast Go.Proofs.YtkepeflplmkcmaaW.PrintMore
attribute [local go_sem] max2_int min2_int max_two min_two max_three min_three max_four min_four   -- for this text's walks alone
set_option linter.unusedVariables false
set_option linter.unusedSimpArgs false

/-! ### spec_AllWords: function 26 -/
def spec_AllWords.f (k : Nat) (a0_0 : Int) (l0_1 : List Int) : Option ((List (List Int)) × Bool) := (spec_spGood.f k a0_0 l0_1).bind fun t102 => (if t102 = true then ((spec_woWays.f k a0_0 l0_1).bind fun t103 => (if 0 < (t103.length : Int) then (if (rd t103 0) > 200 then (some (([] : List (List Int)), false)) else ((spec_woAll.f k a0_0 l0_1 ([] : List Int) 0).bind fun t107 => (some (t107, true)))) else (none))) else (some (([] : List (List Int)), false)))
theorem spec_AllWords.mono : ∀ a0 a1 k, LeO (spec_AllWords.f k a0 a1) (spec_AllWords.f (k + 1) a0 a1) := by
 intro a0 a1 k
 unfold spec_AllWords.f
 repeat' first
   | (with_reducible exact spec_spGood.mono _ _ _)
   | (with_reducible exact spec_woAll.mono _ _ _ _ _)
   | (with_reducible exact spec_woWays.mono _ _ _)
   | (with_reducible exact LeO.refl _)
   | (with_reducible exact LeO.none _)
   | (with_reducible refine LeO.ite ?_ ?_)
   | (with_reducible refine LeO.bind ?_ (fun _ => ?_))
   | exact spec_spGood.mono _ _ _
   | exact spec_woAll.mono _ _ _ _ _
   | exact spec_woWays.mono _ _ _
   | exact LeO.none _
   | refine LeO.ite ?_ ?_
   | refine LeO.bind ?_ (fun _ => ?_)
set_option maxHeartbeats 8000000 in
set_option maxRecDepth 100000 in
theorem spec_AllWords.calls (k : Nat) (a0_0 : Int) (A0_1 : Option Addr) (c0_1 : Nat) (l0_1 : List Int) (r1 : List (List Int)) (r2 : Bool) (w : World) (hr0_1 : Kd.C (Kd.int .i64) w A0_1 l0_1.length l0_1) (hc0_1 : l0_1.length ≤ c0_1) (h : spec_AllWords.f k a0_0 l0_1 = some (r1, r2)) :
  Calls Try.prog 26 #[.agg #[.int .i64 a0_0, .slice A0_1 l0_1.length c0_1]] w fun e w' => ∃ v0_ : Value, e = .returned (.tuple #[v0_, .bool r2]) ∧ Kd.N (Kd.slice 3 (Kd.int .i64)) 22 w' w.heap.size (fun k_ => (w.heap.size ≤ k_)) v0_ r1 ∧ Below w.heap.size w w' := by
 have hu28 := Try.underlying28
 have HR0_1 := asd hr0_1
 have HC0_1 := asd hc0_1
 clear hr0_1 hc0_1
 have HB := asd (Below.refl w.heap.size w)
 have H : ((spec_spGood.f k a0_0 l0_1).bind fun t102 => (if t102 = true then ((spec_woWays.f k a0_0 l0_1).bind fun t103 => (if 0 < (t103.length : Int) then (if (rd t103 0) > 200 then (some (([] : List (List Int)), false)) else ((spec_woAll.f k a0_0 l0_1 ([] : List Int) 0).bind fun t107 => (some (t107, true)))) else (none))) else (some (([] : List (List Int)), false)))) = some (r1, r2) := h
 clear h
 replace H := Option.bind_eq_some_iff.mp H
 obtain ⟨t102, A20, H⟩ := H
 replace H : (if t102 = true then ((spec_woWays.f k a0_0 l0_1).bind fun t103 => (if 0 < (t103.length : Int) then (if (rd t103 0) > 200 then (some (([] : List (List Int)), false)) else ((spec_woAll.f k a0_0 l0_1 ([] : List Int) 0).bind fun t107 => (some (t107, true)))) else (none))) else (some (([] : List (List Int)), false))) = some (r1, r2) := H
 have A2 := asd A20
 clear A20
 by_cases c3 : t102 = true
 ·
  subst c3
  have H1 : ((spec_woWays.f k a0_0 l0_1).bind fun t103 => (if 0 < (t103.length : Int) then (if (rd t103 0) > 200 then (some (([] : List (List Int)), false)) else ((spec_woAll.f k a0_0 l0_1 ([] : List Int) 0).bind fun t107 => (some (t107, true)))) else (none))) = some (r1, r2) := by rw [if_pos rfl] at H; exact H
  clear H
  have H := H1
  clear H1
  replace H := Option.bind_eq_some_iff.mp H
  obtain ⟨t103, A40, H⟩ := H
  replace H : (if 0 < (t103.length : Int) then (if (rd t103 0) > 200 then (some (([] : List (List Int)), false)) else ((spec_woAll.f k a0_0 l0_1 ([] : List Int) 0).bind fun t107 => (some (t107, true)))) else (none)) = some (r1, r2) := H
  have A4 := asd A40
  clear A40
  by_cases c5 : 0 < (t103.length : Int)
  ·
   rw [if_pos c5] at H
   have c5b0 : decide (0 < (t103.length : Int)) = true := decide_eq_true c5
   have c5b1 : decide (0 < t103.length) = true := decide_eq_true (by omega)
   clear c5
   by_cases c6 : (rd t103 0) > 200
   ·
    rw [if_pos c6] at H
    have c6b0 : decide (200 < (rd t103 0)) = true := decide_eq_true c6
    clear c6
    simp only [Option.some.injEq, Prod.mk.injEq] at H
    obtain ⟨rfl, rfl⟩ := H
    go_enter Try.func26, Try.ntmps26
    go_wp2_with (first | ((with_reducible refine gate_dst (N := 1) rfl ?_); refine box_event ?hg (N := 1) ?hd (cs := #[.int .i64 a0_0, .slice A0_1 l0_1.length c0_1]) (t := 28) ?hr ?_; (case hd => rfl); (case hg => rfl); (case hr => first | (go_simp; done) | (go_simp; rfl)); intro gb101 hg w7 hbox hb; have n0_ := asd (below_step (by repeat (first | (with_reducible first | exact HB.out | apply below_alloc | apply pw_below_drewN | apply below_drew1) | exact HB.out)) hb); have n1_ := asd (hbox); have n2_ := asd ((by rw [hg]; exact (below_size (by repeat (first | (with_reducible first | exact HB.out | apply below_alloc | apply pw_below_drewN | apply below_drew1) | exact HB.out))) : w.heap.size ≤ gb101)); have n3_ := asd ((by rw [hg]; exact (below_size (by repeat (first | (with_reducible first | exact HB.out | apply below_alloc | apply pw_below_drewN | apply below_drew1) | exact HB.out))) : w.heap.size ≤ gb101)); clear HB; have HB := n0_; have BK101 := n1_; have GW101 := n2_; have GE101 := n3_; clear n0_ n1_ n2_ n3_; clear hb hbox hg; have hcz8_0 : w7.cell? ⟨gb101, 0, none⟩ = some (.int .i64 a0_0) := (blk_cell BK101.out 0).trans rfl; have hcz8_1 : w7.cell? ⟨gb101, 1, none⟩ = some (.slice A0_1 l0_1.length c0_1) := (blk_cell BK101.out 1).trans rfl; have hfz8_0 := blk_frozen BK101.out 0; have hfz8_1 := blk_frozen BK101.out 1) | ((with_reducible refine gate_callee (f := 43) rfl ?_); refine goesL_ (some 5) rfl rfl Try.func43 (by kernel_rfl) rfl #[.agg #[.int .i64 a0_0, .slice A0_1 l0_1.length c0_1]] rfl (by (try simp only [List.map_toArray, List.map_cons, List.map_nil]); first | done | rfl | (simp only [List.length_drop, List.length_take]; rfl)) ?_; (with_reducible refine (spec_spGood.calls k a0_0 _ _ l0_1 true _ ?side1 ?side2 A2.out).mono ?_); (case side1 => repeat (first | exact (Kd.C_below HR0_1.out HB.out) | (with_reducible refine Kd.C_alloc ?_ _) | (with_reducible refine Kd.C_drewN ?_ _) | (with_reducible refine Kd.C_drew ?_))); (case side2 => exact HC0_1.out); rintro e w9 ⟨rfl, hb⟩; refine ⟨_, rfl, ?_⟩; have n0_ := asd (blk_below (upB BK101.out) hb); have n1_ := asd (below_step (by repeat (first | (with_reducible first | exact HB.out | apply below_alloc | apply pw_below_drewN | apply below_drew1 | refine below_set ?_ GE101.out) | exact HB.out)) hb); clear BK101; clear HB; have BK101 := n0_; have HB := n1_; clear n0_ n1_; (try clear hb); (try clear hb2); (try clear hk); (try clear hi); have hcz10_0 : w9.cell? ⟨gb101, 0, none⟩ = some (.int .i64 a0_0) := (blk_cell BK101.out 0).trans rfl; have hcz10_1 : w9.cell? ⟨gb101, 1, none⟩ = some (.slice A0_1 l0_1.length c0_1) := (blk_cell BK101.out 1).trans rfl; have hfz10_0 := blk_frozen BK101.out 0; have hfz10_1 := blk_frozen BK101.out 1) | (go_at_call 57; (with_reducible refine (spec_woWays.calls k a0_0 _ _ l0_1 t103 _ ?side1 ?side2 A4.out).mono ?_); (case side1 => repeat (first | exact (Kd.C_below HR0_1.out HB.out) | (with_reducible refine Kd.C_alloc ?_ _) | (with_reducible refine Kd.C_drewN ?_ _) | (with_reducible refine Kd.C_drew ?_))); (case side2 => exact HC0_1.out); rintro e w11 ⟨v104, rfl, ho0, hb⟩; have n0_ := asd (Kd.R_lower (Kd.R_newM (M := fun k_ => (w.heap.size ≤ k_)) ho0 (below_size (by repeat (first | (with_reducible first | exact HB.out | apply below_alloc | apply pw_below_drewN | apply below_drew1 | refine below_set ?_ GE101.out) | exact HB.out))) (fun k_ h_ => h_)) (below_size (by repeat (first | (with_reducible first | exact HB.out | apply below_alloc | apply pw_below_drewN | apply below_drew1 | refine below_set ?_ GE101.out) | exact HB.out)))); have n1_ := asd (blk_below (upB BK101.out) hb); have n2_ := asd (below_step (by repeat (first | (with_reducible first | exact HB.out | apply below_alloc | apply pw_below_drewN | apply below_drew1 | refine below_set ?_ GE101.out) | exact HB.out)) hb); clear BK101; clear HB; have HO105 := n0_; have BK101 := n1_; have HB := n2_; clear n0_ n1_ n2_; (try clear hb); (try clear hb2); (try clear hk); (try clear hi); (try clear ho0); obtain ⟨Ao12, co12, eo12⟩ := Kd.R_slice HO105.out; subst eo12; have p106 : 0 ≤ (0 : Int) := (by omega); have q106 : 0 < (t103.length : Int) := of_decide_eq_true (by first | (with_reducible assumption) | assumption); obtain ⟨ad106, e106, hx106_0⟩ := Kd.at_int (Kd.R_reads' HO105.out).2.2 0 p106 q106; cases e106; have qi106 : (0 < t103.length) = True := eq_true (by omega); (try rw [show ((0 : Int)).toNat = 0 from rfl] at hx106_0); (try rw [Addr.add_zero'] at hx106_0); replace p106 := eq_true p106; replace q106 := eq_true q106))
    go_ret2
    exact ⟨_, by first | rfl | (simp [errW_none, errW_some] <;> rfl) | (simp [*, errW_none, errW_some] <;> rfl), by first | exact Kd.S_nil _ _ _ _ _ | exact Kd.N_nil _ _ _ _ _ | exact Kd.V_nil _ _ _ _ _ | exact Kd.Q_nil _ _ _ _ _ | exact Kd.R_nil _ _ _ _ _, by repeat (first | (with_reducible first | exact HB.out | apply below_alloc | apply pw_below_drewN | apply below_drew1 | refine below_set ?_ GE101.out) | exact HB.out)⟩
   ·
    rw [if_neg c6] at H
    have c6b0 : decide (200 < (rd t103 0)) = false := decide_eq_false c6
    clear c6
    replace H := Option.bind_eq_some_iff.mp H
    obtain ⟨t107, A130, H⟩ := H
    replace H : (some (t107, true)) = some (r1, r2) := H
    have A13 := asd A130
    clear A130
    simp only [Option.some.injEq, Prod.mk.injEq] at H
    obtain ⟨rfl, rfl⟩ := H
    go_enter Try.func26, Try.ntmps26
    go_wp2_with (first | ((with_reducible refine gate_dst (N := 1) rfl ?_); refine box_event ?hg (N := 1) ?hd (cs := #[.int .i64 a0_0, .slice A0_1 l0_1.length c0_1]) (t := 28) ?hr ?_; (case hd => rfl); (case hg => rfl); (case hr => first | (go_simp; done) | (go_simp; rfl)); intro gb101 hg w14 hbox hb; have n0_ := asd (below_step (by repeat (first | (with_reducible first | exact HB.out | apply below_alloc | apply pw_below_drewN | apply below_drew1) | exact HB.out)) hb); have n1_ := asd (hbox); have n2_ := asd ((by rw [hg]; exact (below_size (by repeat (first | (with_reducible first | exact HB.out | apply below_alloc | apply pw_below_drewN | apply below_drew1) | exact HB.out))) : w.heap.size ≤ gb101)); have n3_ := asd ((by rw [hg]; exact (below_size (by repeat (first | (with_reducible first | exact HB.out | apply below_alloc | apply pw_below_drewN | apply below_drew1) | exact HB.out))) : w.heap.size ≤ gb101)); clear HB; have HB := n0_; have BK101 := n1_; have GW101 := n2_; have GE101 := n3_; clear n0_ n1_ n2_ n3_; clear hb hbox hg; have hcz15_0 : w14.cell? ⟨gb101, 0, none⟩ = some (.int .i64 a0_0) := (blk_cell BK101.out 0).trans rfl; have hcz15_1 : w14.cell? ⟨gb101, 1, none⟩ = some (.slice A0_1 l0_1.length c0_1) := (blk_cell BK101.out 1).trans rfl; have hfz15_0 := blk_frozen BK101.out 0; have hfz15_1 := blk_frozen BK101.out 1) | ((with_reducible refine gate_callee (f := 43) rfl ?_); refine goesL_ (some 5) rfl rfl Try.func43 (by kernel_rfl) rfl #[.agg #[.int .i64 a0_0, .slice A0_1 l0_1.length c0_1]] rfl (by (try simp only [List.map_toArray, List.map_cons, List.map_nil]); first | done | rfl | (simp only [List.length_drop, List.length_take]; rfl)) ?_; (with_reducible refine (spec_spGood.calls k a0_0 _ _ l0_1 true _ ?side1 ?side2 A2.out).mono ?_); (case side1 => repeat (first | exact (Kd.C_below HR0_1.out HB.out) | (with_reducible refine Kd.C_alloc ?_ _) | (with_reducible refine Kd.C_drewN ?_ _) | (with_reducible refine Kd.C_drew ?_))); (case side2 => exact HC0_1.out); rintro e w16 ⟨rfl, hb⟩; refine ⟨_, rfl, ?_⟩; have n0_ := asd (blk_below (upB BK101.out) hb); have n1_ := asd (below_step (by repeat (first | (with_reducible first | exact HB.out | apply below_alloc | apply pw_below_drewN | apply below_drew1 | refine below_set ?_ GE101.out) | exact HB.out)) hb); clear BK101; clear HB; have BK101 := n0_; have HB := n1_; clear n0_ n1_; (try clear hb); (try clear hb2); (try clear hk); (try clear hi); have hcz17_0 : w16.cell? ⟨gb101, 0, none⟩ = some (.int .i64 a0_0) := (blk_cell BK101.out 0).trans rfl; have hcz17_1 : w16.cell? ⟨gb101, 1, none⟩ = some (.slice A0_1 l0_1.length c0_1) := (blk_cell BK101.out 1).trans rfl; have hfz17_0 := blk_frozen BK101.out 0; have hfz17_1 := blk_frozen BK101.out 1) | (go_at_call 57; (with_reducible refine (spec_woWays.calls k a0_0 _ _ l0_1 t103 _ ?side1 ?side2 A4.out).mono ?_); (case side1 => repeat (first | exact (Kd.C_below HR0_1.out HB.out) | (with_reducible refine Kd.C_alloc ?_ _) | (with_reducible refine Kd.C_drewN ?_ _) | (with_reducible refine Kd.C_drew ?_))); (case side2 => exact HC0_1.out); rintro e w18 ⟨v104, rfl, ho0, hb⟩; have n0_ := asd (Kd.R_lower (Kd.R_newM (M := fun k_ => (w.heap.size ≤ k_)) ho0 (below_size (by repeat (first | (with_reducible first | exact HB.out | apply below_alloc | apply pw_below_drewN | apply below_drew1 | refine below_set ?_ GE101.out) | exact HB.out))) (fun k_ h_ => h_)) (below_size (by repeat (first | (with_reducible first | exact HB.out | apply below_alloc | apply pw_below_drewN | apply below_drew1 | refine below_set ?_ GE101.out) | exact HB.out)))); have n1_ := asd (blk_below (upB BK101.out) hb); have n2_ := asd (below_step (by repeat (first | (with_reducible first | exact HB.out | apply below_alloc | apply pw_below_drewN | apply below_drew1 | refine below_set ?_ GE101.out) | exact HB.out)) hb); clear BK101; clear HB; have HO105 := n0_; have BK101 := n1_; have HB := n2_; clear n0_ n1_ n2_; (try clear hb); (try clear hb2); (try clear hk); (try clear hi); (try clear ho0); obtain ⟨Ao19, co19, eo19⟩ := Kd.R_slice HO105.out; subst eo19; have p106 : 0 ≤ (0 : Int) := (by omega); have q106 : 0 < (t103.length : Int) := of_decide_eq_true (by first | (with_reducible assumption) | assumption); obtain ⟨ad106, e106, hx106_0⟩ := Kd.at_int (Kd.R_reads' HO105.out).2.2 0 p106 q106; cases e106; have qi106 : (0 < t103.length) = True := eq_true (by omega); (try rw [show ((0 : Int)).toNat = 0 from rfl] at hx106_0); (try rw [Addr.add_zero'] at hx106_0); replace p106 := eq_true p106; replace q106 := eq_true q106; have hcz20_0 : w18.cell? ⟨gb101, 0, none⟩ = some (.int .i64 a0_0) := (blk_cell BK101.out 0).trans rfl; have hcz20_1 : w18.cell? ⟨gb101, 1, none⟩ = some (.slice A0_1 l0_1.length c0_1) := (blk_cell BK101.out 1).trans rfl; have hfz20_0 := blk_frozen BK101.out 0; have hfz20_1 := blk_frozen BK101.out 1) | ((with_reducible refine gate_callee (f := 66) rfl ?_); refine goesL_ (some 15) rfl rfl Try.func66 (by kernel_rfl) rfl #[.agg #[.int .i64 a0_0, .slice A0_1 l0_1.length c0_1], .slice none 0 0, .int .i64 0] rfl (by (try simp only [List.map_toArray, List.map_cons, List.map_nil]); first | done | rfl | (simp only [List.length_drop, List.length_take]; rfl)) ?_; (refine (spec_woAll.calls k a0_0 _ _ l0_1 _ _ ([] : List Int) 0 t107 _ ?side1 ?side2 ?side3 ?side4 A13.out).mono ?_); (case side1 => repeat (first | exact (Kd.C_below HR0_1.out HB.out) | (with_reducible refine Kd.C_alloc ?_ _) | (with_reducible refine Kd.C_drewN ?_ _) | (with_reducible refine Kd.C_drew ?_))); (case side2 => exact HC0_1.out); (case side3 => exact Kd.C_nil _ _); (case side4 => exact Nat.le_refl _); rintro e w21 ⟨v108, rfl, ho0, hb⟩; refine ⟨_, rfl, ?_⟩; have n0_ := asd (Kd.R_below (upR <| HO105.out) hb); have n1_ := asd (Kd.N_lower (Kd.N_mono (ok' := fun k_ => (w.heap.size ≤ k_) ∧ some k_ ≠ (.slice (some ad106) t103.length co19 : Value).ownBlock ∧ k_ ≠ gb101) ho0 (fun k_ hk_ => ⟨(Nat.le_trans (below_size (by repeat (first | (with_reducible first | exact HB.out | apply below_alloc | apply pw_below_drewN | apply below_drew1 | refine below_set ?_ GE101.out) | exact HB.out))) hk_), (Kd.fresh' (Kd.R_lt (upR <| HO105.out)) k_ hk_), (Kd.freshB (upB BK101.out) k_ hk_)⟩)) (below_size (by repeat (first | (with_reducible first | exact HB.out | apply below_alloc | apply pw_below_drewN | apply below_drew1 | refine below_set ?_ GE101.out) | exact HB.out)))); have n2_ := asd (blk_below (upB BK101.out) hb); have n3_ := asd (below_step (by repeat (first | (with_reducible first | exact HB.out | apply below_alloc | apply pw_below_drewN | apply below_drew1 | refine below_set ?_ GE101.out) | exact HB.out)) hb); clear HO105; clear BK101; clear HB; have HO105 := n0_; have HO109 := n1_; have BK101 := n2_; have HB := n3_; clear n0_ n1_ n2_ n3_; (try clear hb); (try clear hb2); (try clear hk); (try clear hi); (try clear ho0)))
    go_ret2
    exact ⟨_, by first | rfl | (simp [errW_none, errW_some] <;> rfl) | (simp [*, errW_none, errW_some] <;> rfl), by (with_reducible repeat (first | apply Kd.N_alloc | apply Kd.N_drewN | apply Kd.N_drew)); exact Kd.N_mono HO109.out (fun _ hk => hk.1), by repeat (first | (with_reducible first | exact HB.out | apply below_alloc | apply pw_below_drewN | apply below_drew1 | refine below_set ?_ GE101.out) | exact HB.out)⟩
  ·
   rw [if_neg c5] at H
   exact absurd H (by simp)
 ·
  replace c3 := Bool.eq_false_iff.mpr c3
  subst c3
  have H1 : (some (([] : List (List Int)), false)) = some (r1, r2) := by rw [if_neg (show ¬ (false = true) by decide)] at H; exact H
  clear H
  have H := H1
  clear H1
  simp only [Option.some.injEq, Prod.mk.injEq] at H
  obtain ⟨rfl, rfl⟩ := H
  go_enter Try.func26, Try.ntmps26
  go_wp2_with (first | ((with_reducible refine gate_dst (N := 1) rfl ?_); refine box_event ?hg (N := 1) ?hd (cs := #[.int .i64 a0_0, .slice A0_1 l0_1.length c0_1]) (t := 28) ?hr ?_; (case hd => rfl); (case hg => rfl); (case hr => first | (go_simp; done) | (go_simp; rfl)); intro gb101 hg w22 hbox hb; have n0_ := asd (below_step (by repeat (first | (with_reducible first | exact HB.out | apply below_alloc | apply pw_below_drewN | apply below_drew1) | exact HB.out)) hb); have n1_ := asd (hbox); have n2_ := asd ((by rw [hg]; exact (below_size (by repeat (first | (with_reducible first | exact HB.out | apply below_alloc | apply pw_below_drewN | apply below_drew1) | exact HB.out))) : w.heap.size ≤ gb101)); have n3_ := asd ((by rw [hg]; exact (below_size (by repeat (first | (with_reducible first | exact HB.out | apply below_alloc | apply pw_below_drewN | apply below_drew1) | exact HB.out))) : w.heap.size ≤ gb101)); clear HB; have HB := n0_; have BK101 := n1_; have GW101 := n2_; have GE101 := n3_; clear n0_ n1_ n2_ n3_; clear hb hbox hg; have hcz23_0 : w22.cell? ⟨gb101, 0, none⟩ = some (.int .i64 a0_0) := (blk_cell BK101.out 0).trans rfl; have hcz23_1 : w22.cell? ⟨gb101, 1, none⟩ = some (.slice A0_1 l0_1.length c0_1) := (blk_cell BK101.out 1).trans rfl; have hfz23_0 := blk_frozen BK101.out 0; have hfz23_1 := blk_frozen BK101.out 1) | ((with_reducible refine gate_callee (f := 43) rfl ?_); refine goesL_ (some 5) rfl rfl Try.func43 (by kernel_rfl) rfl #[.agg #[.int .i64 a0_0, .slice A0_1 l0_1.length c0_1]] rfl (by (try simp only [List.map_toArray, List.map_cons, List.map_nil]); first | done | rfl | (simp only [List.length_drop, List.length_take]; rfl)) ?_; (with_reducible refine (spec_spGood.calls k a0_0 _ _ l0_1 false _ ?side1 ?side2 A2.out).mono ?_); (case side1 => repeat (first | exact (Kd.C_below HR0_1.out HB.out) | (with_reducible refine Kd.C_alloc ?_ _) | (with_reducible refine Kd.C_drewN ?_ _) | (with_reducible refine Kd.C_drew ?_))); (case side2 => exact HC0_1.out); rintro e w24 ⟨rfl, hb⟩; refine ⟨_, rfl, ?_⟩; have n0_ := asd (blk_below (upB BK101.out) hb); have n1_ := asd (below_step (by repeat (first | (with_reducible first | exact HB.out | apply below_alloc | apply pw_below_drewN | apply below_drew1 | refine below_set ?_ GE101.out) | exact HB.out)) hb); clear BK101; clear HB; have BK101 := n0_; have HB := n1_; clear n0_ n1_; (try clear hb); (try clear hb2); (try clear hk); (try clear hi)))
  go_ret2
  exact ⟨_, by first | rfl | (simp [errW_none, errW_some] <;> rfl) | (simp [*, errW_none, errW_some] <;> rfl), by first | exact Kd.S_nil _ _ _ _ _ | exact Kd.N_nil _ _ _ _ _ | exact Kd.V_nil _ _ _ _ _ | exact Kd.Q_nil _ _ _ _ _ | exact Kd.R_nil _ _ _ _ _, by repeat (first | (with_reducible first | exact HB.out | apply below_alloc | apply pw_below_drewN | apply below_drew1 | refine below_set ?_ GE101.out) | exact HB.out)⟩

/-! ### impl_within: function 61 -/
def impl_within.f (a0 : Int) (a1 : Int) (a2 : Int) : Option (Bool) := if a1 ≤ a0 then (some (decide (a0 ≤ a2))) else (some false)
set_option maxHeartbeats 8000000 in
set_option maxRecDepth 100000 in
theorem impl_within.calls (a0 : Int) (a1 : Int) (a2 : Int) (r : Bool) (w : World) (h : impl_within.f a0 a1 a2 = some r) :
    Calls Try.prog 61 #[.int .i64 a0, .int .i64 a1, .int .i64 a2] w fun e w' => e = .returned (.bool r) ∧ Drawn0 w w' := by
  have H : (if a1 ≤ a0 then (some (decide (a0 ≤ a2))) else (some false)) = some r := h
  clear h
  by_cases c4 : a1 ≤ a0
  · rw [if_pos c4] at H
    have c4b0 : decide (a1 ≤ a0) = true := decide_eq_true c4
    clear c4
    obtain rfl := Option.some.inj H
    go_enter Try.func61, Try.ntmps61
    go_wp2
    go_ret
    exact ⟨by first | rfl | (simp; done) | (simp [*]; done), by repeat (first | exact Drawn0.refl _ | apply Drawn0.step)⟩
  · rw [if_neg c4] at H
    have c4b0 : decide (a1 ≤ a0) = false := decide_eq_false c4
    clear c4
    obtain rfl := Option.some.inj H
    go_enter Try.func61, Try.ntmps61
    go_wp2
    go_ret
    exact ⟨by first | rfl | (simp; done) | (simp [*]; done), by repeat (first | exact Drawn0.refl _ | apply Drawn0.step)⟩

/-! ### impl_isSize: function 100 -/
def impl_isSize.f (a0 : Int) : Option (Bool) := (impl_within.f a0 1 7).bind fun t101 => (some t101)
set_option maxHeartbeats 8000000 in
set_option maxRecDepth 100000 in
theorem impl_isSize.calls (a0 : Int) (r : Bool) (w : World) (h : impl_isSize.f a0 = some r) :
    Calls Try.prog 100 #[.int .i64 a0] w fun e w' => e = .returned (.bool r) ∧ Drawn0 w w' := by
  have H : ((impl_within.f a0 1 7).bind fun t101 => (some t101)) = some r := h
  clear h
  replace H := Option.bind_eq_some_iff.mp H
  obtain ⟨t101, A20, H⟩ := H
  replace H : (some t101) = some r := H
  have A2 := Aside0.mk A20
  clear A20
  obtain rfl := Option.some.inj H
  go_enter Try.func100, Try.ntmps100
  go_wp2_with (first | ((with_reducible refine gate_callee (f := 61) rfl ?_); refine goesL_ (some 4) rfl rfl Try.func61 (by kernel_rfl) rfl #[.int .i64 a0, .int .i64 1, .int .i64 7] rfl (by (try simp only [List.map_toArray, List.map_cons, List.map_nil]); first | done | rfl | (simp only [List.length_drop, List.length_take]; rfl)) ?_; (with_reducible refine (impl_within.calls a0 1 7 t101 _ A2.out).mono ?_); rintro e w' ⟨rfl, ⟨nd, rfl⟩⟩; refine ⟨_, rfl, ?_⟩))
  go_ret
  exact ⟨by first | rfl | (simp; done) | (simp [*]; done), by repeat (first | exact Drawn0.refl _ | apply Drawn0.step)⟩

-- HAND with impl.isSize
theorem isSize_ok (n : Int) : impl_isSize.f n = some (decide (1 ≤ n) && decide (n ≤ 7)) := by
  unfold impl_isSize.f impl_within.f
  by_cases h : 1 ≤ n
  · rw [if_pos h]; simp [h]
  · rw [if_neg h]; simp [h]

/-! ### impl_isSet: function 101 -/
def impl_isSet.f (a0 : Int) (a1 : Int) : Option (Bool) := if 0 ≤ a0 then ((impl_within.f a1 0 (wrap64 ((shl .i64 1 a0) - 1))).bind fun t101 => (some t101)) else (none)
set_option maxHeartbeats 8000000 in
set_option maxRecDepth 100000 in
theorem impl_isSet.calls (a0 : Int) (a1 : Int) (r : Bool) (w : World) (h : impl_isSet.f a0 a1 = some r) :
    Calls Try.prog 101 #[.int .i64 a0, .int .i64 a1] w fun e w' => e = .returned (.bool r) ∧ Drawn0 w w' := by
  have H : (if 0 ≤ a0 then ((impl_within.f a1 0 (wrap64 ((shl .i64 1 a0) - 1))).bind fun t101 => (some t101)) else (none)) = some r := h
  clear h
  by_cases c3 : 0 ≤ a0
  · rw [if_pos c3] at H
    have c3b0 := eq_true c3
    have c3b1 : decide (0 ≤ a0) = true := decide_eq_true c3
    clear c3
    obtain ⟨ji4, hji4⟩ : ∃ j_ : Int, (shl .i64 1 a0) = j_ := ⟨_, rfl⟩
    replace H : ((impl_within.f a1 0 (wrap64 ((ji4) - 1))).bind fun t101 => (some t101)) = some r := by first | (rw [hji4] at H; exact H) | (simp only [hji4] at H ⊢; exact H)
    have hji4_ : (IntKind.i64.wrap (1 * 2 ^ min a0.toNat 64)) = ji4 := hji4
    have hji4z : a0 ≤ 64 → (IntKind.i64.wrap (1 * 2 ^ a0.toNat)) = ji4 := shl_small hji4
    have hji4u : (IntKind.i64.wrap (2 ^ min a0.toNat 64)) = ji4 := by have h_ := hji4_; rw [Int.one_mul] at h_; exact h_
    have hji4v : a0 ≤ 64 → (IntKind.i64.wrap (2 ^ a0.toNat)) = ji4 := fun hle_ => by have h_ := hji4z hle_; rw [Int.one_mul] at h_; exact h_
    have hji4y : (wrap64 (1 * 2 ^ min a0.toNat 64)) = ji4 := (i64_w _).symm.trans hji4_
    have hji4x : a0 ≤ 64 → (wrap64 (1 * 2 ^ a0.toNat)) = ji4 := fun h_ => (i64_w _).symm.trans (hji4z h_)
    replace H := Option.bind_eq_some_iff.mp H
    obtain ⟨t101, A50, H⟩ := H
    replace H : (some t101) = some r := H
    have A5 := Aside0.mk A50
    clear A50
    obtain rfl := Option.some.inj H
    go_enter Try.func101, Try.ntmps101
    go_wp2_with (first | ((with_reducible refine gate_callee (f := 61) rfl ?_); refine goesL_ (some 9) rfl rfl Try.func61 (by kernel_rfl) rfl #[.int .i64 a1, .int .i64 0, .int .i64 (wrap64 ((ji4) - 1))] rfl (by (try simp only [List.map_toArray, List.map_cons, List.map_nil]); first | done | (simp only [hji4]; rfl) | rfl | (simp only [List.length_drop, List.length_take]; rfl)) ?_; (with_reducible refine (impl_within.calls a1 0 (wrap64 ((ji4) - 1)) t101 _ A5.out).mono ?_); rintro e w' ⟨rfl, ⟨nd, rfl⟩⟩; refine ⟨_, rfl, ?_⟩))
    go_ret
    exact ⟨by first | rfl | (simp; done) | (simp only [← hji4] <;> (first | rfl | simp)) | (simp [*]; done), by repeat (first | exact Drawn0.refl _ | apply Drawn0.step)⟩
  · rw [if_neg c3] at H
    exact absurd H (by simp)

-- HAND with impl.isSet
theorem isSet_ok (n x : Int) (h0 : 0 ≤ n) (h1 : n ≤ 7) : impl_isSet.f n x = some (decide (0 ≤ x) && decide (x < 2 ^ n.toNat)) := by
  unfold impl_isSet.f impl_within.f
  rw [if_pos h0, wrapPow h0 h1]
  by_cases h : 0 ≤ x
  · rw [if_pos h]
    simp only [Option.bind_some, h, decide_true, Bool.true_and]
    congr 1
    exact decide_eq_decide.2 (by omega)
  · rw [if_neg h]; simp [h]

-- HAND impl_Space_family: function 102
set_option maxHeartbeats 8000000 in
set_option maxRecDepth 100000 in
theorem impl_Space_family.walk (a0 : Int) (A : Option Addr) (c : Nat) (l : List Int) (w : World) (hr : Kd.C (Kd.int .i64) w A l.length l) (hc : l.length ≤ c) (hl : ∀ x ∈ l, 0 ≤ x ∧ x < 128) :
    Calls Try.prog 102 #[.agg #[.int .i64 a0, .slice A l.length c]] w fun e w' => ∃ b, e = .returned (.pointer (some ⟨b, 0, none⟩)) ∧ FamAt w' b (famOf l) ∧ w.heap.size ≤ b ∧ Below w.heap.size w w' := by
  have HL := Aside0.mk hl
  have HR := Aside0.mk hr
  have HC := Aside0.mk hc
  have HM := Aside0.mk (Kd.C_max hr)
  clear hl hr hc
  go_enter Try.func102, Try.ntmps102
  go_wp2
  go_loopw [11] (fun v11 wr => ∃ k : Nat, Aside0 (k ≤ l.length) ∧ v11 = .int .i64 k ∧ Aside0 (FamAt wr (w.heap.size + 1) (famOf (l.take k))) ∧ Aside0 (Below w.heap.size w wr)) (fun v11 _ => l.length - (intOf v11).toNat)
  case atStart =>
    refine ⟨0, ⟨Nat.zero_le _⟩, rfl, ⟨?_⟩, ⟨below_alloc (below_alloc (Below.refl _ _) _) _⟩⟩
    have := FamAt.new (w.alloc (.cells #[.int .i64 a0, .slice A l.length c] 28)) (famOf []) (famOf_length _)
    rw [← zeroFam] at this
    simpa using this
  case round =>
    obtain ⟨k, hk, rfl, HF, HB⟩ := hrel
    by_cases hlt : k < l.length
    · obtain ⟨ad, e, hcell⟩ := Kd.at_int (Kd.C_below HR.out HB.out) (k : Int) (by omega) (by omega)
      have hx := HL.out _ (rd_mem (l := l) (i := (k : Int)) (by omega) (by omega))
      have HT := Aside0.mk (take_rd l k hlt)
      obtain ⟨x, hX⟩ : ∃ x, x = rd l k := ⟨_, rfl⟩
      rw [← hX] at hx hcell HT
      clear hX
      cases e
      rw [Int.toNat_natCast] at hcell
      obtain ⟨h0, h1⟩ := hx
      have hfc := HF.out.at_ x h0 h1
      have hfr := HF.out.fr x.toNat
      have hm := HM.out
      go_wp2
      go_roundw
      case rel =>
        refine ⟨k + 1, ⟨by omega⟩, by go_num, ⟨?_⟩, ⟨?_⟩⟩
        · rw [HT.out, ← famOf_snoc _ _ h0]
          exact HF.out.set _ _
        · exact below_set HB.out (Nat.le_succ _)
      case measure => simp [intOf]; omega
    · have hk' := hk.out
      obtain rfl : k = l.length := by omega
      have hm := HM.out
      go_wp2
      go_ret
      refine ⟨_, rfl, ?_, Nat.le_succ _, HB.out⟩
      have := HF.out
      rwa [List.take_length] at this
/-- The family of a list of sets, if they are such. -/
def impl_Space_family.f (a0_0 : Int) (l0_1 : List Int) : Option (List Bool) := if (l0_1.all fun x => decide (0 ≤ x) && decide (x < 128)) = true then some (famOf l0_1) else none
theorem impl_Space_family.len {a0_0 : Int} {l0_1 : List Int} {r : List Bool} (h : impl_Space_family.f a0_0 l0_1 = some r) : r.length = 128 := by
  unfold impl_Space_family.f at h
  split at h
  · rw [← Option.some.inj h]; exact famOf_length _
  · cases h
theorem impl_Space_family.calls (a0_0 : Int) (A0_1 : Option Addr) (c0_1 : Nat) (l0_1 : List Int) (r : List Bool) (w : World) (hr0_1 : Kd.C (Kd.int .i64) w A0_1 l0_1.length l0_1) (hc0_1 : l0_1.length ≤ c0_1) (h : impl_Space_family.f a0_0 l0_1 = some r) :
    Calls Try.prog 102 #[.agg #[.int .i64 a0_0, .slice A0_1 l0_1.length c0_1]] w fun e w' => ∃ v0_ : Value, e = .returned (ptrOf v0_) ∧ Kd.R Kd.bool 126 w' w.heap.size (fun _ => True) v0_ r ∧ Below w.heap.size w w' := by
  unfold impl_Space_family.f at h
  split at h
  · rename_i hl
    rw [List.all_eq_true] at hl
    have e := Option.some.inj h
    subst e
    refine (impl_Space_family.walk a0_0 A0_1 c0_1 l0_1 w hr0_1 hc0_1 (fun x hx => by have := hl x hx; simpa using this)).mono ?_
    rintro e w' ⟨b, rfl, HF, hb, hbel⟩
    exact ⟨_, rfl, HF.own hb, hbel⟩
  · cases h

-- HAND with (impl.Space).family
theorem family_f {n : Int} {l : List Int} (h : isSpaceB n l = true) : impl_Space_family.f n l = some (famOf l) := by
  unfold impl_Space_family.f
  rw [if_pos]
  rw [List.all_eq_true]
  intro x hx
  have := isSpaceB_128 h x hx
  simp
  omega

/-! ### impl_Space_all: function 103 -/
def impl_Space_all.f (a0_0 : Int) (l0_1 : List Int) : Option (Int) := if 0 ≤ a0_0 then (some (wrap64 ((shl .i64 1 a0_0) - 1))) else (none)
set_option maxHeartbeats 8000000 in
set_option maxRecDepth 100000 in
theorem impl_Space_all.calls (a0_0 : Int) (A0_1 : Option Addr) (c0_1 : Nat) (l0_1 : List Int) (r : Int) (w : World) (hr0_1 : Kd.C (Kd.int .i64) w A0_1 l0_1.length l0_1) (hc0_1 : l0_1.length ≤ c0_1) (h : impl_Space_all.f a0_0 l0_1 = some r) :
    Calls Try.prog 103 #[.agg #[.int .i64 a0_0, .slice A0_1 l0_1.length c0_1]] w fun e w' => e = .returned (.int .i64 r) ∧ Below w.heap.size w w' := by
  have hu28 := Try.underlying28
  have HR0_1 := Aside0.mk hr0_1
  have HC0_1 := Aside0.mk hc0_1
  clear hr0_1 hc0_1
  have HB := Aside0.mk (Below.refl w.heap.size w)
  have H : (if 0 ≤ a0_0 then (some (wrap64 ((shl .i64 1 a0_0) - 1))) else (none)) = some r := h
  clear h
  by_cases c2 : 0 ≤ a0_0
  · rw [if_pos c2] at H
    have c2b0 := eq_true c2
    have c2b1 : decide (0 ≤ a0_0) = true := decide_eq_true c2
    clear c2
    obtain ⟨ji3, hji3⟩ : ∃ j_ : Int, (shl .i64 1 a0_0) = j_ := ⟨_, rfl⟩
    replace H : (some (wrap64 ((ji3) - 1))) = some r := by first | (rw [hji3] at H; exact H) | (simp only [hji3] at H ⊢; exact H)
    have hji3_ : (IntKind.i64.wrap (1 * 2 ^ min a0_0.toNat 64)) = ji3 := hji3
    have hji3z : a0_0 ≤ 64 → (IntKind.i64.wrap (1 * 2 ^ a0_0.toNat)) = ji3 := shl_small hji3
    have hji3u : (IntKind.i64.wrap (2 ^ min a0_0.toNat 64)) = ji3 := by have h_ := hji3_; rw [Int.one_mul] at h_; exact h_
    have hji3v : a0_0 ≤ 64 → (IntKind.i64.wrap (2 ^ a0_0.toNat)) = ji3 := fun hle_ => by have h_ := hji3z hle_; rw [Int.one_mul] at h_; exact h_
    have hji3y : (wrap64 (1 * 2 ^ min a0_0.toNat 64)) = ji3 := (i64_w _).symm.trans hji3_
    have hji3x : a0_0 ≤ 64 → (wrap64 (1 * 2 ^ a0_0.toNat)) = ji3 := fun h_ => (i64_w _).symm.trans (hji3z h_)
    obtain rfl := Option.some.inj H
    go_enter Try.func103, Try.ntmps103
    go_wp2_with (first | ((with_reducible refine gate_dst (N := 1) rfl ?_); refine box_event ?hg (N := 1) ?hd (cs := #[.int .i64 a0_0, .slice A0_1 l0_1.length c0_1]) (t := 28) ?hr ?_; (case hd => rfl); (case hg => rfl); (case hr => first | (go_simp; done) | (go_simp; rfl)); intro gb101 hg w4 hbox hb; have n0_ := Aside0.mk (below_step (by repeat (first | (with_reducible first | exact HB.out | apply below_alloc | apply pw_below_drewN | apply below_drew1) | exact HB.out)) hb); have n1_ := Aside0.mk (hbox); have n2_ := Aside0.mk ((by rw [hg]; exact (below_size (by repeat (first | (with_reducible first | exact HB.out | apply below_alloc | apply pw_below_drewN | apply below_drew1) | exact HB.out))) : w.heap.size ≤ gb101)); have n3_ := Aside0.mk ((by rw [hg]; exact (below_size (by repeat (first | (with_reducible first | exact HB.out | apply below_alloc | apply pw_below_drewN | apply below_drew1) | exact HB.out))) : w.heap.size ≤ gb101)); clear HB; have HB := n0_; have BK101 := n1_; have GW101 := n2_; have GE101 := n3_; clear n0_ n1_ n2_ n3_; clear hb hbox hg; have hcz5_0 : w4.cell? ⟨gb101, 0, none⟩ = some (.int .i64 a0_0) := (blk_cell BK101.out 0).trans rfl; have hcz5_1 : w4.cell? ⟨gb101, 1, none⟩ = some (.slice A0_1 l0_1.length c0_1) := (blk_cell BK101.out 1).trans rfl; have hfz5_0 := blk_frozen BK101.out 0; have hfz5_1 := blk_frozen BK101.out 1))
    go_ret
    exact ⟨by first | rfl | (simp [errW_none, errW_some] <;> rfl) | (simp only [← hji3]; first | rfl | (simp [errW_none, errW_some] <;> rfl)) | (simp [*, errW_none, errW_some] <;> rfl), by repeat (first | (with_reducible first | exact HB.out | apply below_alloc | apply pw_below_drewN | apply below_drew1 | refine below_set ?_ GE101.out) | exact HB.out)⟩
  · rw [if_neg c2] at H
    exact absurd H (by simp)

-- HAND with (impl.Space).all
theorem all_ok (n : Int) (l : List Int) (h0 : 0 ≤ n) (h1 : n ≤ 7) : impl_Space_all.f n l = some (2 ^ n.toNat - 1) := by
  unfold impl_Space_all.f
  rw [if_pos h0, wrapPow h0 h1]

/-! ### impl_items: function 109 -/
def impl_items.l0 : Nat → Int → List Int → Int → Option (List Int)
 | 0, _, _, _ => none
 | k + 1, x0, x3, x6 => if x6 < 7 then (if 0 ≤ x6 then (if (Go.bits .and .i64 (shr .i64 x0 x6) 1) = 1 then (if x3.length < 17592186044416 then (impl_items.l0 k x0 (x3 ++ [x6]) (wrap64 (x6 + 1))) else (none)) else (impl_items.l0 k x0 x3 (wrap64 (x6 + 1)))) else (none)) else (some x3)
def impl_items.f (k : Nat) (a0 : Int) : Option (List Int) := impl_items.l0 k a0 (([] : List Int)) 0
theorem impl_items.mono_l : ∀ k, (∀ y0 y1 y2, LeO (impl_items.l0 k y0 y1 y2) (impl_items.l0 (k + 1) y0 y1 y2))
 | 0 => fun _ _ _ r h => by simp [impl_items.l0] at h
 | k + 1 => by
  have ih0 := impl_items.mono_l k
  ·
   intro y0 y1 y2
   unfold impl_items.l0
   repeat' first
   | (with_reducible exact ih0 _ _ _)
   | (with_reducible exact LeO.refl _)
   | (with_reducible exact LeO.none _)
   | (with_reducible refine LeO.ite ?_ ?_)
   | (with_reducible refine LeO.bind ?_ (fun _ => ?_))
   | exact ih0 _ _ _
   | exact LeO.none _
   | refine LeO.ite ?_ ?_
   | refine LeO.bind ?_ (fun _ => ?_)
theorem impl_items.mono : ∀ a0 k, LeO (impl_items.f k a0) (impl_items.f (k + 1) a0) := by
 intro a0 k
 have ih0 := impl_items.mono_l k
 unfold impl_items.f
 repeat' first
   | (with_reducible exact ih0 _ _ _)
   | (with_reducible exact LeO.refl _)
   | (with_reducible exact LeO.none _)
   | (with_reducible refine LeO.ite ?_ ?_)
   | (with_reducible refine LeO.bind ?_ (fun _ => ?_))
   | exact ih0 _ _ _
   | exact LeO.none _
   | refine LeO.ite ?_ ?_
   | refine LeO.bind ?_ (fun _ => ?_)
set_option maxHeartbeats 8000000 in
set_option maxRecDepth 100000 in
theorem impl_items.calls (k : Nat) (a0 : Int) (r : List Int) (w : World) (h : impl_items.f k a0 = some r) :
  Calls Try.prog 109 #[.int .i64 a0] w fun e w' => ∃ v0_ : Value, e = .returned (v0_) ∧ Kd.R (Kd.int .i64) 3 w' w.heap.size (fun _ => True) v0_ r ∧ Below w.heap.size w w' := by
 have HB := asd (Below.refl w.heap.size w)
 have H : (impl_items.l0 k a0 (([] : List Int)) 0) = some r := h
 clear h
 obtain ⟨y101, hy101⟩ : ∃ y_ : List Int, y_ = (([] : List Int)) := ⟨_, rfl⟩
 replace H : (impl_items.l0 k a0 y101 0) = some r := by first | (rw [hy101]; with_reducible exact H) | (have H2_ := (Option.bind_some _ _).symm.trans H; rw [hy101]; with_reducible exact H2_) | (have H2_ := (Option.bind_some _ _).symm.trans H; with_reducible exact H2_) | with_reducible exact H | (rw [hy101]; exact H) | exact H
 have Ny101 := asd hy101
 clear hy101
 have H' := asd H
 clear H
 go_enter Try.func109, Try.ntmps109
 go_wp2_with (first | ((with_reducible refine gate_dst (N := 5) rfl ?_); refine Kd.R_lit (Kd.int .i64) _ 3 ?hg (N := 5) ?hd (xs := ([] : List Int)) (inner := []) (ok := fun _ => True) (okp := fun _ => True) ?hr ?hp (fun _ hk => hk) trivial (Below.refl _ _) (Nat.le_refl _) (by simp) ?_; (case hd => rfl); (case hg => rfl); (case hr => first | (go_simp; done) | (go_simp; rfl)); (case hp => exact (Reps.none _ _)); intro v102 w2 ho3 hb hg_ hnew_; clear hg_ hnew_; (first | rw [← Ny101.out] at ho3 | (simp only [Int.reduceToNat] at ho3; rw [← Ny101.out] at ho3)); have n0_ := asd (Kd.R_lower ho3 (below_size (by repeat (first | (with_reducible first | exact HB.out | apply below_alloc | apply pw_below_drewN | apply below_drew1) | exact HB.out)))); have n1_ := asd (below_step (by repeat (first | (with_reducible first | exact HB.out | apply below_alloc | apply pw_below_drewN | apply below_drew1) | exact HB.out)) hb); clear HB; have HO103 := n0_; have HB := n1_; clear n0_ n1_; clear hb ho3))
 go_loopg [3, 6] k (fun kq v3 v6 w' => ∃ (x3_1 : List Int) (x6_1 : Int), v6 = .int .i64 x6_1 ∧ Aside0 (impl_items.l0 kq a0 x3_1 x6_1 = some r) ∧ Aside0 (kq ≤ k) ∧ Aside0 (Kd.R (Kd.int .i64) 3 w' w.heap.size (fun _ => True) v3 x3_1) ∧ Aside0 (Below w.heap.size w w'))
 case atStart => exact ⟨(y101), (0), (by first | rfl | (simp; done) | (simp [*]; done)), H', ⟨Nat.le_refl _⟩, ⟨by (with_reducible repeat (first | apply Kd.R_alloc | apply Kd.R_drewN | apply Kd.R_drew)); exact HO103.out⟩, ⟨by repeat (first | (with_reducible first | exact HB.out | apply below_alloc | apply pw_below_drewN | apply below_drew1) | exact HB.out)⟩⟩
 case round =>
  clear H'
  try clear c1
  try clear p2
  try clear HO_3; skip
  obtain ⟨x3_1, x6_1, rfl, HA, HK1, HO_3, HB⟩ := hrel
  cases gk with
  | zero => exact absurd HA.out (by simp [impl_items.l0])
  | succ k1 =>
   have H := HA.out
   clear HA
   simp only [impl_items.l0] at H
   by_cases c4 : x6_1 < 7
   ·
    rw [if_pos c4] at H
    have c4b0 : decide (x6_1 < 7) = true := decide_eq_true c4
    clear c4
    by_cases c5 : 0 ≤ x6_1
    ·
     rw [if_pos c5] at H
     have c5b0 := eq_true c5
     have c5b1 : decide (0 ≤ x6_1) = true := decide_eq_true c5
     clear c5
     obtain ⟨ji6, hji6⟩ : ∃ j_ : Int, (shr .i64 a0 x6_1) = j_ := ⟨_, rfl⟩
     replace H : (if (Go.bits .and .i64 (ji6) 1) = 1 then (if x3_1.length < 17592186044416 then (impl_items.l0 k1 a0 (x3_1 ++ [x6_1]) (wrap64 (x6_1 + 1))) else (none)) else (impl_items.l0 k1 a0 x3_1 (wrap64 (x6_1 + 1)))) = some r := by first | (rw [hji6] at H; exact H) | (simp only [hji6] at H ⊢; exact H)
     have hji6_ : (a0 / 2 ^ min x6_1.toNat 64) = ji6 := hji6
     have hji6z : x6_1 ≤ 64 → (a0 / 2 ^ x6_1.toNat) = ji6 := shr_small hji6
     by_cases c7 : (Go.bits .and .i64 (ji6) 1) = 1
     ·
      rw [if_pos c7] at H
      have c7b0 : ((Go.bits .and .i64 (ji6) 1) == 1) = true := beq_iff_eq.mpr c7
      have c7b1 : ((Go.bits .and .i64 (ji6) 1) != 1) = false := bne_eq_false_iff_eq.mpr c7
      clear c7
      by_cases c8 : x3_1.length < 17592186044416
      ·
       rw [if_pos c8] at H
       have LMc8 := asd c8
       clear c8
       obtain ⟨y104, hy104⟩ : ∃ y_ : List Int, y_ = (x3_1 ++ [x6_1]) := ⟨_, rfl⟩
       replace H : (impl_items.l0 k1 a0 y104 (wrap64 (x6_1 + 1))) = some r := by first | (rw [hy104]; with_reducible exact H) | (have H2_ := (Option.bind_some _ _).symm.trans H; rw [hy104]; with_reducible exact H2_) | (have H2_ := (Option.bind_some _ _).symm.trans H; with_reducible exact H2_) | with_reducible exact H | (rw [hy104]; exact H) | exact H
       have Ny104 := asd hy104
       clear hy104
       have H' := asd H
       clear H
       go_wp2_with (first | ((with_reducible refine gate_builtin (b := .append) (xs := #[.tmp 14, .tmp 16]) rfl ?_); at_builtin; refine Kd.R_append (Kd.int .i64) (w0 := w) w.heap.size rfl (.tmp 14) (.tmp 16) 22 3 (.int .i64 0) 8 rfl Try.underlying22 info3 rfl (by decide) (by omega) u3 x3_1 x6_1 [.int .i64 x6_1] (fun _ => True) (fun _ => False) rfl rfl ?aP (fun _ hk => hk.elim) ?aF ?aO ?aB ?aS ?aL ?_; (case aP => exact rfl); (case aB => exact (by repeat (first | (with_reducible first | exact HB.out | apply below_alloc | apply pw_below_drewN | apply below_drew1) | exact HB.out))); (case aF => exact (fun _ _ => trivial)); (case aO => exact (upR <| HO_3.out)); (case aS => exact (below_size (by repeat (first | (with_reducible first | exact HB.out | apply below_alloc | apply pw_below_drewN | apply below_drew1) | exact HB.out)))); (case aL => have := LMc8.out; omega); intro v105 w9 ho hb hg hat; rw [← Ny104.out] at ho; have n0_ := asd (hb); have n1_ := asd (ho); clear HB; clear HO_3; have HB := n0_; have HO106 := n1_; clear n0_ n1_; clear ho hb hg hat))
       go_roundg k1
       case measure => have := HK1.out; omega
       case rel => exact ⟨(y104), (wrap64 (x6_1 + 1)), (by first | rfl | (simp; done) | (simp [*]; done)), H', ⟨by have := HK1.out; omega⟩, ⟨by (with_reducible repeat (first | apply Kd.R_alloc | apply Kd.R_drewN | apply Kd.R_drew)); exact HO106.out⟩, ⟨by repeat (first | (with_reducible first | exact HB.out | apply below_alloc | apply pw_below_drewN | apply below_drew1) | exact HB.out)⟩⟩
      ·
       rw [if_neg c8] at H
       exact absurd H (by simp)
     ·
      rw [if_neg c7] at H
      have c7b0 : ((Go.bits .and .i64 (ji6) 1) == 1) = false := beq_eq_false_iff_ne.mpr c7
      have c7b1 : ((Go.bits .and .i64 (ji6) 1) != 1) = true := bne_iff_ne.mpr c7
      have H' := asd H
      clear H
      go_wp2
      go_roundg k1
      case measure => have := HK1.out; omega
      case rel => exact ⟨(x3_1), (wrap64 (x6_1 + 1)), (by first | rfl | (simp; done) | (simp [*]; done)), H', ⟨by have := HK1.out; omega⟩, ⟨by (with_reducible repeat (first | apply Kd.R_alloc | apply Kd.R_drewN | apply Kd.R_drew)); exact HO_3.out⟩, ⟨by repeat (first | (with_reducible first | exact HB.out | apply below_alloc | apply pw_below_drewN | apply below_drew1) | exact HB.out)⟩⟩
    ·
     rw [if_neg c5] at H
     exact absurd H (by simp)
   ·
    rw [if_neg c4] at H
    have c4b0 : decide (x6_1 < 7) = false := decide_eq_false c4
    clear c4
    obtain rfl := Option.some.inj H
    go_wp2
    go_ret
    exact ⟨_, by first | rfl | (simp [errW_none, errW_some] <;> rfl) | (simp [*, errW_none, errW_some] <;> rfl), by (with_reducible repeat (first | apply Kd.R_alloc | apply Kd.R_drewN | apply Kd.R_drew)); exact HO_3.out, by repeat (first | (with_reducible first | exact HB.out | apply below_alloc | apply pw_below_drewN | apply below_drew1) | exact HB.out)⟩

-- HAND with impl.items
theorem items_fin : ∀ x : Fin 128, impl_items.f 8 (x.val : Int) = some (itemsL (x.val : Int)) := by decide +kernel
theorem items_ok (x : Int) (h0 : 0 ≤ x) (h1 : x < 128) : impl_items.f 8 x = some (itemsL x) := by
  have h := items_fin ⟨x.toNat, by omega⟩
  have e : ((x.toNat : Nat) : Int) = x := by omega
  simp only [e] at h
  exact h

theorem itemsL_mem {x i : Int} (h : i ∈ itemsL x) : 0 ≤ i ∧ i < 7 ∧ x.toNat.testBit i.toNat = true := by
  simp only [itemsL, List.mem_map] at h
  obtain ⟨j, hj, rfl⟩ := h
  have := itemsN_lt hj
  exact ⟨by omega, by omega, by rw [Int.toNat_natCast]; exact itemsN_bit hj⟩

-- HAND with impl.items
theorem itemsE {x : Int} (h0 : 0 ≤ x) (h1 : x < 128) : Ev (fun k => impl_items.f k x) (itemsL x) := Ev.of (fun k => impl_items.mono x k) (items_ok x h0 h1)

-- HAND impl_family_inner: function 104
def innerStep (F : List Bool) (x a i : Int) : Int := if F.getD (nd x.toNat (2 ^ i.toNat)) false = true then ((a.toNat ||| 2 ^ i.toNat : Nat) : Int) else a
theorem innerStep_fold (F : List Bool) (x : Nat) : ∀ (l : List Nat) (a : Nat), (l.map (fun (i : Nat) => (i : Int))).foldl (innerStep F x) (a : Int) = ((l.foldl (fun a i => if F.getD (nd x (2 ^ i)) false = true then a ||| 2 ^ i else a) a : Nat) : Int)
  | [], a => rfl
  | i :: l, a => by
    rw [List.map_cons, List.foldl_cons, List.foldl_cons]
    have : innerStep F x a i = (((if F.getD (nd x (2 ^ i)) false = true then a ||| 2 ^ i else a) : Nat) : Int) := by
      unfold innerStep
      simp only [Int.toNat_natCast]
      split <;> rfl
    rw [this]
    exact innerStep_fold F x l _
theorem inner_fold (F : List Bool) (x : Nat) : (itemsL (x : Int)).foldl (innerStep F x) 0 = (innerF F x : Int) := by
  have := innerStep_fold F x (itemsN x) 0
  unfold itemsL
  rw [Int.toNat_natCast]
  refine this.trans ?_
  rw [itemsFold]
  rfl
set_option maxHeartbeats 8000000 in
set_option maxRecDepth 100000 in
theorem impl_family_inner.walkC (ad0 : Addr) (F : List Bool) (x : Int) (w : World) (hF : FamC w ad0 F) (h0 : 0 ≤ x) (h1 : x < 128) :
    Calls Try.prog 104 #[.pointer (some ad0), .int .i64 x] w fun e w' => e = .returned (.int .i64 (innerF F x.toNat)) ∧ Below w.heap.size w w' := by
  obtain ⟨x, rfl⟩ := Int.eq_ofNat_of_zero_le h0
  have HX := Aside0.mk (show x < 128 by omega)
  have HI := Aside0.mk (items_ok x h0 h1)
  have HF := Aside0.mk hF
  clear h0 h1 hF
  rw [Int.toNat_natCast]
  go_enter Try.func104, Try.ntmps104
  go_wp2_with (go_at_call 109; refine (impl_items.calls 8 _ _ _ HI.out).mono ?_; rintro e w1 ⟨v0, rfl, hR, hb⟩; obtain ⟨A, c, rfl⟩ := Kd.R_slice hR; have HR := Aside0.mk (Kd.R_reads' hR).2.2; have HB := Aside0.mk hb; clear hR hb)
  have HL := Aside0.mk (fun i => itemsL_mem (x := (x : Int)) (i := i))
  have HE := Aside0.mk (inner_fold F x)
  generalize itemsL (x : Int) = L at *
  go_loopw [5, 11] (fun v5 v11 wr => ∃ (k a : Nat), Aside0 (k ≤ L.length) ∧ v11 = .int .i64 k ∧ Aside0 (a < 128) ∧ v5 = .int .i64 a ∧ Aside0 ((L.take k).foldl (innerStep F x) 0 = a) ∧ Drawn0 w1 wr) (fun _ v11 _ => L.length - (intOf v11).toNat)
  case atStart => exact ⟨0, 0, ⟨Nat.zero_le _⟩, rfl, ⟨by decide⟩, rfl, ⟨rfl⟩, Drawn0.refl _⟩
  case round =>
    obtain ⟨k, a, hk, rfl, ha, rfl, hf, ⟨n, rfl⟩⟩ := hrel
    have hm := Kd.C_max HR.out
    by_cases hlt : k < L.length
    · obtain ⟨ad, e, hcell⟩ := Kd.at_int HR.out (k : Int) (by omega) (by omega)
      have hi := HL.out _ (rd_mem (l := L) (i := (k : Int)) (by omega) (by omega))
      have HT := Aside0.mk (take_rd L k hlt)
      obtain ⟨i, hI⟩ : ∃ i, i = rd L k := ⟨_, rfl⟩
      rw [← hI] at hi hcell HT
      clear hI
      cases e
      rw [Int.toNat_natCast] at hcell
      obtain ⟨i0, i1, ib⟩ := hi
      have hy := bits_nd x (2 ^ i.toNat) (lt63 HX.out) (lt63 (pow_lt128 i0 i1))
      have hylt : nd x (2 ^ i.toNat) < 128 := nd_lt (n := 7) HX.out
      have HO := Aside0.mk (bits_or a (2 ^ i.toNat) (lt63 ha.out) (lt63 (pow_lt128 i0 i1)))
      have HOL := Aside0.mk (Nat.or_lt_two_pow (n := 7) ha.out (pow_lt128 i0 i1))
      have HS := Aside0.mk (show innerStep F x (a : Int) i = if F.getD (nd x (2 ^ i.toNat)) false = true then ((a ||| 2 ^ i.toNat : Nat) : Int) else (a : Int) by unfold innerStep; simp only [Int.toNat_natCast])
      obtain ⟨j, hj⟩ : ∃ j, j = ((2 ^ i.toNat : Nat) : Int) := ⟨_, rfl⟩
      rw [← hj] at hy HO
      obtain ⟨s1, s2, s3, s4, s5, s6, s7, s8⟩ := shl_ways ((shl_nat i0 (by omega)).trans hj.symm) (by omega)
      clear hj
      obtain ⟨y, hY⟩ : ∃ y : Int, y = (nd x (2 ^ i.toNat) : Nat) := ⟨_, rfl⟩
      have y0 : 0 ≤ y := by omega
      have y1 : y < 128 := by omega
      have hYn : nd x (2 ^ i.toNat) = y.toNat := by omega
      rw [← hY] at hy
      rw [hYn] at HS
      clear hY hYn hylt ib
      have hfc := (HF.out.below HB.out).at_ y y0 y1
      obtain ⟨v, hv⟩ : ∃ v, v = F.getD y.toNat false := ⟨_, rfl⟩
      rw [← hv] at hfc HS
      clear hv
      cases v
      all_goals
        go_wp2
        go_quiet (fail)
        try go_wp2
      · go_roundw
        case rel => exact ⟨k + 1, a, ⟨by omega⟩, by go_num, ha, rfl, ⟨by rw [HT.out, List.foldl_append, hf.out]; simpa using HS.out⟩, by repeat (first | exact Drawn0.refl _ | apply Drawn0.step)⟩
        case measure => simp [intOf]; omega
      · go_roundw
        case rel => exact ⟨k + 1, a ||| 2 ^ i.toNat, ⟨by omega⟩, by go_num, HOL, by first | rfl | (rw [← HO.out]), ⟨by rw [HT.out, List.foldl_append, hf.out]; simpa using HS.out⟩, by repeat (first | exact Drawn0.refl _ | apply Drawn0.step)⟩
        case measure => simp [intOf]; omega
    · have hk' := hk.out
      obtain rfl : k = L.length := by omega
      have hm := Kd.C_max HR.out
      have HW := Aside0.mk (show (a : Int) = innerF F x from hf.out.symm.trans (by rw [List.take_length]; exact HE.out))
      clear hf HE
      go_wp2
      go_ret
      exact ⟨by have := HW.out; first | (rw [this]; done) | (simp; omega) | omega, by repeat (first | exact HB.out | apply pw_below_drewN)⟩
theorem impl_family_inner.walk (b : Nat) (F : List Bool) (x : Int) (w : World) (hF : FamAt w b F) (h0 : 0 ≤ x) (h1 : x < 128) :
    Calls Try.prog 104 #[.pointer (some ⟨b, 0, none⟩), .int .i64 x] w fun e w' => e = .returned (.int .i64 (innerF F x.toNat)) ∧ Below w.heap.size w w' := impl_family_inner.walkC ⟨b, 0, none⟩ F x w hF.c h0 h1
def impl_family_inner.f (l0 : List Bool) (a1 : Int) : Option Int := if l0.length = 128 ∧ 0 ≤ a1 ∧ a1 < 128 then some (innerF l0 a1.toNat) else none
theorem impl_family_inner.calls (A0 : Option Addr) (c0 : Nat) (l0 : List Bool) (a1 : Int) (r : Int) (w : World) (hr0 : Kd.C Kd.bool w A0 l0.length l0) (hc0 : l0.length ≤ c0) (h : impl_family_inner.f l0 a1 = some r) :
    Calls Try.prog 104 #[.pointer A0, .int .i64 a1] w fun e w' => e = .returned (.int .i64 r) ∧ Below w.heap.size w w' := by
  unfold impl_family_inner.f at h
  split at h
  · rename_i hl
    have e := Option.some.inj h
    subst e
    obtain ⟨ad, rfl, HF⟩ := FamC.of_reads hr0 hl.1
    exact impl_family_inner.walkC ad l0 a1 w HF hl.2.1 hl.2.2
  · cases h

-- HAND impl_IsSpace: function 47
def impl_IsSpace.f (a0_0 : Int) (l0_1 : List Int) : Option (Bool) := some (isSpaceB a0_0 l0_1)
set_option maxHeartbeats 8000000 in
set_option maxRecDepth 100000 in
theorem impl_IsSpace.early (n : Int) (A : Option Addr) (c : Nat) (l : List Int) (w : World) (hr : Kd.C (Kd.int .i64) w A l.length l) (hn : (decide (1 ≤ n) && decide (n ≤ 7) && decide ((l.length : Int) ≤ 2 ^ n.toNat)) = false) :
  Calls Try.prog 47 #[.agg #[.int .i64 n, .slice A l.length c]] w fun e w' => e = .returned (.bool false) ∧ Below w.heap.size w w' := by
 have hu := Try.underlying28
 have HS := asd (isSize_ok n)
 have hm := Kd.C_max hr
 by_cases h1 : (decide (1 ≤ n) && decide (n ≤ 7)) = true
 ·
  rw [h1] at hn HS
  simp only [Bool.true_and, decide_eq_false_iff_not] at hn
  simp only [Bool.and_eq_true, decide_eq_true_eq] at h1
  obtain ⟨n0, n7⟩ := h1
  have hp := pow128 (n := n) (by omega) n7
  obtain ⟨j, hj⟩ : ∃ j, j = shl .i64 1 n := ⟨_, rfl⟩
  have hj' := shl_nat (i := n) (by omega) (by omega)
  obtain ⟨s1, s2, s3, s4, s5, s6, s7, s8⟩ := shl_ways hj.symm (by omega)
  have c1 : decide (j < (l.length : Int)) = true := decide_eq_true (by rw [hj, hj']; push_cast; omega)
  have c0 : (0 : Int) ≤ n := by omega
  clear hj hj' hn hp
  go_enter Try.func47, Try.ntmps47
  go_wp2_with ((with_reducible refine gate_dst (N := 1) rfl ?_); refine box_event ?hg (N := 1) ?hd (cs := #[.int .i64 n, .slice A l.length c]) (t := 28) ?hr ?_; (case hd => rfl); (case hg => rfl); (case hr => first | (go_simp; done) | (go_simp; rfl)); intro g ge W gb Wb; have HXg := asd (SpBox.mk_ ge gb Wb); have gz0 := HXg.out.c0; have gz1 := HXg.out.c1; clear ge gb Wb)
  go_quiet (first | (go_at_call 100; (with_reducible refine (impl_isSize.calls _ _ _ HS.out).mono ?_); rintro e w' ⟨rfl, ⟨nd, rfl⟩⟩; (try first | exact ⟨rfl, _, World.drewN_drewN _ _ _⟩ | exact ⟨rfl, _, Eq.trans (World.drewN_drewN _ _ _) (congrArg (World.drewN _) (Nat.add_assoc _ _ _))⟩)))
  go_wp2
  go_ret
  exact ⟨rfl, by repeat (first | exact HXg.out.bel | apply pw_below_drewN | apply below_drew1)⟩
 ·
  have h1' : (decide (1 ≤ n) && decide (n ≤ 7)) = false := by simpa using h1
  rw [h1'] at HS
  clear h1 h1' hn
  go_enter Try.func47, Try.ntmps47
  go_wp2_with ((with_reducible refine gate_dst (N := 1) rfl ?_); refine box_event ?hg (N := 1) ?hd (cs := #[.int .i64 n, .slice A l.length c]) (t := 28) ?hr ?_; (case hd => rfl); (case hg => rfl); (case hr => first | (go_simp; done) | (go_simp; rfl)); intro g ge W gb Wb; have HXg := asd (SpBox.mk_ ge gb Wb); have gz0 := HXg.out.c0; have gz1 := HXg.out.c1; clear ge gb Wb)
  go_quiet (first | (go_at_call 100; (with_reducible refine (impl_isSize.calls _ _ _ HS.out).mono ?_); rintro e w' ⟨rfl, ⟨nd, rfl⟩⟩; (try first | exact ⟨rfl, _, World.drewN_drewN _ _ _⟩ | exact ⟨rfl, _, Eq.trans (World.drewN_drewN _ _ _) (congrArg (World.drewN _) (Nat.add_assoc _ _ _))⟩)))
  go_wp2
  go_ret
  exact ⟨rfl, by repeat (first | exact HXg.out.bel | apply pw_below_drewN | apply below_drew1)⟩
/-- What the first loop has seen. -/
def risen (n : Int) (l : List Int) (k : Nat) : Bool := (List.range k).all fun (i : Nat) => okAt n l i
theorem risen_succ (n : Int) (l : List Int) (k : Nat) : risen n l (k + 1) = (risen n l k && okAt n l k) := by simp [risen, List.range_succ]
theorem risen_not {n : Int} {l : List Int} {i : Int} (h0 : 0 ≤ i) (h : i < l.length) (hb : okAt n l i = false) : risingB n l = false := by
 rw [Bool.eq_false_iff]
 intro hc
 simp only [risingB, List.all_eq_true, List.mem_range] at hc
 have := hc i.toNat (by omega)
 rw [show ((i.toNat : Nat) : Int) = i by omega, hb] at this
 cases this
set_option maxHeartbeats 8000000 in
set_option maxRecDepth 100000 in
theorem impl_IsSpace.main (n : Int) (A : Option Addr) (c : Nat) (l : List Int) (w : World) (hr : Kd.C (Kd.int .i64) w A l.length l) (hc : l.length ≤ c) (hn : (decide (1 ≤ n) && decide (n ≤ 7) && decide ((l.length : Int) ≤ 2 ^ n.toNat)) = true) :
  Calls Try.prog 47 #[.agg #[.int .i64 n, .slice A l.length c]] w fun e w' => e = .returned (.bool (isSpaceB n l)) ∧ Below w.heap.size w w' := by
 have hu := Try.underlying28
 have HS := asd (isSize_ok n)
 have hm := Kd.C_max hr
 have HR := asd hr
 have HC := asd hc
 have HE : Aside0 (isSpaceB n l = (risingB n l && (famOf l).getD 0 false && (famOf l).getD (2 ^ n.toNat - 1) false && unionsB (famOf l) l)) := ⟨by unfold isSpaceB; rw [hn]; simp⟩
 simp only [Bool.and_eq_true, decide_eq_true_eq] at hn
 obtain ⟨⟨n0, n7⟩, hlen⟩ := hn
 rw [show (decide (1 ≤ n) && decide (n ≤ 7)) = true by simp [n0, n7]] at HS
 have hp := pow128 (n := n) (by omega) n7
 obtain ⟨j, hj⟩ : ∃ j, j = shl .i64 1 n := ⟨_, rfl⟩
 have hj' := shl_nat (i := n) (by omega) (by omega)
 obtain ⟨s1, s2, s3, s4, s5, s6, s7, s8⟩ := shl_ways hj.symm (by omega)
 have c1 : decide (j < (l.length : Int)) = false := decide_eq_false (by rw [hj, hj']; push_cast; omega)
 have c0 : (0 : Int) ≤ n := by omega
 have HP := asd hp
 clear hj hj' hr hc hp hlen
 go_enter Try.func47, Try.ntmps47
 go_wp2_with ((with_reducible refine gate_dst (N := 1) rfl ?_); refine box_event ?hg (N := 1) ?hd (cs := #[.int .i64 n, .slice A l.length c]) (t := 28) ?hr ?_; (case hd => rfl); (case hg => rfl); (case hr => first | (go_simp; done) | (go_simp; rfl)); intro g ge W gb Wb; have HXg := asd (SpBox.mk_ ge gb Wb); have gz0 := HXg.out.c0; have gz1 := HXg.out.c1; clear ge gb Wb)
 go_quiet (first | (go_at_call 100; (with_reducible refine (impl_isSize.calls _ _ _ HS.out).mono ?_); rintro e w' ⟨rfl, ⟨nd, rfl⟩⟩; (try first | exact ⟨rfl, _, World.drewN_drewN _ _ _⟩ | exact ⟨rfl, _, Eq.trans (World.drewN_drewN _ _ _) (congrArg (World.drewN _) (Nat.add_assoc _ _ _))⟩)))
 go_wp2
 go_loopw [26] (fun v26 wr => ∃ i : Int, Aside0 (0 ≤ i ∧ i ≤ l.length) ∧ v26 = .int .i64 i ∧ Aside0 (risen n l i.toNat = true) ∧ Drawn0 W wr) (fun v26 _ => l.length - (intOf v26).toNat)
 case atStart => exact ⟨0, ⟨by omega⟩, rfl, ⟨rfl⟩, by repeat (first | exact Drawn0.refl _ | apply Drawn0.step)⟩
 case round =>
  obtain ⟨i, hi, rfl, hz, ⟨nd, rfl⟩⟩ := hrel
  by_cases hlt : i < l.length
  ·
   have i0 := hi.out.1
   have HT := asd (isSet_ok n (rd l i) c0 n7)
   have HN : Aside0 (risen n l (i + 1).toNat = okAt n l i) := ⟨by rw [show (i + 1).toNat = i.toNat + 1 by omega, risen_succ, hz.out, show ((i.toNat : Nat) : Int) = i by omega, Bool.true_and]⟩
   have HF : Aside0 (okAt n l i = false → isSpaceB n l = false) := ⟨fun h => by rw [HE.out, risen_not i0 hlt h]; rfl⟩
   have HO : Aside0 (okAt n l i = ((decide (0 ≤ rd l i) && decide (rd l i < 2 ^ n.toNat)) && (decide (i = 0) || decide (rd l (i - 1) < rd l i)))) := ⟨rfl⟩
   obtain ⟨ad, e, hcell⟩ := Kd.at_int (Kd.C_below HR.out HXg.out.bel) i i0 hlt
   have hcellp : 0 < i → W.cell? (ad.add (i - 1).toNat) = some (.int .i64 (rd l (i - 1))) := fun hpos => by
    obtain ⟨ad', e', hcell'⟩ := Kd.at_int (Kd.C_below HR.out HXg.out.bel) (i - 1) (by omega) (by omega)
    rw [e] at e'
    cases e'
    exact hcell'
   cases e
   generalize rd l i = x at *
   generalize rd l (i - 1) = y at *
   by_cases hin : (decide (0 ≤ x) && decide (x < 2 ^ n.toNat)) = true
   ·
    rw [hin] at HT HO
    clear hin
    by_cases hpos : 0 < i
    ·
     have hcp := hcellp hpos
     rw [show (i - 1).toNat = i.toNat - 1 by omega] at hcp
     have hi1 : (0 : Int) ≤ i - 1 := by omega
     have hi2 : i - 1 < l.length := by omega
     have b1 : decide (0 < i) = true := decide_eq_true hpos
     clear hcellp
     by_cases hyx : x ≤ y
     ·
      have HB := asd (HF.out (HO.out.trans (by simp; omega)))
      have b2 : decide (x ≤ y) = true := decide_eq_true hyx
      go_wp2_with (first | (go_at_call 101; (with_reducible refine (impl_isSet.calls _ _ _ _ HT.out).mono ?_); rintro e w' ⟨rfl, ⟨nd, rfl⟩⟩; (try first | exact ⟨rfl, _, World.drewN_drewN _ _ _⟩ | exact ⟨rfl, _, Eq.trans (World.drewN_drewN _ _ _) (congrArg (World.drewN _) (Nat.add_assoc _ _ _))⟩)))
      go_ret
      exact ⟨by rw [HB.out]; rfl, by repeat (first | exact HXg.out.bel | apply pw_below_drewN | apply below_drew1)⟩
     ·
      have HB := asd (HO.out.trans (show _ = true by simp; omega))
      have b2 : decide (x ≤ y) = false := decide_eq_false hyx
      go_wp2_with (first | (go_at_call 101; (with_reducible refine (impl_isSet.calls _ _ _ _ HT.out).mono ?_); rintro e w' ⟨rfl, ⟨nd, rfl⟩⟩; (try first | exact ⟨rfl, _, World.drewN_drewN _ _ _⟩ | exact ⟨rfl, _, Eq.trans (World.drewN_drewN _ _ _) (congrArg (World.drewN _) (Nat.add_assoc _ _ _))⟩)))
      go_roundw
      case rel => exact ⟨i + 1, ⟨by omega⟩, by first | rfl | go_num, ⟨by rw [HN.out, HB.out]⟩, by repeat (first | exact Drawn0.refl _ | apply Drawn0.step)⟩
      case measure => simp [intOf]; omega
    ·
     have hi0 : i = 0 := by have := hi.out; omega
     have HB := asd (HO.out.trans (show _ = true by simp [hi0]))
     have b1 : decide (0 < i) = false := decide_eq_false hpos
     clear hcellp hi0
     go_wp2_with (first | (go_at_call 101; (with_reducible refine (impl_isSet.calls _ _ _ _ HT.out).mono ?_); rintro e w' ⟨rfl, ⟨nd, rfl⟩⟩; (try first | exact ⟨rfl, _, World.drewN_drewN _ _ _⟩ | exact ⟨rfl, _, Eq.trans (World.drewN_drewN _ _ _) (congrArg (World.drewN _) (Nat.add_assoc _ _ _))⟩)))
     go_roundw
     case rel => exact ⟨i + 1, ⟨by omega⟩, by first | rfl | go_num, ⟨by rw [HN.out, HB.out]⟩, by repeat (first | exact Drawn0.refl _ | apply Drawn0.step)⟩
     case measure => simp [intOf]; omega
   ·
    have hin' : (decide (0 ≤ x) && decide (x < 2 ^ n.toNat)) = false := by simpa using hin
    rw [hin'] at HT HO
    have HB := asd (HF.out (HO.out.trans rfl))
    clear hin hin' hcellp
    go_wp2_with (first | (go_at_call 101; (with_reducible refine (impl_isSet.calls _ _ _ _ HT.out).mono ?_); rintro e w' ⟨rfl, ⟨nd, rfl⟩⟩; (try first | exact ⟨rfl, _, World.drewN_drewN _ _ _⟩ | exact ⟨rfl, _, Eq.trans (World.drewN_drewN _ _ _) (congrArg (World.drewN _) (Nat.add_assoc _ _ _))⟩)))
    go_ret
    exact ⟨by rw [HB.out]; rfl, by repeat (first | exact HXg.out.bel | apply pw_below_drewN | apply below_drew1)⟩
  ·
   have HA : Aside0 (risingB n l = true) := ⟨by have := hz.out; rwa [show i.toNat = l.length by have := hi.out; omega] at this⟩
   have HI := asd (show i = l.length by have := hi.out; omega)
   clear hz
   have HM : Aside0 (∀ x ∈ l, 0 ≤ x ∧ x < 128) := ⟨fun x hx => by have := risingB_mem HA.out hx; have := HP.out; omega⟩
   go_wp2_with (first | (go_at_call 102; (with_reducible refine (impl_Space_family.walk n _ _ l _ (Kd.C_drewN (Kd.C_below HR.out HXg.out.bel) _) HC.out HM.out).mono ?_); rintro e W2 ⟨b, rfl, HF, hbg, hbel⟩; have HX2 := asd (HXg.out.next ((pw_below_drewN (Below.refl _ _) _).trans (hbel.mono (Nat.le_refl _)))); have HF := asd HF; have k0 := HX2.out.c0; have k1 := HX2.out.c1; clear hbg hbel))
   have f0 := HF.out.at_ 0 (by decide) (by decide)
   rw [show (0 : Int).toNat = 0 from rfl] at f0
   obtain ⟨v0, hv0⟩ : ∃ v, v = (famOf l).getD 0 false := ⟨_, rfl⟩
   rw [← hv0] at f0
   have HV0 := asd hv0
   clear hv0
   cases v0
   ·
    have HB : Aside0 (isSpaceB n l = false) := ⟨by rw [HE.out, HA.out, ← HV0.out]; rfl⟩
    go_quiet (fail)
    go_wp2
    go_ret
    exact ⟨by rw [HB.out]; rfl, by repeat (first | exact HX2.out.bel | apply pw_below_drewN | apply below_drew1)⟩
   ·
    have HAL := asd (all_ok n l c0 n7)
    obtain ⟨m, hm2⟩ : ∃ m : Int, m = 2 ^ n.toNat - 1 := ⟨_, rfl⟩
    have m0 : 0 ≤ m := by have := HP.out; omega
    have m1 : m < 128 := by have := HP.out; omega
    have f1 := HF.out.at_ m m0 m1
    rw [← hm2] at HAL
    obtain ⟨v1, hv1⟩ : ∃ v, v = (famOf l).getD m.toNat false := ⟨_, rfl⟩
    rw [← hv1] at f1
    have HV1 := asd hv1
    have HM2 := asd hm2
    clear hv1 hm2
    have HK : Aside0 (∀ w', Below W2.heap.size W2 w' → Aside0 (Below W2.heap.size W2 w') ∧ w'.cell? ⟨g, 0, none⟩ = some (.int .i64 n) ∧ w'.cell? ⟨g, 1, none⟩ = some (.slice A l.length c) ∧ w'.cell? ⟨b, 0, none⟩ = some (.bool true) ∧ w'.cell? ⟨b, m.toNat, none⟩ = some (.bool v1)) :=
     ⟨fun w' hb => ⟨⟨hb⟩, pw_cell_below hb k0, pw_cell_below hb k1, pw_cell_below hb f0, pw_cell_below hb f1⟩⟩
    go_region_held3 (fun w' => Aside0 (Below W2.heap.size W2 w') ∧ w'.cell? ⟨g, 0, none⟩ = some (.int .i64 n) ∧ w'.cell? ⟨g, 1, none⟩ = some (.slice A l.length c) ∧ w'.cell? ⟨b, 0, none⟩ = some (.bool true) ∧ w'.cell? ⟨b, m.toNat, none⟩ = some (.bool v1)) (first | exact HK.out _ (below_drew1 (Below.refl _ _)) | exact HK.out _ (below_step (‹Aside0 (Below W2.heap.size W2 _) ∧ _›).1.out (by assumption))) (first | (go_at_call 103; (with_reducible refine (impl_Space_all.calls n _ _ l m _ ?sa ?sb HAL.out).mono ?_); (case sa => exact Kd.C_below (Kd.C_below HR.out HX2.out.bel) (‹Aside0 (Below W2.heap.size W2 _) ∧ _›).1.out); (case sb => exact HC.out); rintro e W3 ⟨rfl, hb3⟩))
    have HB3 := (‹Aside0 (Below W2.heap.size W2 _) ∧ _›).1
    have HX3 := asd (HX2.out.next HB3.out)
    have HF3 := asd (HF.out.below HB3.out)
    have q0 := HX3.out.c0
    have q1 := HX3.out.c1
    clear HK hb3 k0 k1 f0 f1
    cases v1
    ·
     have HB : Aside0 (isSpaceB n l = false) := ⟨by rw [HE.out, HA.out, ← HV0.out, toNat_pow HM2.out, ← HV1.out]; rfl⟩
     go_wp2
     go_ret
     exact ⟨by rw [HB.out]; rfl, HX3.out.bel⟩
    ·
     have HG : Aside0 (isSpaceB n l = unionsB (famOf l) l) := ⟨by rw [HE.out, HA.out, ← HV0.out, toNat_pow HM2.out, ← HV1.out]; rfl⟩
     clear HE HV0 HV1 HM2 m0 m1 HAL HS HX2 HF HXg gz0 gz1 s1 s2 s3 s4 s5 s6 s7 s8 HB3
     go_wp2
     go_loopw [70] (fun v70 wr => ∃ i : Int, Aside0 (0 ≤ i ∧ i ≤ l.length) ∧ v70 = .int .i64 i ∧ Aside0 (allTo (unionItem (famOf l) l) l i = true) ∧ Aside0 (Below W3.heap.size W3 wr)) (fun v70 _ => l.length - (intOf v70).toNat)
     case atStart => exact ⟨0, ⟨by omega⟩, rfl, ⟨rfl⟩, ⟨by repeat (first | exact Below.refl _ _ | apply pw_below_drewN | apply below_drew1)⟩⟩
     case round =>
      obtain ⟨k, hk, rfl, hz, HBr⟩ := hrel
      by_cases hlt : k < l.length
      ·
       have k0 := hk.out.1
       have HZ := asd (allTo_succ (unionItem (famOf l) l) l k k0 hlt)
       have HMEM := asd (rd_mem k0 hlt)
       have HNOT : Aside0 (unionItem (famOf l) l (rd l k) = false → isSpaceB n l = false) := ⟨fun h => HG.out.trans (all_not HMEM.out h)⟩
       have hx := HM.out _ HMEM.out
       have HRA := asd (Kd.C_below (Kd.C_below HR.out HX3.out.bel) HBr.out)
       have HXr := asd (HX3.out.next HBr.out)
       have HFr := asd (HF3.out.below HBr.out)
       obtain ⟨ad, e, hcell⟩ := Kd.at_int HRA.out k k0 hlt
       cases e
       clear q0 q1
       have q0 := HXr.out.c0
       have q1 := HXr.out.c1
       have hUI : unionItem (famOf l) l (rd l k) = ((decide (rd l k = 0) || !decide (innerF (famOf l) (rd l k).toNat = 0)) && unionRow (famOf l) l (rd l k)) := rfl
       generalize rd l k = x at *
       have HUI := asd hUI
       clear hUI
       obtain ⟨x0, x1⟩ := hx
       by_cases hx0 : x = 0
       ·
        have bx1 : (x == 0) = true := by simpa using hx0
        have bx2 : (x != 0) = false := by simpa using hx0
        have HX0 := asd hx0
        clear hx0
        go_wp2
        go_loopw [85] (fun v85 w5 => ∃ i : Int, Aside0 (0 ≤ i ∧ i ≤ l.length) ∧ v85 = .int .i64 i ∧ Aside0 (allTo (fun y => (famOf l).getD (x.toNat ||| y.toNat) false) l i = true) ∧ Drawn0 wr w5) (fun v85 _ => l.length - (intOf v85).toNat)
        case atStart => exact ⟨0, ⟨by omega⟩, rfl, ⟨rfl⟩, by repeat (first | exact Drawn0.refl _ | apply Drawn0.step)⟩
        case round =>
         obtain ⟨i, hi, rfl, hz5, ⟨nd5, rfl⟩⟩ := hrel
         by_cases hlt5 : i < l.length
         ·
          have i0 := hi.out.1
          have HZ5 := asd (allTo_succ (fun y => (famOf l).getD (x.toNat ||| y.toNat) false) l i i0 hlt5)
          have HMEM5 := asd (rd_mem i0 hlt5)
          have HNOT5 : Aside0 ((famOf l).getD (x.toNat ||| (rd l i).toNat) false = false → isSpaceB n l = false) := ⟨fun h => HNOT.out (HUI.out.trans (by rw [show unionRow (famOf l) l x = false from all_not HMEM5.out h, Bool.and_false]))⟩
          have hy := HM.out _ HMEM5.out
          obtain ⟨ad5, e5, hcell5⟩ := Kd.at_int HRA.out i i0 hlt5
          cases e5
          have hbo := bits_or x.toNat (rd l i).toNat (by omega) (by omega)
          have hbl : x.toNat ||| (rd l i).toNat < 128 := Nat.or_lt_two_pow (n := 7) (by omega) (by omega)
          rw [show ((x.toNat : Nat) : Int) = x by omega, show (((rd l i).toNat : Nat) : Int) = rd l i by omega] at hbo
          generalize rd l i = y at *
          obtain ⟨z, hz⟩ : ∃ z : Int, z = ((x.toNat ||| y.toNat : Nat) : Int) := ⟨_, rfl⟩
          have z0 : 0 ≤ z := by omega
          have z1 : z < 128 := by omega
          have hzn : x.toNat ||| y.toNat = z.toNat := by omega
          rw [← hz] at hbo
          rw [hzn] at HZ5 HNOT5
          clear hz hzn hbl hy
          have hfc := HFr.out.at_ z z0 z1
          obtain ⟨v, hv⟩ : ∃ v, v = (famOf l).getD z.toNat false := ⟨_, rfl⟩
          rw [← hv] at hfc HZ5 HNOT5
          clear hv
          cases v
          ·
           have HB := asd (HNOT5.out rfl)
           go_wp2
           go_ret
           exact ⟨by rw [HB.out]; rfl, by repeat (first | exact HXr.out.bel | apply pw_below_drewN | apply below_drew1)⟩
          ·
           go_wp2
           go_roundw
           case rel => exact ⟨i + 1, ⟨by omega⟩, by first | rfl | go_num, ⟨by rw [HZ5.out, hz5.out]; rfl⟩, by repeat (first | exact Drawn0.refl _ | apply Drawn0.step)⟩
           case measure => simp [intOf]; omega
         ·
          have HROW : Aside0 (unionRow (famOf l) l x = true) := ⟨by have := hz5.out; rw [allTo_end _ _ _ (by have := hi.out; omega)] at this; exact this⟩
          have HDONE : Aside0 (unionItem (famOf l) l x = true) := ⟨HUI.out.trans (by rw [HROW.out]; simp [HX0.out])⟩
          clear hz5
          go_wp2
          go_roundw
          case rel => exact ⟨k + 1, ⟨by omega⟩, by first | rfl | go_num, ⟨by rw [HZ.out, hz.out, HDONE.out]; rfl⟩, ⟨by repeat (first | exact HBr.out | apply pw_below_drewN | apply below_drew1)⟩⟩
          case measure => simp [intOf]; omega
       ·
        have bx1 : (x == 0) = false := by simpa using hx0
        have bx2 : (x != 0) = true := by simpa using hx0
        by_cases hin : innerF (famOf l) x.toNat = 0
        ·
         have HB := asd (HNOT.out (HUI.out.trans (by simp [hx0, hin])))
         have bi : (((innerF (famOf l) x.toNat : Nat) : Int) == 0) = true := by simp [hin]
         clear hin hx0
         go_wp2_with (first | (go_at_call 104; (with_reducible refine (impl_family_inner.walk b (famOf l) x _ HFr.out x0 x1).mono ?_); rintro e W4 ⟨rfl, hb4⟩))
         go_ret
         exact ⟨by rw [HB.out]; rfl, by repeat (first | exact (HXr.out.next hb4).bel | apply pw_below_drewN | apply below_drew1)⟩
        ·
         have bi : (((innerF (famOf l) x.toNat : Nat) : Int) == 0) = false := by simpa using hin
         go_wp2_with (first | (go_at_call 104; (with_reducible refine (impl_family_inner.walk b (famOf l) x _ HFr.out x0 x1).mono ?_); rintro e W4 ⟨rfl, hb4⟩; have HB4 := asd hb4; clear hb4 q0 q1; have HX4 := asd (HXr.out.next HB4.out); have q0 := HX4.out.c0; have q1 := HX4.out.c1))
         have HR4 := asd (Kd.C_below HRA.out HB4.out)
         have HF4 := asd (HFr.out.below HB4.out)
         have HIN := asd hin
         clear hin hx0
         go_loopw [85] (fun v85 w5 => ∃ i : Int, Aside0 (0 ≤ i ∧ i ≤ l.length) ∧ v85 = .int .i64 i ∧ Aside0 (allTo (fun y => (famOf l).getD (x.toNat ||| y.toNat) false) l i = true) ∧ Drawn0 W4 w5) (fun v85 _ => l.length - (intOf v85).toNat)
         case atStart => exact ⟨0, ⟨by omega⟩, rfl, ⟨rfl⟩, by repeat (first | exact Drawn0.refl _ | apply Drawn0.step)⟩
         case round =>
          obtain ⟨i, hi, rfl, hz5, ⟨nd5, rfl⟩⟩ := hrel
          by_cases hlt5 : i < l.length
          ·
           have i0 := hi.out.1
           have HZ5 := asd (allTo_succ (fun y => (famOf l).getD (x.toNat ||| y.toNat) false) l i i0 hlt5)
           have HMEM5 := asd (rd_mem i0 hlt5)
           have HNOT5 : Aside0 ((famOf l).getD (x.toNat ||| (rd l i).toNat) false = false → isSpaceB n l = false) := ⟨fun h => HNOT.out (HUI.out.trans (by rw [show unionRow (famOf l) l x = false from all_not HMEM5.out h, Bool.and_false]))⟩
           have hy := HM.out _ HMEM5.out
           obtain ⟨ad5, e5, hcell5⟩ := Kd.at_int HR4.out i i0 hlt5
           cases e5
           have hbo := bits_or x.toNat (rd l i).toNat (by omega) (by omega)
           have hbl : x.toNat ||| (rd l i).toNat < 128 := Nat.or_lt_two_pow (n := 7) (by omega) (by omega)
           rw [show ((x.toNat : Nat) : Int) = x by omega, show (((rd l i).toNat : Nat) : Int) = rd l i by omega] at hbo
           generalize rd l i = y at *
           obtain ⟨z, hz⟩ : ∃ z : Int, z = ((x.toNat ||| y.toNat : Nat) : Int) := ⟨_, rfl⟩
           have z0 : 0 ≤ z := by omega
           have z1 : z < 128 := by omega
           have hzn : x.toNat ||| y.toNat = z.toNat := by omega
           rw [← hz] at hbo
           rw [hzn] at HZ5 HNOT5
           clear hz hzn hbl hy
           have hfc := HF4.out.at_ z z0 z1
           obtain ⟨v, hv⟩ : ∃ v, v = (famOf l).getD z.toNat false := ⟨_, rfl⟩
           rw [← hv] at hfc HZ5 HNOT5
           clear hv
           cases v
           ·
            have HB := asd (HNOT5.out rfl)
            go_wp2
            go_ret
            exact ⟨by rw [HB.out]; rfl, by repeat (first | exact HX4.out.bel | apply pw_below_drewN | apply below_drew1)⟩
           ·
            go_wp2
            go_roundw
            case rel => exact ⟨i + 1, ⟨by omega⟩, by first | rfl | go_num, ⟨by rw [HZ5.out, hz5.out]; rfl⟩, by repeat (first | exact Drawn0.refl _ | apply Drawn0.step)⟩
            case measure => simp [intOf]; omega
          ·
           have HROW : Aside0 (unionRow (famOf l) l x = true) := ⟨by have := hz5.out; rw [allTo_end _ _ _ (by have := hi.out; omega)] at this; exact this⟩
           have HDONE : Aside0 (unionItem (famOf l) l x = true) := ⟨HUI.out.trans (by rw [HROW.out]; simp [HIN.out])⟩
           clear hz5
           go_wp2
           go_roundw
           case rel =>
            ((repeat apply Exists.intro); exact ⟨⟨k + 1, ⟨by omega⟩, by first | rfl | go_num, ⟨by rw [HZ.out, hz.out, HDONE.out]; rfl⟩, ⟨by repeat (first | exact (below_step HBr.out HB4.out) | apply pw_below_drewN | apply below_drew1)⟩⟩, rfl, rfl, rfl, rfl⟩)
           case measure => simp [intOf]; omega
      ·
       have HB : Aside0 (isSpaceB n l = true) := ⟨by have := hz.out; rw [allTo_end _ _ _ (by have := hk.out; omega)] at this; exact HG.out.trans this⟩
       clear hz
       go_wp2
       go_ret
       exact ⟨by rw [HB.out]; rfl, by repeat (first | exact (HX3.out.next HBr.out).bel | apply pw_below_drewN | apply below_drew1)⟩

theorem impl_IsSpace.calls (a0_0 : Int) (A0_1 : Option Addr) (c0_1 : Nat) (l0_1 : List Int) (r : Bool) (w : World) (hr0_1 : Kd.C (Kd.int .i64) w A0_1 l0_1.length l0_1) (hc0_1 : l0_1.length ≤ c0_1) (h : impl_IsSpace.f a0_0 l0_1 = some r) :
  Calls Try.prog 47 #[.agg #[.int .i64 a0_0, .slice A0_1 l0_1.length c0_1]] w fun e w' => e = .returned (.bool r) ∧ Below w.heap.size w w' := by
 obtain rfl := Option.some.inj h
 by_cases hn : (decide (1 ≤ a0_0) && decide (a0_0 ≤ 7) && decide ((l0_1.length : Int) ≤ 2 ^ a0_0.toNat)) = true
 ·
  exact impl_IsSpace.main a0_0 A0_1 c0_1 l0_1 w hr0_1 hc0_1 hn
 ·
  have hn' : (decide (1 ≤ a0_0) && decide (a0_0 ≤ 7) && decide ((l0_1.length : Int) ≤ 2 ^ a0_0.toNat)) = false := by simpa using hn
  rw [show isSpaceB a0_0 l0_1 = false by unfold isSpaceB; rw [hn']; rfl]
  exact impl_IsSpace.early a0_0 A0_1 c0_1 l0_1 w hr0_1 hn'

-- HAND impl_family_outer: function 110
set_option maxHeartbeats 8000000 in
set_option maxRecDepth 100000 in
theorem impl_family_outer.walkC (ad0 : Addr) (F : List Bool) (x : Int) (w : World) (hF : FamC w ad0 F) (h0 : 0 ≤ x) (h1 : x < 128) :
    Calls Try.prog 110 #[.pointer (some ad0), .int .i64 x] w fun e w' => e = .returned (.int .i64 (outerF F x.toNat)) ∧ Drawn0 w w' := by
  obtain ⟨x, rfl⟩ := Int.eq_ofNat_of_zero_le h0
  have HX := Aside0.mk (show x < 128 by omega)
  have HF := Aside0.mk hF
  clear h0 h1 hF
  rw [Int.toNat_natCast]
  go_enter Try.func110, Try.ntmps110
  go_wp2
  go_loopw [5, 7] (fun v5 v7 wr => ∃ (i : Int) (a : Nat), Aside0 (0 ≤ i ∧ i ≤ 7) ∧ v7 = .int .i64 i ∧ Aside0 (a < 128) ∧ v5 = .int .i64 a ∧ Aside0 (outK F x i.toNat = a) ∧ Drawn0 w wr) (fun _ v7 _ => 7 - (intOf v7).toNat)
  case atStart => exact ⟨0, 0, ⟨by decide⟩, rfl, ⟨by decide⟩, rfl, ⟨rfl⟩, Drawn0.refl _⟩
  case round =>
    obtain ⟨i, a, hi, rfl, ha, rfl, hf, ⟨n, rfl⟩⟩ := hrel
    by_cases hlt : i < 7
    · have i0 := hi.out.1
      have HO := Aside0.mk (bits_or a (2 ^ i.toNat) (lt63 ha.out) (lt63 (pow_lt128 i0 hlt)))
      have HOL := Aside0.mk (Nat.or_lt_two_pow (n := 7) ha.out (pow_lt128 i0 hlt))
      have HS := Aside0.mk (show outK F x (i + 1).toNat = if (!x.testBit i.toNat && F.getD (x ||| 2 ^ i.toNat) false) = true then a ||| 2 ^ i.toNat else a by rw [show (i + 1).toNat = i.toNat + 1 by omega, outK_succ, hf.out])
      obtain ⟨z, z0, z1, hz, hz2⟩ := and_one x i i0 (by omega) HX.out
      obtain ⟨r1, r2⟩ := shr_ways hz (by omega)
      clear hz
      by_cases hb : x.testBit i.toNat = true
      · rw [if_pos hb] at hz2
        rw [hb] at HS
        go_wp2
        go_quiet (fail)
        go_wp2
        go_roundw
        case rel => exact ⟨i + 1, a, ⟨by have := hi.out; omega⟩, by first | rfl | go_num, ha, rfl, ⟨by simpa using HS.out⟩, by repeat (first | exact Drawn0.refl _ | apply Drawn0.step)⟩
        case measure => simp [intOf]; omega
      · have hb' : x.testBit i.toNat = false := by simpa using hb
        rw [if_neg hb] at hz2
        rw [hb'] at HS
        clear hb hb'
        have hy := bits_or x (2 ^ i.toNat) (lt63 HX.out) (lt63 (pow_lt128 i0 hlt))
        have hylt : x ||| 2 ^ i.toNat < 128 := Nat.or_lt_two_pow (n := 7) HX.out (pow_lt128 i0 hlt)
        obtain ⟨j, hj⟩ : ∃ j, j = ((2 ^ i.toNat : Nat) : Int) := ⟨_, rfl⟩
        rw [← hj] at hy HO
        obtain ⟨s1, s2, s3, s4, s5, s6, s7, s8⟩ := shl_ways ((shl_nat i0 (by omega)).trans hj.symm) (by omega)
        clear hj
        obtain ⟨y, hY⟩ : ∃ y : Int, y = (x ||| 2 ^ i.toNat : Nat) := ⟨_, rfl⟩
        have y0 : 0 ≤ y := by omega
        have y1 : y < 128 := by omega
        have hYn : x ||| 2 ^ i.toNat = y.toNat := by omega
        rw [← hY] at hy
        rw [hYn] at HS
        clear hY hYn hylt
        have hfc := HF.out.at_ y y0 y1
        obtain ⟨v, hv⟩ : ∃ v, v = F.getD y.toNat false := ⟨_, rfl⟩
        rw [← hv] at hfc HS
        clear hv
        cases v
        all_goals
          go_wp2
          go_quiet (fail)
          go_wp2
        · go_roundw
          case rel => exact ⟨i + 1, a, ⟨by have := hi.out; omega⟩, by first | rfl | go_num, ha, rfl, ⟨by simpa using HS.out⟩, by repeat (first | exact Drawn0.refl _ | apply Drawn0.step)⟩
          case measure => simp [intOf]; omega
        · go_roundw
          case rel => exact ⟨i + 1, a ||| 2 ^ i.toNat, ⟨by have := hi.out; omega⟩, by first | rfl | go_num, HOL, by first | rfl | (rw [← HO.out]), ⟨by simpa using HS.out⟩, by repeat (first | exact Drawn0.refl _ | apply Drawn0.step)⟩
          case measure => simp [intOf]; omega
    · have HW := Aside0.mk (show (a : Int) = outerF F x by rw [← outK_7, ← hf.out, show i.toNat = 7 by have := hi.out; omega])
      clear hf
      go_wp2
      go_ret
      exact ⟨by have := HW.out; first | (rw [this]; done) | (simp; omega) | omega, by repeat (first | exact Drawn0.refl _ | apply Drawn0.step)⟩
theorem impl_family_outer.walk (b : Nat) (F : List Bool) (x : Int) (w : World) (hF : FamAt w b F) (h0 : 0 ≤ x) (h1 : x < 128) :
    Calls Try.prog 110 #[.pointer (some ⟨b, 0, none⟩), .int .i64 x] w fun e w' => e = .returned (.int .i64 (outerF F x.toNat)) ∧ Drawn0 w w' := impl_family_outer.walkC ⟨b, 0, none⟩ F x w hF.c h0 h1
def impl_family_outer.f (l0 : List Bool) (a1 : Int) : Option Int := if l0.length = 128 ∧ 0 ≤ a1 ∧ a1 < 128 then some (outerF l0 a1.toNat) else none
theorem impl_family_outer.calls (A0 : Option Addr) (c0 : Nat) (l0 : List Bool) (a1 : Int) (r : Int) (w : World) (hr0 : Kd.C Kd.bool w A0 l0.length l0) (hc0 : l0.length ≤ c0) (h : impl_family_outer.f l0 a1 = some r) :
    Calls Try.prog 110 #[.pointer A0, .int .i64 a1] w fun e w' => e = .returned (.int .i64 r) ∧ Drawn0 w w' := by
  unfold impl_family_outer.f at h
  split at h
  · rename_i hl
    have e := Option.some.inj h
    subst e
    obtain ⟨ad, rfl, HF⟩ := FamC.of_reads hr0 hl.1
    exact impl_family_outer.walkC ad l0 a1 w HF hl.2.1 hl.2.2
  · cases h

-- HAND with (*impl.family).outer
theorem outer_f (F : List Bool) (hF : F.length = 128) (x : Int) (h0 : 0 ≤ x) (h1 : x < 128) : impl_family_outer.f F x = some (outerF F x.toNat : Int) := by
  unfold impl_family_outer.f
  rw [if_pos ⟨hF, h0, h1⟩]

-- HAND impl_Space_ways_1: function 108
open Go.Maps in
theorem int_law : Keyed Try.prog 3 := int_keyed Try.underlying3
theorem zeroE_int (w : World) : (zeroValue 3).run Try.prog w = .ok (.int .i64 0) w := by kernel_rfl
/-- The sum over some items of what is told of the sets with each more; how many stores it takes. -/
def sumF (rec_ : Int → Option (Int × Nat)) (set : Int) : List Int → Int → Nat → Option (Int × Nat)
 | [], n, c => some (n, c)
 | i :: I, n, c => if 0 ≤ i then (rec_ (Go.bits .or .i64 set (shl .i64 1 i))).bind fun r => sumF rec_ set I (wrap64 (n + r.1)) (c + r.2) else none
/-- How many words lead from a set to all items. -/
def waysF (all : Int) (F : List Bool) : Nat → Int → Option (Int × Nat)
 | 0, _ => none
 | k + 1, set => if set = all then some (1, 0) else (impl_family_outer.f F set).bind fun m => (impl_items.f k m).bind fun I => (sumF (fun s => waysF all F k s) set I 0 0).bind fun r => some (r.1, r.2 + 1)
theorem sumF_mono {r1 r2 : Int → Option (Int × Nat)} (h : ∀ s, LeO (r1 s) (r2 s)) (set : Int) : ∀ (I : List Int) (n : Int) (c : Nat), LeO (sumF r1 set I n c) (sumF r2 set I n c)
 | [], _, _ => LeO.refl _
 | i :: I, n, c => by
  unfold sumF
  exact LeO.ite (LeO.bind (h _) fun r => sumF_mono h set I _ _) (LeO.refl _)
theorem waysF_mono (all : Int) (F : List Bool) : ∀ (k : Nat) (set : Int), LeO (waysF all F k set) (waysF all F (k + 1) set)
 | 0, _ => LeO.none _
 | k + 1, set => by
  show LeO (if set = all then some (1, 0) else (impl_family_outer.f F set).bind fun m => (impl_items.f k m).bind fun I => (sumF (fun s => waysF all F k s) set I 0 0).bind fun r => some (r.1, r.2 + 1)) (if set = all then some (1, 0) else (impl_family_outer.f F set).bind fun m => (impl_items.f (k + 1) m).bind fun I => (sumF (fun s => waysF all F (k + 1) s) set I 0 0).bind fun r => some (r.1, r.2 + 1))
  exact LeO.ite (LeO.refl _) (LeO.bind (LeO.refl _) fun m => LeO.bind (impl_items.mono _ k) fun I => LeO.bind (sumF_mono (waysF_mono all F k) _ _ _ _) fun r => LeO.refl _)
theorem waysF_det {all : Int} {F : List Bool} {k k' : Nat} {set : Int} {a b : Int × Nat} (h : waysF all F k set = some a) (h' : waysF all F k' set = some b) : a = b := by
 have h1 := at_rounds (fun k => waysF_mono all F k set) (Nat.le_max_left k k') h
 have h2 := at_rounds (fun k => waysF_mono all F k set) (Nat.le_max_right k k') h'
 rw [h1] at h2
 exact Option.some.inj h2
/-- All keys are sets. -/
def RangeOk (D : DataW Unit) : Prop := ∃ es, D = .map es ∧ ∀ p ∈ es, ∃ x : Int, p.1 = .int .i64 x ∧ 0 ≤ x ∧ x < 128
/-- What is kept is right. -/
def MemoOk (all : Int) (F : List Bool) (D : DataW Unit) : Prop := RangeOk D ∧ ∀ x : Int, Go.Maps.has D (.int .i64 x) = true → ∃ (k : Nat) (v : Int) (c : Nat), waysF all F k x = some (v, c) ∧ D.atKey (.int .i64 x) (.lit (.int .i64 0)) = .lit (.int .i64 v)
def litN : Lit → Nat
 | .int _ a => a.toNat
 | _ => 0
theorem nodup_len {α : Type} [DecidableEq α] : ∀ (l m : List α), l.Nodup → (∀ x ∈ l, x ∈ m) → l.length ≤ m.length
 | [], m, _, _ => Nat.zero_le _
 | x :: l, m, hn, hs => by
  have hx := hs x List.mem_cons_self
  have h1 := nodup_len l (m.erase x) (List.nodup_cons.1 hn).2 (fun y hy => by
   have hne : y ≠ x := fun e => (List.nodup_cons.1 hn).1 (e ▸ hy)
   exact (List.mem_erase_of_ne hne).2 (hs y (List.mem_cons_of_mem _ hy)))
  rw [List.length_erase_of_mem hx] at h1
  have := List.length_pos_of_mem hx
  rw [List.length_cons]
  omega
theorem foldr_insert_len {H : Type} : ∀ (l : List (Lit × DataW H)), (l.foldr DataW.insert []).length = l.length
 | [] => rfl
 | p :: l => by
  have h1 := foldr_insert_len l
  show (DataW.insert p (l.foldr DataW.insert [])).length = l.length + 1
  rw [(Go.WideShapes.insert_perm p _).length_eq, List.length_cons, h1]
theorem own_tight {w : World} {b m : Nat} {D : DataW Unit} (h : w.ownsMap Try.prog 3 (plainElem Try.prog 3) b m D) (hr : RangeOk D) : w.ownsMap Try.prog 3 (plainElem Try.prog 3) b 128 D := by
 obtain ⟨ex, e1, hx⟩ := hr
 obtain ⟨et, e2, hp⟩ := World.ownsMap.tidy h int_law
 obtain ⟨es, clock, hb, F, hs, hD⟩ := h
 refine ⟨es, clock, hb, F, ?_, hD⟩
 have e3 : ex = et := by rw [e1] at e2; injection e2
 have e4 : ex = (es.toList.map (Go.WideElems.rg Try.prog 3 (plainElem Try.prog 3))).foldr DataW.insert [] := by rw [e1] at hD; injection hD
 have h1 : ex.length = es.size := by rw [e4, foldr_insert_len, List.length_map, Array.length_toList]
 rw [← h1]
 have h2 : (ex.map fun p => litN p.1).length ≤ (List.range 128).length := by
  refine nodup_len _ _ ?_ ?_
  ·
   rw [List.Nodup, List.pairwise_map]
   refine List.Pairwise.imp_of_mem ?_ (e3 ▸ hp)
   intro p q hpm hqm hne e
   obtain ⟨x, x1, x2, x3⟩ := hx p hpm
   obtain ⟨y, y1, y2, y3⟩ := hx q hqm
   rw [x1, y1] at hne e
   have e : x.toNat = y.toNat := e
   exact hne (by rw [show x = y by omega])
  ·
   intro z hz
   obtain ⟨p, hpm, rfl⟩ := List.mem_map.1 hz
   obtain ⟨x, x1, x2, x3⟩ := hx p hpm
   rw [x1]
   exact List.mem_range.2 (by show x.toNat < 128; omega)
 rw [List.length_map, List.length_range] at h2
 exact h2
theorem RangeOk.put {D : DataW Unit} (h : RangeOk D) {x : Int} (h0 : 0 ≤ x) (h1 : x < 128) (d : DataW Unit) : RangeOk (D.put (.int .i64 x) d) := by
 obtain ⟨es, rfl, hx⟩ := h
 refine ⟨DataW.insert (.int .i64 x, d) (es.filter fun p => !p.1.sameKey (.int .i64 x)), rfl, fun p hp => ?_⟩
 rcases List.mem_cons.1 ((Go.WideShapes.insert_perm _ _).mem_iff.1 hp) with rfl | hp
 ·
  exact ⟨x, rfl, h0, h1⟩
 ·
  exact hx p (List.mem_filter.1 hp).1
theorem RangeOk.isMap {D : DataW Unit} (h : RangeOk D) : Go.Maps.IsMap D := by
 obtain ⟨es, rfl, _⟩ := h
 exact ⟨es, rfl⟩
theorem sumF_wf {rec_ : Int → Option (Int × Nat)} {set : Int} : ∀ (I : List Int) (n : Int) (c : Nat) (r : Int × Nat), (Lit.int .i64 n).wf = true → sumF rec_ set I n c = some r → (Lit.int .i64 r.1).wf = true
 | [], n, c, r, hn, h => by
  obtain rfl := Option.some.inj h
  exact hn
 | i :: I, n, c, r, hn, h => by
  unfold sumF at h
  split at h
  ·
   obtain ⟨a, _, h2⟩ := Option.bind_eq_some_iff.1 h
   exact sumF_wf I _ _ _ (WalkArith.wf_i64 (by unfold wrap64; omega)) h2
  ·
   cases h
structure WayS (wb w : World) (gs gm gf gn bm bf : Nat) (n : Int) (A : Option Addr) (c : Nat) (l : List Int) (F : List Bool) (all : Int) (D : DataW Unit) : Prop where
 bel : Below wb.heap.size wb w
 b1 : w.heap[gs]? = some (.cells #[.int .i64 n, .slice A l.length c] 28 (0, 0))
 b2 : w.heap[gm]? = some (.cells #[.map (some bm)] 112 (0, 0))
 b3 : w.heap[gf]? = some (.cells #[.pointer (some ⟨bf, 0, none⟩)] 105 (0, 0))
 b4 : w.heap[gn]? = some (.cells #[.func (.func 108) #[] #[.pointer (some ⟨gs, 0, none⟩), .pointer (some ⟨gm, 0, none⟩), .pointer (some ⟨gf, 0, none⟩), .pointer (some ⟨gn, 0, none⟩)]] 73 (0, 0))
 fam : FamAt w bf F
 map : w.ownsMap Try.prog 3 (plainElem Try.prog 3) bm 128 D
 memo : MemoOk all F D
 wm : wb.heap.size ≤ bm
section
variable {wb w w' : World} {gs gm gf gn bm bf : Nat} {n : Int} {A : Option Addr} {c : Nat} {l : List Int} {F : List Bool} {all : Int} {D : DataW Unit}
theorem cells_ne_map {W : World} {g b : Nat} {cs : Array Value} {t : TypeId} {P : Program} {k : TypeId} {R : Value → Option (DataW Unit × List MemPlace)} {m : Nat} {D : DataW Unit} (h : W.heap[g]? = some (.cells cs t (0, 0))) (hm : W.ownsMap P k R b m D) : some g ≠ some b := by
 rintro e
 obtain rfl := Option.some.inj e
 obtain ⟨es, clock, hb, _⟩ := hm
 rw [h] at hb
 cases hb
theorem WayS.below (h : WayS wb w gs gm gf gn bm bf n A c l F all D) (hb : Below w.heap.size w w') : WayS wb w' gs gm gf gn bm bf n A c l F all D :=
 ⟨below_step h.bel hb, blk_below h.b1 hb, blk_below h.b2 hb, blk_below h.b3 hb, blk_below h.b4 hb, h.fam.below hb, h.map.kept (grown_of_below hb none) (by simp), h.memo, h.wm⟩
theorem WayS.drewN (h : WayS wb w gs gm gf gn bm bf n A c l F all D) (j : Nat) : WayS wb (w.drewN j) gs gm gf gn bm bf n A c l F all D := h.below (pw_below_drewN (Below.refl _ _) j)
theorem WayS.put (h : WayS wb w gs gm gf gn bm bf n A c l F all D) {x v : Int} {k j : Nat} (hv : waysF all F k x = some (v, j)) (h0 : 0 ≤ x) (h1 : x < 128) (hm : w'.ownsMap Try.prog 3 (plainElem Try.prog 3) bm 129 (D.put (.int .i64 x) (.lit (.int .i64 v)))) (hg : w.grownBy w' (some bm)) : WayS wb w' gs gm gf gn bm bf n A c l F all (D.put (.int .i64 x) (.lit (.int .i64 v))) := by
 refine ⟨pw_below_grown h.bel (some bm) h.bel.size hg (fun k hk => by cases hk; exact h.wm), blk_grown h.b1 hg (cells_ne_map h.b1 h.map), blk_grown h.b2 hg (cells_ne_map h.b2 h.map), blk_grown h.b3 hg (cells_ne_map h.b3 h.map), blk_grown h.b4 hg (cells_ne_map h.b4 h.map), ⟨h.fam.len, blk_grown h.fam.blk hg (cells_ne_map h.fam.blk h.map)⟩, own_tight hm (h.memo.1.put h0 h1 _), ⟨h.memo.1.put h0 h1 _, fun y hy => ?_⟩, h.wm⟩
 by_cases e : y = x
 ·
  subst e
  exact ⟨k, v, j, hv, Go.Maps.atKey_put_same h.memo.1.isMap (show WideAt.IsKeyLit (.int .i64 y) from by simp [WideAt.IsKeyLit]) _ _⟩
 ·
  have hne : (Lit.int .i64 y) ≠ (Lit.int .i64 x) := fun h2 => e (by injection h2)
  rw [Go.Maps.has_put_other hne] at hy
  rw [Go.Maps.atKey_put_other hne]
  exact h.memo.2 y hy
end
/-- What may have changed between two worlds: the map, which is still right. -/
def WayOk (wb w w' : World) (gs gm gf gn bm bf : Nat) (n : Int) (A : Option Addr) (c : Nat) (l : List Int) (F : List Bool) (all : Int) : Prop := ∃ D, WayS wb w' gs gm gf gn bm bf n A c l F all D ∧ Kept w w' (fun k => k = bm)
theorem WayOk.trans {wb w w' w'' : World} {gs gm gf gn bm bf : Nat} {n : Int} {A : Option Addr} {c : Nat} {l : List Int} {F : List Bool} {all : Int} (h : WayOk wb w w' gs gm gf gn bm bf n A c l F all) (h2 : WayOk wb w' w'' gs gm gf gn bm bf n A c l F all) : WayOk wb w w'' gs gm gf gn bm bf n A c l F all := by
 obtain ⟨_, _, k1⟩ := h
 obtain ⟨D, s2, k2⟩ := h2
 exact ⟨D, s2, k1.then_ k2 (fun _ hk => .inl hk)⟩
theorem WayOk.cell {wb w w' : World} {gs gm gf gn bm bf : Nat} {n : Int} {A : Option Addr} {c : Nat} {l : List Int} {F : List Bool} {all : Int} (h : WayOk wb w w' gs gm gf gn bm bf n A c l F all) : w'.cell? ⟨gn, 0, none⟩ = some (.func (.func 108) #[] #[.pointer (some ⟨gs, 0, none⟩), .pointer (some ⟨gm, 0, none⟩), .pointer (some ⟨gf, 0, none⟩), .pointer (some ⟨gn, 0, none⟩)]) := by
 obtain ⟨D, s2, _⟩ := h
 exact (blk_cell s2.b4 0).trans rfl
set_option maxHeartbeats 4000000 in
set_option maxRecDepth 100000 in
theorem impl_Space_ways_1.calls (gs gm gf gn bm bf : Nat) (n : Int) (A : Option Addr) (c : Nat) (l : List Int) (F : List Bool) (all : Int) (wb : World) (hl : Kd.C (Kd.int .i64) wb A l.length l) (hc : l.length ≤ c) (hall : impl_Space_all.f n l = some all) :
  ∀ (k : Nat) (set : Int) (r : Int × Nat) (D : DataW Unit) (w : World) (hS : WayS wb w gs gm gf gn bm bf n A c l F all D) (h : waysF all F k set = some r),
  Calls Try.prog 108 #[.int .i64 set, .pointer (some ⟨gs, 0, none⟩), .pointer (some ⟨gm, 0, none⟩), .pointer (some ⟨gf, 0, none⟩), .pointer (some ⟨gn, 0, none⟩)] w fun e w' => e = .returned (.int .i64 r.1) ∧ WayOk wb w w' gs gm gf gn bm bf n A c l F all := by
 have hu := Try.underlying28
 have HL := asd hl
 have HC := asd hc
 have HAL := asd hall
 clear hl hc hall
 intro k
 induction k with
 | zero =>
  intro set r D w hS h
  cases h
 | succ k ih =>
  intro set r D w hS h
  have IH := asd ih
  have HS := asd hS
  have HW := asd h
  have q1 : w.cell? ⟨gs, 0, none⟩ = some (.int .i64 n) := (blk_cell hS.b1 0).trans rfl
  have q2 : w.cell? ⟨gs, 1, none⟩ = some (.slice A l.length c) := (blk_cell hS.b1 1).trans rfl
  clear ih hS
  unfold waysF at h
  by_cases c1 : set = all
  ·
   rw [if_pos c1] at h
   obtain rfl := Option.some.inj h
   have c1b : (set == all) = true := beq_iff_eq.mpr c1
   clear h c1
   go_enter Try.func108, Try.ntmps108
   go_wp2_with (go_at_call 103; (with_reducible refine (impl_Space_all.calls n _ _ l all _ ?sa ?sb HAL.out).mono ?_); (case sa => exact Kd.C_below HL.out HS.out.bel); (case sb => exact HC.out); rintro e W3 ⟨rfl, hb3⟩; have HB3 := asd hb3; clear q1 q2 hb3)
   go_ret
   exact ⟨rfl, D, HS.out.below HB3.out, Kept.of_below HB3.out _⟩
  ·
   rw [if_neg c1] at h
   obtain ⟨o, ho, h⟩ := Option.bind_eq_some_iff.1 h
   obtain ⟨L, hL, h⟩ := Option.bind_eq_some_iff.1 h
   obtain ⟨⟨v, cc⟩, hv, h⟩ := Option.bind_eq_some_iff.1 h
   obtain rfl := Option.some.inj h
   have c1b : (set == all) = false := beq_eq_false_iff_ne.mpr c1
   have hrange : 0 ≤ set ∧ set < 128 := by
    unfold impl_family_outer.f at ho
    split at ho
    ·
     rename_i hh
     exact hh.2
    ·
     cases ho
   have HWF : Aside0 ((Lit.int .i64 set).wf = true) := ⟨WalkArith.wf_i64 (by omega)⟩
   have HO := asd ho
   have HI := asd hL
   have HV := asd hv
   have HRG := asd hrange
   clear h c1 ho hL hv hrange
   cases hh : Go.Maps.has D (.int .i64 set) with
   | true =>
    obtain ⟨k2, v2, c2, e1, e2⟩ := HS.out.memo.2 set hh
    have e3 := waysF_det HW.out e1
    have HH := asd hh
    have HAT := asd e2
    have HV2 : Aside0 (v = v2) := ⟨congrArg Prod.fst e3⟩
    clear hh e1 e2 e3
    go_enter Try.func108, Try.ntmps108
    go_wp2_with (first | (go_at_call 103; (with_reducible refine (impl_Space_all.calls n _ _ l all _ ?sa ?sb HAL.out).mono ?_); (case sa => exact Kd.C_below HL.out HS.out.bel); (case sb => exact HC.out); rintro e W3 ⟨rfl, hb3⟩; have HS3 := asd (HS.out.below hb3); have HB3 := asd hb3; have q3 : W3.cell? ⟨gm, 0, none⟩ = some (.map (some bm)) := (blk_cell HS3.out.b2 0).trans rfl; clear q1 q2 hb3) | (at_lookup; go_loud (refine wpList_lookup_own_ok_int _ rfl _ _ 112 rfl 3 3 .i64 int_law Try.underlying112 Try.underlying3 (zeroE_int _) bm 128 D rfl HS3.out.map _ _ rfl (Go.Maps.keyOf_int_mk Try.underlying3 HWF.out) ?_; intro cv hat hwc; rw [HH.out]; have HC2 : Aside0 (cv = v) := ⟨by have h1 := HAT.out.symm.trans hat; rw [HV2.out]; injection h1 with h1; injection h1 with h1 h2; exact h2.symm⟩; clear hat hwc)))
    go_ret
    exact ⟨by rw [HC2.out]; rfl, D, HS3.out, Kept.of_below HB3.out _⟩
   | false =>
    have HH := asd hh
    clear hh
    go_enter Try.func108, Try.ntmps108
    go_wp2_with (first | (go_at_call 103; (with_reducible refine (impl_Space_all.calls n _ _ l all _ ?sa ?sb HAL.out).mono ?_); (case sa => exact Kd.C_below HL.out HS.out.bel); (case sb => exact HC.out); rintro e W3 ⟨rfl, hb3⟩; have HS3 := asd (HS.out.below hb3); have HB3 := asd hb3; have q3 : W3.cell? ⟨gm, 0, none⟩ = some (.map (some bm)) := (blk_cell HS3.out.b2 0).trans rfl; have q4 : W3.cell? ⟨gf, 0, none⟩ = some (.pointer (some ⟨bf, 0, none⟩)) := (blk_cell HS3.out.b3 0).trans rfl; clear q1 q2 hb3) | (at_lookup; refine wpList_lookup_own_ok_int _ rfl _ _ 112 rfl 3 3 .i64 int_law Try.underlying112 Try.underlying3 (zeroE_int _) bm 128 D rfl HS3.out.map _ _ rfl (Go.Maps.keyOf_int_mk Try.underlying3 HWF.out) ?_; intro cv hat hwc; rw [HH.out]; clear hat hwc) | (go_at_call 110; (with_reducible refine (impl_family_outer.calls (some ⟨bf, 0, none⟩) 128 F set o _ ?sc ?sd HO.out).mono ?_); (case sc => exact (Kd.R_reads' (HS3.out.fam.own (Nat.zero_le _))).2.2); (case sd => exact (Kd.R_reads' (HS3.out.fam.own (Nat.zero_le _))).2.1); rintro e W4 ⟨rfl, ⟨nd, rfl⟩⟩; have HS4 := asd (HS3.out.drewN nd); have HB4 : Aside0 (Below w.heap.size w (World.drewN W3 nd)) := ⟨pw_below_drewN HB3.out nd⟩; generalize World.drewN W3 nd = W4 at *; clear q3 q4) | (go_at_call 109; (with_reducible refine (impl_items.calls k o L _ HI.out).mono ?_); rintro e W5 ⟨vI, rfl, hR, hb5⟩; have HS5 := asd (HS4.out.below hb5); have HB5 := asd (below_step HB4.out hb5); obtain ⟨AI, cI, rfl⟩ := Kd.R_slice hR; have HIT := asd (Kd.R_tight rfl hR); have HIB := asd (Kd.R_base hR); have HLT := asd HS4.out.map.lt; clear hR hb5))
    have HNI : Aside0 (∀ k, some k = (Value.slice AI L.length cI).ownBlock → ¬ k = bm) := ⟨fun k hk hh => by
     have h1 := HIB.out k hk.symm
     have := HLT.out
     omega⟩
    clear HS3 HB3 HS4 HB4 HIB HLT
    go_loopg [9, 29] L.length (fun kq v9 v29 wr => ∃ (j : Nat) (n1 : Int) (c1 : Nat) (D1 : DataW Unit), v9 = .int .i64 n1 ∧ v29 = .int .i64 j ∧ Aside0 (j ≤ L.length ∧ L.length - j ≤ kq) ∧ Aside0 (sumF (fun s => waysF all F k s) set (L.drop j) n1 c1 = some (v, cc)) ∧ Aside0 (WayS wb wr gs gm gf gn bm bf n A c l F all D1) ∧ Aside0 (Kept W5 wr (fun k => k = bm)))
    case atStart => exact ⟨0, 0, 0, D, rfl, rfl, ⟨Nat.zero_le _, Nat.le_refl _⟩, ⟨HV.out⟩, HS5, ⟨Kept.refl _ _⟩⟩
    case round =>
     clear HS5 HS
     obtain ⟨j, n1, c1, D1, rfl, rfl, hj, HA, HS, HK⟩ := hrel
     obtain ⟨hjl, hgg⟩ := hj.out
     clear hj
     have HIR := asd (Kd.R_reads' (Kd.R_step HIT.out (fun k hk hlt => HK.out.2 k hlt (HNI.out k hk)))).2.2
     have hmx := Kd.C_max HIR.out
     by_cases hlt : j < L.length
     ·
      have hltz : (j : Int) < (L.length : Int) := by omega
      have H := HA.out
      clear HA
      rw [List.drop_eq_getElem_cons hlt, ← rd_get hlt] at H
      obtain ⟨ad, e, hcx⟩ := Kd.at_int HIR.out (j : Int) (by omega) hltz
      cases e
      rw [Int.toNat_natCast] at hcx
      generalize rd L (j : Int) = x at *
      unfold sumF at H
      by_cases hx : 0 ≤ x
      ·
       rw [if_pos hx] at H
       obtain ⟨⟨rv, rc⟩, hrec, H⟩ := Option.bind_eq_some_iff.1 H
       have HH2 := asd H
       have hx0b : decide (0 ≤ x) = true := decide_eq_true hx
       obtain ⟨sx, hsx⟩ : ∃ y, y = shl .i64 1 x := ⟨_, rfl⟩
       have sA : IntKind.i64.wrap (1 * 2 ^ min x.toNat 64) = sx := hsx.symm
       have sB : IntKind.i64.wrap (2 ^ min x.toNat 64) = sx := by rw [← sA, Int.one_mul]
       have sC : wrap64 (1 * 2 ^ min x.toNat 64) = sx := (i64_w _).symm.trans sA
       have sD : wrap64 (2 ^ min x.toNat 64) = sx := (i64_w _).symm.trans sB
       have HREC : Aside0 (waysF all F k (Go.bits .or .i64 set sx) = some (rv, rc)) := ⟨by rw [hsx]; exact hrec⟩
       clear hsx H hrec
       have q6 : wr.cell? ⟨gn, 0, none⟩ = some (.func (.func 108) #[] #[.pointer (some ⟨gs, 0, none⟩), .pointer (some ⟨gm, 0, none⟩), .pointer (some ⟨gf, 0, none⟩), .pointer (some ⟨gn, 0, none⟩)]) := (blk_cell HS.out.b4 0).trans rfl
       have HK0 : Aside0 (∀ w', Below wr.heap.size wr w' → Aside0 (WayOk wb wr w' gs gm gf gn bm bf n A c l F all) ∧ w'.cell? ⟨gn, 0, none⟩ = some (.func (.func 108) #[] #[.pointer (some ⟨gs, 0, none⟩), .pointer (some ⟨gm, 0, none⟩), .pointer (some ⟨gf, 0, none⟩), .pointer (some ⟨gn, 0, none⟩)])) := ⟨fun w' hb => ⟨⟨⟨D1, HS.out.below hb, Kept.of_below hb _⟩⟩, (blk_cell (HS.out.below hb).b4 0).trans rfl⟩⟩
       have HK1 : Aside0 (∀ w' w'', WayOk wb wr w' gs gm gf gn bm bf n A c l F all → WayOk wb w' w'' gs gm gf gn bm bf n A c l F all → Aside0 (WayOk wb wr w'' gs gm gf gn bm bf n A c l F all) ∧ w''.cell? ⟨gn, 0, none⟩ = some (.func (.func 108) #[] #[.pointer (some ⟨gs, 0, none⟩), .pointer (some ⟨gm, 0, none⟩), .pointer (some ⟨gf, 0, none⟩), .pointer (some ⟨gn, 0, none⟩)])) := ⟨fun w' w'' h1 h2 => ⟨⟨h1.trans h2⟩, h2.cell⟩⟩
       go_wp2
       go_region_held3 (fun w' => Aside0 (WayOk wb wr w' gs gm gf gn bm bf n A c l F all) ∧ w'.cell? ⟨gn, 0, none⟩ = some (.func (.func 108) #[] #[.pointer (some ⟨gs, 0, none⟩), .pointer (some ⟨gm, 0, none⟩), .pointer (some ⟨gf, 0, none⟩), .pointer (some ⟨gn, 0, none⟩)])) (first | exact HK0.out _ (below_drew1 (Below.refl _ _)) | exact HK1.out _ _ (‹Aside0 (WayOk wb wr _ gs gm gf gn bm bf n A c l F all) ∧ _›).1.out (by assumption)) (first | (go_at_call 108; obtain ⟨Dq, hSq, hKq⟩ := (‹Aside0 (WayOk wb wr _ gs gm gf gn bm bf n A c l F all) ∧ _›).1.out; (refine (IH.out (Go.bits .or .i64 set sx) (rv, rc) Dq _ hSq HREC.out).mono ?_); rintro e W3 ⟨rfl, hb3⟩))
       have HB3 := (‹Aside0 (WayOk wb wr _ gs gm gf gn bm bf n A c l F all) ∧ _›).1
       go_wp2
       go_roundg (L.length - (j + 1))
       case measure => omega
       case rel =>
        obtain ⟨D2, hS2, hK2⟩ := HB3.out
        exact ⟨j + 1, wrap64 (n1 + rv), c1 + rc, D2, congrArg (Value.int .i64) (i64_w _), by go_num, ⟨by omega, Nat.le_refl _⟩, ⟨HH2.out⟩, ⟨hS2⟩, ⟨HK.out.then_ hK2 (fun _ hk => .inl hk)⟩⟩
      ·
       rw [if_neg hx] at H
       cases H
     ·
      obtain rfl : j = L.length := by omega
      have hltz : ¬ (L.length : Int) < (L.length : Int) := by omega
      have H := HA.out
      clear HA
      rw [List.drop_of_length_le (Nat.le_refl _)] at H
      unfold sumF at H
      obtain ⟨rfl, rfl⟩ : n1 = v ∧ c1 = cc := by simpa using H
      clear H
      have HWV : Aside0 ((Lit.int .i64 n1).wf = true) := ⟨sumF_wf _ _ _ _ (WalkArith.wf_i64 (by omega)) HV.out⟩
      have q7 : wr.cell? ⟨gm, 0, none⟩ = some (.map (some bm)) := (blk_cell HS.out.b2 0).trans rfl
      go_wp2_with (at_mapUpdate; refine wpList_mapUpdate_own _ rfl _ _ _ 112 rfl 3 3 int_law Try.underlying112 _ bm 128 _ rfl HS.out.map (by unfold maxLen; omega) _ _ _ rfl rfl (Go.Maps.keyOf_int_mk Try.underlying3 HWF.out) _ [] (plainElem_int Try.underlying3 HWV.out) ?_; intro w9 hown9 hg9; have HOWN := asd hown9; have HG := asd hg9; clear hown9 hg9)
      go_ret
      exact ⟨rfl, D1.put (.int .i64 set) (.lit (.int .i64 n1)), HS.out.put HW.out HRG.out.1 HRG.out.2 HOWN.out HG.out, Kept.of_grown HG.out ((Kept.of_below HB5.out (fun k => k = bm)).then_ HK.out (fun _ hk => .inl hk)) (fun k hk => .inl (by cases hk; rfl))⟩

end Go.Proofs.Ytkepeflplmkcmaa.Q
