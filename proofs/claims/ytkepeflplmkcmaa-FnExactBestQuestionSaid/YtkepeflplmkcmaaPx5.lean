/- Contracts of functions that the laws reach: a call returns what the plain Lean function of the same name tells. Conditions: those of each theorem. Made by gen.py, a program of this session, over the print of the translation. -/
import Derived.Test.YtkepeflplmkcmaaPx0
import Derived.Test.YtkepeflplmkcmaaPx1
import Derived.Test.YtkepeflplmkcmaaPx2
import Derived.Test.YtkepeflplmkcmaaPx3
import Derived.Test.YtkepeflplmkcmaaPx4
namespace Go.Proofs.Ytkepeflplmkcmaa.Q
open Go.RowKit Go.Proofs.YtkepeflplmkcmaaW.PrintWords Go.Proofs.YtkepeflplmkcmaaW.PrintLast Go.Proofs.YtkepeflplmkcmaaW.PrintMore
attribute [local go_sem] max2_int min2_int max_two min_two max_three min_three max_four min_four   -- for this text's walks alone
set_option linter.unusedVariables false
set_option linter.unusedSimpArgs false

/-! ### spec_asGood: function 50 -/
def spec_asGood.f (k : Nat) (a0_0 : Int) (l0_1 : List Int) (a1 : Int) (a2 : Int) : Option (Bool) := (spec_spGood.f k a0_0 l0_1).bind fun t102 => (if t102 = true then (if 0 ≤ a0_0 then ((spec_l1In.f a1 0 (wrap64 ((shl .i64 1 a0_0) - 1))).bind fun t103 => (if t103 = true then ((spec_l1In.f a2 0 (wrap64 ((shl .i64 1 a0_0) - 1))).bind fun t104 => (if t104 = true then (if (Go.bits .and .i64 a1 a2) = 0 then ((spec_asLeft.f k a0_0 l0_1 a1 a2).bind fun t105 => (some (decide ((t105.length : Int) > 0)))) else (some false)) else (some false))) else (some false))) else (none)) else (some false))
theorem spec_asGood.mono : ∀ a0 a1 a2 a3 k, LeO (spec_asGood.f k a0 a1 a2 a3) (spec_asGood.f (k + 1) a0 a1 a2 a3) := by
 intro a0 a1 a2 a3 k
 unfold spec_asGood.f
 repeat' first
   | (with_reducible exact spec_asLeft.mono _ _ _ _ _)
   | (with_reducible exact spec_spGood.mono _ _ _)
   | (with_reducible exact LeO.refl _)
   | (with_reducible exact LeO.none _)
   | (with_reducible refine LeO.ite ?_ ?_)
   | (with_reducible refine LeO.bind ?_ (fun _ => ?_))
   | exact spec_asLeft.mono _ _ _ _ _
   | exact spec_spGood.mono _ _ _
   | exact LeO.none _
   | refine LeO.ite ?_ ?_
   | refine LeO.bind ?_ (fun _ => ?_)
set_option maxHeartbeats 8000000 in
set_option maxRecDepth 100000 in
theorem spec_asGood.calls (k : Nat) (a0_0 : Int) (A0_1 : Option Addr) (c0_1 : Nat) (l0_1 : List Int) (a1 : Int) (a2 : Int) (r : Bool) (w : World) (hr0_1 : Kd.C (Kd.int .i64) w A0_1 l0_1.length l0_1) (hc0_1 : l0_1.length ≤ c0_1) (h : spec_asGood.f k a0_0 l0_1 a1 a2 = some r) :
  Calls Try.prog 50 #[.agg #[.int .i64 a0_0, .slice A0_1 l0_1.length c0_1], .int .i64 a1, .int .i64 a2] w fun e w' => e = .returned (.bool r) ∧ Below w.heap.size w w' := by
 have hu28 := Try.underlying28
 have HR0_1 := asd hr0_1
 have HC0_1 := asd hc0_1
 clear hr0_1 hc0_1
 have HB := asd (Below.refl w.heap.size w)
 have H : ((spec_spGood.f k a0_0 l0_1).bind fun t102 => (if t102 = true then (if 0 ≤ a0_0 then ((spec_l1In.f a1 0 (wrap64 ((shl .i64 1 a0_0) - 1))).bind fun t103 => (if t103 = true then ((spec_l1In.f a2 0 (wrap64 ((shl .i64 1 a0_0) - 1))).bind fun t104 => (if t104 = true then (if (Go.bits .and .i64 a1 a2) = 0 then ((spec_asLeft.f k a0_0 l0_1 a1 a2).bind fun t105 => (some (decide ((t105.length : Int) > 0)))) else (some false)) else (some false))) else (some false))) else (none)) else (some false))) = some r := h
 clear h
 replace H := Option.bind_eq_some_iff.mp H
 obtain ⟨t102, A40, H⟩ := H
 replace H : (if t102 = true then (if 0 ≤ a0_0 then ((spec_l1In.f a1 0 (wrap64 ((shl .i64 1 a0_0) - 1))).bind fun t103 => (if t103 = true then ((spec_l1In.f a2 0 (wrap64 ((shl .i64 1 a0_0) - 1))).bind fun t104 => (if t104 = true then (if (Go.bits .and .i64 a1 a2) = 0 then ((spec_asLeft.f k a0_0 l0_1 a1 a2).bind fun t105 => (some (decide ((t105.length : Int) > 0)))) else (some false)) else (some false))) else (some false))) else (none)) else (some false)) = some r := H
 have A4 := asd A40
 clear A40
 by_cases c5 : t102 = true
 ·
  subst c5
  have H1 : (if 0 ≤ a0_0 then ((spec_l1In.f a1 0 (wrap64 ((shl .i64 1 a0_0) - 1))).bind fun t103 => (if t103 = true then ((spec_l1In.f a2 0 (wrap64 ((shl .i64 1 a0_0) - 1))).bind fun t104 => (if t104 = true then (if (Go.bits .and .i64 a1 a2) = 0 then ((spec_asLeft.f k a0_0 l0_1 a1 a2).bind fun t105 => (some (decide ((t105.length : Int) > 0)))) else (some false)) else (some false))) else (some false))) else (none)) = some r := by rw [if_pos rfl] at H; exact H
  clear H
  have H := H1
  clear H1
  by_cases c6 : 0 ≤ a0_0
  ·
   rw [if_pos c6] at H
   have c6b0 := eq_true c6
   have c6b1 : decide (0 ≤ a0_0) = true := decide_eq_true c6
   clear c6
   obtain ⟨ji7, hji7⟩ : ∃ j_ : Int, (shl .i64 1 a0_0) = j_ := ⟨_, rfl⟩
   replace H : ((spec_l1In.f a1 0 (wrap64 ((ji7) - 1))).bind fun t103 => (if t103 = true then ((spec_l1In.f a2 0 (wrap64 ((ji7) - 1))).bind fun t104 => (if t104 = true then (if (Go.bits .and .i64 a1 a2) = 0 then ((spec_asLeft.f k a0_0 l0_1 a1 a2).bind fun t105 => (some (decide ((t105.length : Int) > 0)))) else (some false)) else (some false))) else (some false))) = some r := by first | (rw [hji7] at H; exact H) | (simp only [hji7] at H ⊢; exact H)
   (try rw [hji7] at A4)
   have hji7_ : (IntKind.i64.wrap (1 * 2 ^ min a0_0.toNat 64)) = ji7 := hji7
   have hji7z : a0_0 ≤ 64 → (IntKind.i64.wrap (1 * 2 ^ a0_0.toNat)) = ji7 := shl_small hji7
   have hji7u : (IntKind.i64.wrap (2 ^ min a0_0.toNat 64)) = ji7 := by have h_ := hji7_; rw [Int.one_mul] at h_; exact h_
   have hji7v : a0_0 ≤ 64 → (IntKind.i64.wrap (2 ^ a0_0.toNat)) = ji7 := fun hle_ => by have h_ := hji7z hle_; rw [Int.one_mul] at h_; exact h_
   have hji7y : (wrap64 (1 * 2 ^ min a0_0.toNat 64)) = ji7 := (i64_w _).symm.trans hji7_
   have hji7x : a0_0 ≤ 64 → (wrap64 (1 * 2 ^ a0_0.toNat)) = ji7 := fun h_ => (i64_w _).symm.trans (hji7z h_)
   replace H := Option.bind_eq_some_iff.mp H
   obtain ⟨t103, A80, H⟩ := H
   replace H : (if t103 = true then ((spec_l1In.f a2 0 (wrap64 ((ji7) - 1))).bind fun t104 => (if t104 = true then (if (Go.bits .and .i64 a1 a2) = 0 then ((spec_asLeft.f k a0_0 l0_1 a1 a2).bind fun t105 => (some (decide ((t105.length : Int) > 0)))) else (some false)) else (some false))) else (some false)) = some r := H
   have A8 := asd A80
   clear A80
   by_cases c9 : t103 = true
   ·
    subst c9
    have H1 : ((spec_l1In.f a2 0 (wrap64 ((ji7) - 1))).bind fun t104 => (if t104 = true then (if (Go.bits .and .i64 a1 a2) = 0 then ((spec_asLeft.f k a0_0 l0_1 a1 a2).bind fun t105 => (some (decide ((t105.length : Int) > 0)))) else (some false)) else (some false))) = some r := by rw [if_pos rfl] at H; exact H
    clear H
    have H := H1
    clear H1
    replace H := Option.bind_eq_some_iff.mp H
    obtain ⟨t104, A100, H⟩ := H
    replace H : (if t104 = true then (if (Go.bits .and .i64 a1 a2) = 0 then ((spec_asLeft.f k a0_0 l0_1 a1 a2).bind fun t105 => (some (decide ((t105.length : Int) > 0)))) else (some false)) else (some false)) = some r := H
    have A10 := asd A100
    clear A100
    by_cases c11 : t104 = true
    ·
     subst c11
     have H1 : (if (Go.bits .and .i64 a1 a2) = 0 then ((spec_asLeft.f k a0_0 l0_1 a1 a2).bind fun t105 => (some (decide ((t105.length : Int) > 0)))) else (some false)) = some r := by rw [if_pos rfl] at H; exact H
     clear H
     have H := H1
     clear H1
     by_cases c12 : (Go.bits .and .i64 a1 a2) = 0
     ·
      rw [if_pos c12] at H
      have c12b0 : ((Go.bits .and .i64 a1 a2) == 0) = true := beq_iff_eq.mpr c12
      have c12b1 : ((Go.bits .and .i64 a1 a2) != 0) = false := bne_eq_false_iff_eq.mpr c12
      clear c12
      replace H := Option.bind_eq_some_iff.mp H
      obtain ⟨t105, A130, H⟩ := H
      replace H : (some (decide ((t105.length : Int) > 0))) = some r := H
      have A13 := asd A130
      clear A130
      obtain rfl := Option.some.inj H
      go_enter Try.func50, Try.ntmps50
      go_wp2_with (first | ((with_reducible refine gate_dst (N := 3) rfl ?_); (try (refine gate_guard (by rfl) ?_; dsimp only)); refine box_event ?hg (N := 3) ?hd (cs := #[.int .i64 a0_0, .slice A0_1 l0_1.length c0_1]) (t := 28) ?hr ?_; (case hd => rfl); (case hg => rfl); (case hr => first | (go_simp; done) | (go_simp; rfl)); intro gb101 hg w14 hbox hb; have n0_ := asd (below_step (by repeat (first | (with_reducible first | exact HB.out | apply below_alloc | apply pw_below_drewN | apply below_drew1) | exact HB.out)) hb); have n1_ := asd (hbox); have n2_ := asd ((by rw [hg]; exact (below_size (by repeat (first | (with_reducible first | exact HB.out | apply below_alloc | apply pw_below_drewN | apply below_drew1) | exact HB.out))) : w.heap.size ≤ gb101)); have n3_ := asd ((by rw [hg]; exact (below_size (by repeat (first | (with_reducible first | exact HB.out | apply below_alloc | apply pw_below_drewN | apply below_drew1) | exact HB.out))) : w.heap.size ≤ gb101)); clear HB; have HB := n0_; have BK101 := n1_; have GW101 := n2_; have GE101 := n3_; clear n0_ n1_ n2_ n3_; clear hb hbox hg; have hcz15_0 : w14.cell? ⟨gb101, 0, none⟩ = some (.int .i64 a0_0) := (blk_cell BK101.out 0).trans rfl; have hcz15_1 : w14.cell? ⟨gb101, 1, none⟩ = some (.slice A0_1 l0_1.length c0_1) := (blk_cell BK101.out 1).trans rfl; have hfz15_0 := blk_frozen BK101.out 0; have hfz15_1 := blk_frozen BK101.out 1) | ((with_reducible refine gate_callee (f := 43) rfl ?_); refine goesL_ (some 9) rfl rfl Try.func43 (by kernel_rfl) rfl #[.agg #[.int .i64 a0_0, .slice A0_1 l0_1.length c0_1]] rfl (by (try simp only [List.map_toArray, List.map_cons, List.map_nil]); first | done | rfl | (simp only [List.length_drop, List.length_take]; rfl)) ?_; (with_reducible refine (spec_spGood.calls k a0_0 _ _ l0_1 true _ ?side1 ?side2 A4.out).mono ?_); (case side1 => repeat (first | exact (Kd.C_below HR0_1.out HB.out) | (with_reducible refine Kd.C_alloc ?_ _) | (with_reducible refine Kd.C_drewN ?_ _) | (with_reducible refine Kd.C_drew ?_))); (case side2 => exact HC0_1.out); rintro e w16 ⟨rfl, hb⟩; refine ⟨_, rfl, ?_⟩; have n0_ := asd (blk_below (upB BK101.out) hb); have n1_ := asd (below_step (by repeat (first | (with_reducible first | exact HB.out | apply below_alloc | apply pw_below_drewN | apply below_drew1 | refine below_set ?_ GE101.out) | exact HB.out)) hb); clear BK101; clear HB; have BK101 := n0_; have HB := n1_; clear n0_ n1_; (try clear hb); (try clear hb2); (try clear hk); (try clear hi); have hcz17_0 : w16.cell? ⟨gb101, 0, none⟩ = some (.int .i64 a0_0) := (blk_cell BK101.out 0).trans rfl; have hcz17_1 : w16.cell? ⟨gb101, 1, none⟩ = some (.slice A0_1 l0_1.length c0_1) := (blk_cell BK101.out 1).trans rfl; have hfz17_0 := blk_frozen BK101.out 0; have hfz17_1 := blk_frozen BK101.out 1) | ((with_reducible refine gate_callee (f := 58) rfl ?_); refine goesL_ (some 17) rfl rfl Try.func58 (by kernel_rfl) rfl #[.int .i64 a1, .int .i64 0, .int .i64 (wrap64 ((ji7) - 1))] rfl (by (try simp only [List.map_toArray, List.map_cons, List.map_nil]); first | done | (simp only [hji7]; rfl) | rfl | (simp only [List.length_drop, List.length_take]; rfl)) ?_; (with_reducible refine (spec_l1In.calls a1 0 (wrap64 ((ji7) - 1)) true _ A8.out).mono ?_); rintro e w' ⟨rfl, ⟨nd, rfl⟩⟩; refine ⟨_, rfl, ?_⟩) | (go_at_call 58; (with_reducible refine (spec_l1In.calls a2 0 (wrap64 ((ji7) - 1)) true _ A10.out).mono ?_); rintro e w' ⟨rfl, ⟨nd, rfl⟩⟩) | (go_at_call 53; (with_reducible refine (spec_asLeft.calls k a0_0 _ _ l0_1 a1 a2 t105 _ ?side1 ?side2 A13.out).mono ?_); (case side1 => repeat (first | exact (Kd.C_below HR0_1.out (by repeat (first | (with_reducible first | exact HB.out | apply below_alloc | apply pw_below_drewN | apply below_drew1 | refine below_set ?_ GE101.out) | exact HB.out))) | (with_reducible refine Kd.C_alloc ?_ _) | (with_reducible refine Kd.C_drewN ?_ _) | (with_reducible refine Kd.C_drew ?_))); (case side2 => exact HC0_1.out); rintro e w18 ⟨v106, rfl, ho0, hb⟩; have n0_ := asd (Kd.R_lower ho0 (below_size (by repeat (first | (with_reducible first | exact HB.out | apply below_alloc | apply pw_below_drewN | apply below_drew1 | refine below_set ?_ GE101.out) | exact HB.out)))); have n1_ := asd (blk_below (upB BK101.out) hb); have n2_ := asd (below_step (by repeat (first | (with_reducible first | exact HB.out | apply below_alloc | apply pw_below_drewN | apply below_drew1 | refine below_set ?_ GE101.out) | exact HB.out)) hb); clear BK101; clear HB; have HO107 := n0_; have BK101 := n1_; have HB := n2_; clear n0_ n1_ n2_; (try clear hb); (try clear hb2); (try clear hk); (try clear hi); (try clear ho0); obtain ⟨Ao19, co19, eo19⟩ := Kd.R_slice HO107.out; subst eo19))
      go_ret
      exact ⟨by first | rfl | (simp [errW_none, errW_some] <;> rfl) | (simp only [← hji7]; first | rfl | (simp [errW_none, errW_some] <;> rfl)) | (simp [*, errW_none, errW_some] <;> rfl), by repeat (first | (with_reducible first | exact HB.out | apply below_alloc | apply pw_below_drewN | apply below_drew1 | refine below_set ?_ GE101.out) | exact HB.out)⟩
     ·
      rw [if_neg c12] at H
      have c12b0 : ((Go.bits .and .i64 a1 a2) == 0) = false := beq_eq_false_iff_ne.mpr c12
      have c12b1 : ((Go.bits .and .i64 a1 a2) != 0) = true := bne_iff_ne.mpr c12
      obtain rfl := Option.some.inj H
      go_enter Try.func50, Try.ntmps50
      go_wp2_with (first | ((with_reducible refine gate_dst (N := 3) rfl ?_); (try (refine gate_guard (by rfl) ?_; dsimp only)); refine box_event ?hg (N := 3) ?hd (cs := #[.int .i64 a0_0, .slice A0_1 l0_1.length c0_1]) (t := 28) ?hr ?_; (case hd => rfl); (case hg => rfl); (case hr => first | (go_simp; done) | (go_simp; rfl)); intro gb101 hg w20 hbox hb; have n0_ := asd (below_step (by repeat (first | (with_reducible first | exact HB.out | apply below_alloc | apply pw_below_drewN | apply below_drew1) | exact HB.out)) hb); have n1_ := asd (hbox); have n2_ := asd ((by rw [hg]; exact (below_size (by repeat (first | (with_reducible first | exact HB.out | apply below_alloc | apply pw_below_drewN | apply below_drew1) | exact HB.out))) : w.heap.size ≤ gb101)); have n3_ := asd ((by rw [hg]; exact (below_size (by repeat (first | (with_reducible first | exact HB.out | apply below_alloc | apply pw_below_drewN | apply below_drew1) | exact HB.out))) : w.heap.size ≤ gb101)); clear HB; have HB := n0_; have BK101 := n1_; have GW101 := n2_; have GE101 := n3_; clear n0_ n1_ n2_ n3_; clear hb hbox hg; have hcz21_0 : w20.cell? ⟨gb101, 0, none⟩ = some (.int .i64 a0_0) := (blk_cell BK101.out 0).trans rfl; have hcz21_1 : w20.cell? ⟨gb101, 1, none⟩ = some (.slice A0_1 l0_1.length c0_1) := (blk_cell BK101.out 1).trans rfl; have hfz21_0 := blk_frozen BK101.out 0; have hfz21_1 := blk_frozen BK101.out 1) | ((with_reducible refine gate_callee (f := 43) rfl ?_); refine goesL_ (some 9) rfl rfl Try.func43 (by kernel_rfl) rfl #[.agg #[.int .i64 a0_0, .slice A0_1 l0_1.length c0_1]] rfl (by (try simp only [List.map_toArray, List.map_cons, List.map_nil]); first | done | rfl | (simp only [List.length_drop, List.length_take]; rfl)) ?_; (with_reducible refine (spec_spGood.calls k a0_0 _ _ l0_1 true _ ?side1 ?side2 A4.out).mono ?_); (case side1 => repeat (first | exact (Kd.C_below HR0_1.out HB.out) | (with_reducible refine Kd.C_alloc ?_ _) | (with_reducible refine Kd.C_drewN ?_ _) | (with_reducible refine Kd.C_drew ?_))); (case side2 => exact HC0_1.out); rintro e w22 ⟨rfl, hb⟩; refine ⟨_, rfl, ?_⟩; have n0_ := asd (blk_below (upB BK101.out) hb); have n1_ := asd (below_step (by repeat (first | (with_reducible first | exact HB.out | apply below_alloc | apply pw_below_drewN | apply below_drew1 | refine below_set ?_ GE101.out) | exact HB.out)) hb); clear BK101; clear HB; have BK101 := n0_; have HB := n1_; clear n0_ n1_; (try clear hb); (try clear hb2); (try clear hk); (try clear hi); have hcz23_0 : w22.cell? ⟨gb101, 0, none⟩ = some (.int .i64 a0_0) := (blk_cell BK101.out 0).trans rfl; have hcz23_1 : w22.cell? ⟨gb101, 1, none⟩ = some (.slice A0_1 l0_1.length c0_1) := (blk_cell BK101.out 1).trans rfl; have hfz23_0 := blk_frozen BK101.out 0; have hfz23_1 := blk_frozen BK101.out 1) | ((with_reducible refine gate_callee (f := 58) rfl ?_); refine goesL_ (some 17) rfl rfl Try.func58 (by kernel_rfl) rfl #[.int .i64 a1, .int .i64 0, .int .i64 (wrap64 ((ji7) - 1))] rfl (by (try simp only [List.map_toArray, List.map_cons, List.map_nil]); first | done | (simp only [hji7]; rfl) | rfl | (simp only [List.length_drop, List.length_take]; rfl)) ?_; (with_reducible refine (spec_l1In.calls a1 0 (wrap64 ((ji7) - 1)) true _ A8.out).mono ?_); rintro e w' ⟨rfl, ⟨nd, rfl⟩⟩; refine ⟨_, rfl, ?_⟩) | (go_at_call 58; (with_reducible refine (spec_l1In.calls a2 0 (wrap64 ((ji7) - 1)) true _ A10.out).mono ?_); rintro e w' ⟨rfl, ⟨nd, rfl⟩⟩))
      go_ret
      exact ⟨by first | rfl | (simp [errW_none, errW_some] <;> rfl) | (simp only [← hji7]; first | rfl | (simp [errW_none, errW_some] <;> rfl)) | (simp [*, errW_none, errW_some] <;> rfl), by repeat (first | (with_reducible first | exact HB.out | apply below_alloc | apply pw_below_drewN | apply below_drew1 | refine below_set ?_ GE101.out) | exact HB.out)⟩
    ·
     replace c11 := Bool.eq_false_iff.mpr c11
     subst c11
     have H1 : (some false) = some r := by rw [if_neg (show ¬ (false = true) by decide)] at H; exact H
     clear H
     have H := H1
     clear H1
     obtain rfl := Option.some.inj H
     go_enter Try.func50, Try.ntmps50
     go_wp2_with (first | ((with_reducible refine gate_dst (N := 3) rfl ?_); (try (refine gate_guard (by rfl) ?_; dsimp only)); refine box_event ?hg (N := 3) ?hd (cs := #[.int .i64 a0_0, .slice A0_1 l0_1.length c0_1]) (t := 28) ?hr ?_; (case hd => rfl); (case hg => rfl); (case hr => first | (go_simp; done) | (go_simp; rfl)); intro gb101 hg w24 hbox hb; have n0_ := asd (below_step (by repeat (first | (with_reducible first | exact HB.out | apply below_alloc | apply pw_below_drewN | apply below_drew1) | exact HB.out)) hb); have n1_ := asd (hbox); have n2_ := asd ((by rw [hg]; exact (below_size (by repeat (first | (with_reducible first | exact HB.out | apply below_alloc | apply pw_below_drewN | apply below_drew1) | exact HB.out))) : w.heap.size ≤ gb101)); have n3_ := asd ((by rw [hg]; exact (below_size (by repeat (first | (with_reducible first | exact HB.out | apply below_alloc | apply pw_below_drewN | apply below_drew1) | exact HB.out))) : w.heap.size ≤ gb101)); clear HB; have HB := n0_; have BK101 := n1_; have GW101 := n2_; have GE101 := n3_; clear n0_ n1_ n2_ n3_; clear hb hbox hg; have hcz25_0 : w24.cell? ⟨gb101, 0, none⟩ = some (.int .i64 a0_0) := (blk_cell BK101.out 0).trans rfl; have hcz25_1 : w24.cell? ⟨gb101, 1, none⟩ = some (.slice A0_1 l0_1.length c0_1) := (blk_cell BK101.out 1).trans rfl; have hfz25_0 := blk_frozen BK101.out 0; have hfz25_1 := blk_frozen BK101.out 1) | ((with_reducible refine gate_callee (f := 43) rfl ?_); refine goesL_ (some 9) rfl rfl Try.func43 (by kernel_rfl) rfl #[.agg #[.int .i64 a0_0, .slice A0_1 l0_1.length c0_1]] rfl (by (try simp only [List.map_toArray, List.map_cons, List.map_nil]); first | done | rfl | (simp only [List.length_drop, List.length_take]; rfl)) ?_; (with_reducible refine (spec_spGood.calls k a0_0 _ _ l0_1 true _ ?side1 ?side2 A4.out).mono ?_); (case side1 => repeat (first | exact (Kd.C_below HR0_1.out HB.out) | (with_reducible refine Kd.C_alloc ?_ _) | (with_reducible refine Kd.C_drewN ?_ _) | (with_reducible refine Kd.C_drew ?_))); (case side2 => exact HC0_1.out); rintro e w26 ⟨rfl, hb⟩; refine ⟨_, rfl, ?_⟩; have n0_ := asd (blk_below (upB BK101.out) hb); have n1_ := asd (below_step (by repeat (first | (with_reducible first | exact HB.out | apply below_alloc | apply pw_below_drewN | apply below_drew1 | refine below_set ?_ GE101.out) | exact HB.out)) hb); clear BK101; clear HB; have BK101 := n0_; have HB := n1_; clear n0_ n1_; (try clear hb); (try clear hb2); (try clear hk); (try clear hi); have hcz27_0 : w26.cell? ⟨gb101, 0, none⟩ = some (.int .i64 a0_0) := (blk_cell BK101.out 0).trans rfl; have hcz27_1 : w26.cell? ⟨gb101, 1, none⟩ = some (.slice A0_1 l0_1.length c0_1) := (blk_cell BK101.out 1).trans rfl; have hfz27_0 := blk_frozen BK101.out 0; have hfz27_1 := blk_frozen BK101.out 1) | ((with_reducible refine gate_callee (f := 58) rfl ?_); refine goesL_ (some 17) rfl rfl Try.func58 (by kernel_rfl) rfl #[.int .i64 a1, .int .i64 0, .int .i64 (wrap64 ((ji7) - 1))] rfl (by (try simp only [List.map_toArray, List.map_cons, List.map_nil]); first | done | (simp only [hji7]; rfl) | rfl | (simp only [List.length_drop, List.length_take]; rfl)) ?_; (with_reducible refine (spec_l1In.calls a1 0 (wrap64 ((ji7) - 1)) true _ A8.out).mono ?_); rintro e w' ⟨rfl, ⟨nd, rfl⟩⟩; refine ⟨_, rfl, ?_⟩) | (go_at_call 58; (with_reducible refine (spec_l1In.calls a2 0 (wrap64 ((ji7) - 1)) false _ A10.out).mono ?_); rintro e w' ⟨rfl, ⟨nd, rfl⟩⟩))
     go_ret
     exact ⟨by first | rfl | (simp [errW_none, errW_some] <;> rfl) | (simp only [← hji7]; first | rfl | (simp [errW_none, errW_some] <;> rfl)) | (simp [*, errW_none, errW_some] <;> rfl), by repeat (first | (with_reducible first | exact HB.out | apply below_alloc | apply pw_below_drewN | apply below_drew1 | refine below_set ?_ GE101.out) | exact HB.out)⟩
   ·
    replace c9 := Bool.eq_false_iff.mpr c9
    subst c9
    have H1 : (some false) = some r := by rw [if_neg (show ¬ (false = true) by decide)] at H; exact H
    clear H
    have H := H1
    clear H1
    obtain rfl := Option.some.inj H
    go_enter Try.func50, Try.ntmps50
    go_wp2_with (first | ((with_reducible refine gate_dst (N := 3) rfl ?_); (try (refine gate_guard (by rfl) ?_; dsimp only)); refine box_event ?hg (N := 3) ?hd (cs := #[.int .i64 a0_0, .slice A0_1 l0_1.length c0_1]) (t := 28) ?hr ?_; (case hd => rfl); (case hg => rfl); (case hr => first | (go_simp; done) | (go_simp; rfl)); intro gb101 hg w28 hbox hb; have n0_ := asd (below_step (by repeat (first | (with_reducible first | exact HB.out | apply below_alloc | apply pw_below_drewN | apply below_drew1) | exact HB.out)) hb); have n1_ := asd (hbox); have n2_ := asd ((by rw [hg]; exact (below_size (by repeat (first | (with_reducible first | exact HB.out | apply below_alloc | apply pw_below_drewN | apply below_drew1) | exact HB.out))) : w.heap.size ≤ gb101)); have n3_ := asd ((by rw [hg]; exact (below_size (by repeat (first | (with_reducible first | exact HB.out | apply below_alloc | apply pw_below_drewN | apply below_drew1) | exact HB.out))) : w.heap.size ≤ gb101)); clear HB; have HB := n0_; have BK101 := n1_; have GW101 := n2_; have GE101 := n3_; clear n0_ n1_ n2_ n3_; clear hb hbox hg; have hcz29_0 : w28.cell? ⟨gb101, 0, none⟩ = some (.int .i64 a0_0) := (blk_cell BK101.out 0).trans rfl; have hcz29_1 : w28.cell? ⟨gb101, 1, none⟩ = some (.slice A0_1 l0_1.length c0_1) := (blk_cell BK101.out 1).trans rfl; have hfz29_0 := blk_frozen BK101.out 0; have hfz29_1 := blk_frozen BK101.out 1) | ((with_reducible refine gate_callee (f := 43) rfl ?_); refine goesL_ (some 9) rfl rfl Try.func43 (by kernel_rfl) rfl #[.agg #[.int .i64 a0_0, .slice A0_1 l0_1.length c0_1]] rfl (by (try simp only [List.map_toArray, List.map_cons, List.map_nil]); first | done | rfl | (simp only [List.length_drop, List.length_take]; rfl)) ?_; (with_reducible refine (spec_spGood.calls k a0_0 _ _ l0_1 true _ ?side1 ?side2 A4.out).mono ?_); (case side1 => repeat (first | exact (Kd.C_below HR0_1.out HB.out) | (with_reducible refine Kd.C_alloc ?_ _) | (with_reducible refine Kd.C_drewN ?_ _) | (with_reducible refine Kd.C_drew ?_))); (case side2 => exact HC0_1.out); rintro e w30 ⟨rfl, hb⟩; refine ⟨_, rfl, ?_⟩; have n0_ := asd (blk_below (upB BK101.out) hb); have n1_ := asd (below_step (by repeat (first | (with_reducible first | exact HB.out | apply below_alloc | apply pw_below_drewN | apply below_drew1 | refine below_set ?_ GE101.out) | exact HB.out)) hb); clear BK101; clear HB; have BK101 := n0_; have HB := n1_; clear n0_ n1_; (try clear hb); (try clear hb2); (try clear hk); (try clear hi); have hcz31_0 : w30.cell? ⟨gb101, 0, none⟩ = some (.int .i64 a0_0) := (blk_cell BK101.out 0).trans rfl; have hcz31_1 : w30.cell? ⟨gb101, 1, none⟩ = some (.slice A0_1 l0_1.length c0_1) := (blk_cell BK101.out 1).trans rfl; have hfz31_0 := blk_frozen BK101.out 0; have hfz31_1 := blk_frozen BK101.out 1) | ((with_reducible refine gate_callee (f := 58) rfl ?_); refine goesL_ (some 17) rfl rfl Try.func58 (by kernel_rfl) rfl #[.int .i64 a1, .int .i64 0, .int .i64 (wrap64 ((ji7) - 1))] rfl (by (try simp only [List.map_toArray, List.map_cons, List.map_nil]); first | done | (simp only [hji7]; rfl) | rfl | (simp only [List.length_drop, List.length_take]; rfl)) ?_; (with_reducible refine (spec_l1In.calls a1 0 (wrap64 ((ji7) - 1)) false _ A8.out).mono ?_); rintro e w' ⟨rfl, ⟨nd, rfl⟩⟩; refine ⟨_, rfl, ?_⟩))
    go_ret
    exact ⟨by first | rfl | (simp [errW_none, errW_some] <;> rfl) | (simp only [← hji7]; first | rfl | (simp [errW_none, errW_some] <;> rfl)) | (simp [*, errW_none, errW_some] <;> rfl), by repeat (first | (with_reducible first | exact HB.out | apply below_alloc | apply pw_below_drewN | apply below_drew1 | refine below_set ?_ GE101.out) | exact HB.out)⟩
  ·
   rw [if_neg c6] at H
   exact absurd H (by simp)
 ·
  replace c5 := Bool.eq_false_iff.mpr c5
  subst c5
  have H1 : (some false) = some r := by rw [if_neg (show ¬ (false = true) by decide)] at H; exact H
  clear H
  have H := H1
  clear H1
  obtain rfl := Option.some.inj H
  go_enter Try.func50, Try.ntmps50
  go_wp2_with (first | ((with_reducible refine gate_dst (N := 3) rfl ?_); (try (refine gate_guard (by rfl) ?_; dsimp only)); refine box_event ?hg (N := 3) ?hd (cs := #[.int .i64 a0_0, .slice A0_1 l0_1.length c0_1]) (t := 28) ?hr ?_; (case hd => rfl); (case hg => rfl); (case hr => first | (go_simp; done) | (go_simp; rfl)); intro gb101 hg w32 hbox hb; have n0_ := asd (below_step (by repeat (first | (with_reducible first | exact HB.out | apply below_alloc | apply pw_below_drewN | apply below_drew1) | exact HB.out)) hb); have n1_ := asd (hbox); have n2_ := asd ((by rw [hg]; exact (below_size (by repeat (first | (with_reducible first | exact HB.out | apply below_alloc | apply pw_below_drewN | apply below_drew1) | exact HB.out))) : w.heap.size ≤ gb101)); have n3_ := asd ((by rw [hg]; exact (below_size (by repeat (first | (with_reducible first | exact HB.out | apply below_alloc | apply pw_below_drewN | apply below_drew1) | exact HB.out))) : w.heap.size ≤ gb101)); clear HB; have HB := n0_; have BK101 := n1_; have GW101 := n2_; have GE101 := n3_; clear n0_ n1_ n2_ n3_; clear hb hbox hg; have hcz33_0 : w32.cell? ⟨gb101, 0, none⟩ = some (.int .i64 a0_0) := (blk_cell BK101.out 0).trans rfl; have hcz33_1 : w32.cell? ⟨gb101, 1, none⟩ = some (.slice A0_1 l0_1.length c0_1) := (blk_cell BK101.out 1).trans rfl; have hfz33_0 := blk_frozen BK101.out 0; have hfz33_1 := blk_frozen BK101.out 1) | ((with_reducible refine gate_callee (f := 43) rfl ?_); refine goesL_ (some 9) rfl rfl Try.func43 (by kernel_rfl) rfl #[.agg #[.int .i64 a0_0, .slice A0_1 l0_1.length c0_1]] rfl (by (try simp only [List.map_toArray, List.map_cons, List.map_nil]); first | done | rfl | (simp only [List.length_drop, List.length_take]; rfl)) ?_; (with_reducible refine (spec_spGood.calls k a0_0 _ _ l0_1 false _ ?side1 ?side2 A4.out).mono ?_); (case side1 => repeat (first | exact (Kd.C_below HR0_1.out HB.out) | (with_reducible refine Kd.C_alloc ?_ _) | (with_reducible refine Kd.C_drewN ?_ _) | (with_reducible refine Kd.C_drew ?_))); (case side2 => exact HC0_1.out); rintro e w34 ⟨rfl, hb⟩; refine ⟨_, rfl, ?_⟩; have n0_ := asd (blk_below (upB BK101.out) hb); have n1_ := asd (below_step (by repeat (first | (with_reducible first | exact HB.out | apply below_alloc | apply pw_below_drewN | apply below_drew1 | refine below_set ?_ GE101.out) | exact HB.out)) hb); clear BK101; clear HB; have BK101 := n0_; have HB := n1_; clear n0_ n1_; (try clear hb); (try clear hb2); (try clear hk); (try clear hi)))
  go_ret
  exact ⟨by first | rfl | (simp [errW_none, errW_some] <;> rfl) | (simp [*, errW_none, errW_some] <;> rfl), by repeat (first | (with_reducible first | exact HB.out | apply below_alloc | apply pw_below_drewN | apply below_drew1 | refine below_set ?_ GE101.out) | exact HB.out)⟩

-- HAND with spec.asGood
theorem asGood_ok (n : Int) (l : List Int) (y m : Int) (hlen : l.length < 4611686018427387904) : Ev (fun k => spec_asGood.f k n l y m) (goOnB n l y m) := by
  unfold spec_asGood.f goOnB answersB hasSetB
  refine Ev.bind (spGood_ok n l hlen) ?_
  cases h : isSpaceB n l with
  | false => exact Ev.val (r := false) (Ev.to (fun k => by rw [if_neg (by decide)]) (Ev.const rfl)) (by simp)
  | true =>
    have hp := isSpaceB_parts h
    have hl := isSpaceB_len h
    have hpw := pow128 (n := n) (by omega) hp.2.1
    refine Ev.to (fun k => by rw [if_pos rfl, if_pos (by omega), wrapPow (by omega) hp.2.1]) ?_
    refine Ev.bindc (l1In_ok _ _ _) ?_
    rw [show decide (y ≤ 2 ^ n.toNat - 1) = decide (y < 2 ^ n.toNat) from decide_eq_decide.2 (by omega)]
    cases h1 : (decide (0 ≤ y) && decide (y < 2 ^ n.toNat)) with
    | false => exact Ev.val (r := false) (Ev.to (fun k => by rw [if_neg (by decide)]) (Ev.const rfl)) (by simp)
    | true =>
      refine Ev.to (fun k => by rw [if_pos rfl]) ?_
      refine Ev.bindc (l1In_ok _ _ _) ?_
      rw [show decide (m ≤ 2 ^ n.toNat - 1) = decide (m < 2 ^ n.toNat) from decide_eq_decide.2 (by omega)]
      cases h2 : (decide (0 ≤ m) && decide (m < 2 ^ n.toNat)) with
      | false => exact Ev.val (r := false) (Ev.to (fun k => by rw [if_neg (by decide)]) (Ev.const rfl)) (by simp)
      | true =>
        simp only [Bool.and_eq_true, decide_eq_true_eq] at h1 h2
        have hy : I128 y := ⟨h1.1, by omega⟩
        have hm : I128 m := ⟨h2.1, by omega⟩
        by_cases h3 : y.toNat &&& m.toNat = 0
        · refine Ev.to (fun k => by rw [if_pos rfl, and_int hy hm, if_pos (by omega)]) ?_
          refine Ev.bind (asLeft_ok n hy hm (isSpaceB_i128 h) (by omega)) ?_
          refine Ev.const (congrArg some ?_)
          rw [decide_eq_true h3]
          simp
        · refine Ev.val (r := false) (Ev.to (fun k => by rw [if_pos rfl, and_int hy hm, if_neg (by omega)]) (Ev.const rfl)) ?_
          rw [decide_eq_false h3]
          simp

-- HAND spec_asTable_closed: function 97
set_option maxHeartbeats 8000000 in
set_option maxRecDepth 100000 in
theorem spec_asTable_closed.calls {wb w : World} {g bw bt cw ct M : Nat} {n : Int} {A : Option Addr} {c : Nat} {l W T : List Int} {y x p q : Nat} (hS : TabS wb w g bw bt cw ct M n A c l W T) (hl : Kd.C (Kd.int .i64) wb A l.length l) (hc : l.length ≤ c) (kL kK : Nat) (hL : spec_asLeft.f kL n l (y : Int) (x : Int) = some (leftL l (y : Int) (x : Int))) (hK : spec_asKnown.f kK n l (leftL l (y : Int) (x : Int)) = some ((p : Int), (q : Int))) :
    Calls Try.prog 97 #[.pointer (some ⟨g, 0, none⟩), .int .i64 (y : Int), .int .i64 (x : Int)] w fun e w' => ∃ (A1 : Option Addr) (c1 : Nat), e = .returned (.tuple #[.slice A1 (leftL l (y : Int) (x : Int)).length c1, .int .i64 (p : Int), .int .i64 (q : Int)]) ∧ Below w.heap.size w w' := by
  have hu := Try.underlying28
  have hu2 := Try.underlying102
  have HS := Aside0.mk hS
  have HL := Aside0.mk hl
  have HC := Aside0.mk hc
  have HA := Aside0.mk hL
  have HK := Aside0.mk hK
  have HB := Aside0.mk (Below.refl w.heap.size w)
  have q0 := hS.cells.1
  have q1 := hS.cells.2.1
  clear hS hl hc hL hK
  generalize leftL l (y : Int) (x : Int) = L at *
  generalize (y : Int) = yi at *
  generalize (x : Int) = xi at *
  generalize (p : Int) = pi at *
  generalize (q : Int) = qi at *
  go_enter Try.func97, Try.ntmps97
  go_wp2_with (first | (go_at_call 53; (with_reducible refine (spec_asLeft.calls kL n _ _ l yi xi L _ ?sa HC.out HA.out).mono ?_); (case sa => exact Kd.C_below HL.out HS.out.bel); rintro e W4 ⟨vL, rfl, hR, hb4⟩; have HS4 := Aside0.mk (HS.out.below hb4); have HB4 := Aside0.mk (below_step HB.out hb4); obtain ⟨AL, cL, rfl⟩ := Kd.R_slice hR; have HRL := Aside0.mk (Kd.R_reads' hR).2.2; have HCL := Aside0.mk (Kd.R_reads' hR).2.1; have r0 := HS4.out.cells.1; have r1 := HS4.out.cells.2.1; clear hR hb4 q0 q1) | (go_at_call 130; (with_reducible refine (spec_asKnown.calls kK n _ _ l _ _ L pi qi _ ?ka HC.out HRL.out HCL.out HK.out).mono ?_); (case ka => exact Kd.C_below HL.out HS4.out.bel); rintro e W5 ⟨rfl, hb5⟩; have HB5 := Aside0.mk (below_step HB4.out hb5); clear hb5))
  go_ret3
  exact ⟨AL, cL, rfl, HB5.out⟩

/-! ### spec_l1Least: function 98 -/
def spec_l1Least.f (a0 : Int) (a1 : Int) : Option (Int) := if a0 < a1 then (some a0) else (some a1)
set_option maxHeartbeats 8000000 in
set_option maxRecDepth 100000 in
theorem spec_l1Least.calls (a0 : Int) (a1 : Int) (r : Int) (w : World) (h : spec_l1Least.f a0 a1 = some r) :
    Calls Try.prog 98 #[.int .i64 a0, .int .i64 a1] w fun e w' => e = .returned (.int .i64 r) ∧ Drawn0 w w' := by
  have H : (if a0 < a1 then (some a0) else (some a1)) = some r := h
  clear h
  by_cases c3 : a0 < a1
  · rw [if_pos c3] at H
    have c3b0 : decide (a0 < a1) = true := decide_eq_true c3
    clear c3
    obtain rfl := Option.some.inj H
    go_enter Try.func98, Try.ntmps98
    go_wp2
    go_ret
    exact ⟨by first | rfl | (simp; done) | (simp [*]; done), by repeat (first | exact Drawn0.refl _ | apply Drawn0.step)⟩
  · rw [if_neg c3] at H
    have c3b0 : decide (a0 < a1) = false := decide_eq_false c3
    clear c3
    obtain rfl := Option.some.inj H
    go_enter Try.func98, Try.ntmps98
    go_wp2
    go_ret
    exact ⟨by first | rfl | (simp; done) | (simp [*]; done), by repeat (first | exact Drawn0.refl _ | apply Drawn0.step)⟩

/-! ### spec_l1Most: function 99 -/
def spec_l1Most.f (a0 : Int) (a1 : Int) : Option (Int) := if a0 > a1 then (some a0) else (some a1)
set_option maxHeartbeats 8000000 in
set_option maxRecDepth 100000 in
theorem spec_l1Most.calls (a0 : Int) (a1 : Int) (r : Int) (w : World) (h : spec_l1Most.f a0 a1 = some r) :
    Calls Try.prog 99 #[.int .i64 a0, .int .i64 a1] w fun e w' => e = .returned (.int .i64 r) ∧ Drawn0 w w' := by
  have H : (if a0 > a1 then (some a0) else (some a1)) = some r := h
  clear h
  by_cases c3 : a0 > a1
  · rw [if_pos c3] at H
    have c3b0 : decide (a1 < a0) = true := decide_eq_true c3
    clear c3
    obtain rfl := Option.some.inj H
    go_enter Try.func99, Try.ntmps99
    go_wp2
    go_ret
    exact ⟨by first | rfl | (simp; done) | (simp [*]; done), by repeat (first | exact Drawn0.refl _ | apply Drawn0.step)⟩
  · rw [if_neg c3] at H
    have c3b0 : decide (a1 < a0) = false := decide_eq_false c3
    clear c3
    obtain rfl := Option.some.inj H
    go_enter Try.func99, Try.ntmps99
    go_wp2
    go_ret
    exact ⟨by first | rfl | (simp; done) | (simp [*]; done), by repeat (first | exact Drawn0.refl _ | apply Drawn0.step)⟩

-- HAND spec_asTable_least: function 45
set_option maxHeartbeats 8000000 in
set_option maxRecDepth 100000 in
theorem spec_asTable_least.calls {wb : World} {g bw bt cw ct M : Nat} {n : Int} {A : Option Addr} {c : Nat} {l : List Int} (hsp : isSpaceB n l = true) (hl : Kd.C (Kd.int .i64) wb A l.length l) (hc : l.length ≤ c) :
  ∀ (d y x : Nat) (W T : List Int) (w : World) (hS : TabS wb w g bw bt cw ct M n A c l W T) (hy : y < 2 ^ n.toNat) (hx : x < 2 ^ n.toNat) (hne : leftL l (y : Int) (x : Int) ≠ []) (hd : (itemsN (openS (leftL l (y : Int) (x : Int)))).length ≤ d),
  Calls Try.prog 45 #[.pointer (some ⟨g, 0, none⟩), .int .i64 (y : Int), .int .i64 (x : Int)] w fun e w' => e = .returned (.tuple #[.int .i64 (valV cW 7 (leftL l (y : Int) (x : Int))), .int .i64 (valV cT 7 (leftL l (y : Int) (x : Int)))]) ∧ ∃ W' T', TabS wb w' g bw bt cw ct M n A c l W' T' := by
 have hu := Try.underlying28
 have hu2 := Try.underlying102
 have HL := asd hl
 have HC := asd hc
 obtain ⟨n1, n7, _⟩ := isSpaceB_parts hsp
 have HM : Aside0 (∀ z ∈ l, I128 z) := ⟨isSpaceB_i128 hsp⟩
 have HMn : Aside0 (∀ z ∈ l, 0 ≤ z ∧ z < 2 ^ n.toNat) := ⟨fun z hz => isSpaceB_mem hsp z hz⟩
 have HLL : Aside0 (l.length ≤ 128) := ⟨isSpaceB_len hsp⟩
 have HRI : Aside0 (l.Pairwise (· < ·)) := ⟨isSpaceB_rise hsp⟩
 clear hl hc hsp
 obtain ⟨N, rfl⟩ := Int.eq_ofNat_of_zero_le (show 0 ≤ n by omega)
 rw [Int.toNat_natCast] at HMn
 rw [Int.toNat_natCast]
 have N7 : N ≤ 7 := by omega
 have HN1 : Aside0 (1 ≤ N) := ⟨by omega⟩
 have HP : Aside0 (2 ^ N ≤ 128) := ⟨Nat.pow_le_pow_right (show 0 < 2 by decide) N7⟩
 clear n1 n7
 intro d
 induction d using Nat.strongRecOn with
 | ind d ih =>
 intro y x W T w hS hy hx hne hd
 have IH := asd ih
 have HS := asd hS
 have HMM := hS.hM
 rw [Int.toNat_natCast] at HMM
 obtain ⟨p, q, ht⟩ := told_ex N l y x
 have HT := asd ht
 have HLE := asd (ht.left HM.out hy hx hne)
 have HOB : Aside0 (∀ i, i < N → (openS (leftL l (y : Int) (x : Int))).testBit i = !(p ||| q).testBit i) := ⟨fun i hi => ht.open_ hi N7⟩
 have HOL : Aside0 (∀ i, (openS (leftL l (y : Int) (x : Int))).testBit i = true → i < N) := ⟨fun i hi => left_lt (n := N) HMn.out hi⟩
 have HML : Aside0 (∀ z ∈ leftL l (y : Int) (x : Int), I128 z) := ⟨fun z hz => HM.out z (leftL_sub hz)⟩
 have HRL : Aside0 ((leftL l (y : Int) (x : Int)).Pairwise (· < ·)) := ⟨HRI.out.sublist List.filter_sublist⟩
 have HLN : Aside0 ((leftL l (y : Int) (x : Int)).length ≤ 128) := ⟨Nat.le_trans (leftL_length l _ _) HLL.out⟩
 have HL0 : Aside0 (0 < (leftL l (y : Int) (x : Int)).length) := ⟨List.length_pos_iff.2 hne⟩
 have HD := asd hd
 obtain ⟨kL, hkL⟩ := asLeft_ok (l := l) (N : Int) (y := (y : Int)) (n := (x : Int)) ⟨by omega, by have := HP.out; omega⟩ ⟨by omega, by have := HP.out; omega⟩ HM.out (by have := HLL.out; omega)
 obtain ⟨kK, hkK⟩ := asKnown_ok (n := (N : Int)) (by have := HN1.out; omega) (by omega) l (leftL l (y : Int) (x : Int)) (by have := HLN.out; omega) HML.out
 have HKL := asd (hkL kL (Nat.le_refl _))
 have hkK2 := hkK kK (Nat.le_refl _)
 rw [Int.toNat_natCast, ht.eq] at hkK2
 have HKK := asd hkK2
 have hp := ht.hp
 have hq := ht.hq
 have HPL := place_lt hp hq
 have HAT : Aside0 ((p : Int) * 2 ^ N = ((p * 2 ^ N : Nat) : Int)) := ⟨by push_cast; rfl⟩
 have hplt : p * 2 ^ N < 128 * 128 := by
  have h1 := Nat.mul_le_mul (show p ≤ 127 by have := HP.out; omega) HP.out
  omega
 obtain ⟨P, hP⟩ : ∃ P : Int, P = ((p * 2 ^ N : Nat) : Int) := ⟨_, rfl⟩
 obtain ⟨AT, hAT⟩ : ∃ AT : Int, AT = ((p * 2 ^ N + q : Nat) : Int) := ⟨_, rfl⟩
 have hN64 : N ≤ 64 := by omega
 have hP0 : -9223372036854775808 ≤ ((p * 2 ^ N : Nat) : Int) := by omega
 have hP1 : ((p * 2 ^ N : Nat) : Int) ≤ 9223372036854775807 := by omega
 have hP2 : p * 2 ^ N < 9223372036854775808 := by omega
 have hq63 : q < 9223372036854775808 := by have := HP.out; omega
 have a0 : 0 ≤ AT := by omega
 have a1 : AT < (M : Int) := by rw [HMM]; omega
 have s1 : IntKind.i64.wrap ((p : Int) * 2 ^ min N 64) = P := by rw [Nat.min_eq_left hN64, HAT.out, hP, i64_w]; exact wrap_in hP0 hP1
 have s2 : wrap64 ((p : Int) * 2 ^ min N 64) = P := (i64_w _).symm.trans s1
 have s3 : IntKind.i64.wrap ((p : Int) * 2 ^ N) = P := by rw [Nat.min_eq_left hN64] at s1; exact s1
 have s4 : wrap64 ((p : Int) * 2 ^ N) = P := (i64_w _).symm.trans s3
 have s5 : Go.bits .or .i64 P (q : Int) = AT := by rw [hP, hAT, bits_or _ _ hP2 hq63, place_or hq]
 have HATE := asd hAT
 clear hN64 hP0 hP1 hP2 hq63
 obtain ⟨hcw, hfw⟩ := Kd.R_celln 0 HS.out.rw AT a0 a1
 obtain ⟨hct, hft⟩ := Kd.R_celln 0 HS.out.rt AT a0 a1
 have hmemo := HS.out.memo.ok p q (by rw [Int.toNat_natCast]; exact hp) (by rw [Int.toNat_natCast]; exact hq)
 rw [Int.toNat_natCast, ← hAT, HLE.out] at hmemo
 have HME : Aside0 (rdOf 0 W AT = 0 ∨ rdOf 0 W AT = valV cW 7 (leftL l (y : Int) (x : Int)) + 1 ∧ rdOf 0 T AT = valV cT 7 (leftL l (y : Int) (x : Int)) + 1) := ⟨hmemo⟩
 have HPQ : Aside0 (p < 2 ^ N ∧ q < 2 ^ N) := ⟨⟨hp, hq⟩⟩
 have HCL : Aside0 (∀ w, TabS wb w g bw bt cw ct M (N : Int) A c l W T → Calls Try.prog 97 #[.pointer (some ⟨g, 0, none⟩), .int .i64 (y : Int), .int .i64 (x : Int)] w fun e w' => ∃ (A1 : Option Addr) (c1 : Nat), e = .returned (.tuple #[.slice A1 (leftL l (y : Int) (x : Int)).length c1, .int .i64 (p : Int), .int .i64 (q : Int)]) ∧ Below w.heap.size w w') := ⟨fun w h => spec_asTable_closed.calls h HL.out HC.out kL kK HKL.out HKK.out⟩
 have HCH : Aside0 (∀ i, i < N → (openS (leftL l (y : Int) (x : Int))).testBit i = true → (∀ W T w, TabS wb w g bw bt cw ct M (N : Int) A c l W T → Calls Try.prog 45 #[.pointer (some ⟨g, 0, none⟩), .int .i64 ((p ||| 2 ^ i : Nat) : Int), .int .i64 (q : Int)] w fun e w' => e = .returned (.tuple #[.int .i64 (valV cW 7 (hasF i (leftL l (y : Int) (x : Int)))), .int .i64 (valV cT 7 (hasF i (leftL l (y : Int) (x : Int))))]) ∧ ∃ W' T', TabS wb w' g bw bt cw ct M (N : Int) A c l W' T') ∧
   (∀ W T w, TabS wb w g bw bt cw ct M (N : Int) A c l W T → Calls Try.prog 45 #[.pointer (some ⟨g, 0, none⟩), .int .i64 (p : Int), .int .i64 ((q ||| 2 ^ i : Nat) : Int)] w fun e w' => e = .returned (.tuple #[.int .i64 (valV cW 7 (hasntF i (leftL l (y : Int) (x : Int)))), .int .i64 (valV cT 7 (hasntF i (leftL l (y : Int) (x : Int))))]) ∧ ∃ W' T', TabS wb w' g bw bt cw ct M (N : Int) A c l W' T')) := ⟨fun i hi ho => by
  have hmem : i ∈ itemsN (openS (leftL l (y : Int) (x : Int))) := by
   unfold itemsN
   refine List.mem_filter.2 ⟨?_, ho⟩
   simp
   omega
  have o1 := open_part HML.out hasF_sub hmem (hasF_open (show i < 7 by omega))
  have o2 := open_part HML.out hasntF_sub hmem (hasntF_open (show i < 7 by omega))
  obtain ⟨⟨z, hz, hzb⟩, _⟩ := openS_bits _ _ ho
  have hnz : ∃ z ∈ leftL l (y : Int) (x : Int), z.toNat.testBit i = false := by
   rw [openS_bit _ _ (show i < 7 by omega), Bool.and_eq_true, Bool.not_eq_true', List.all_eq_false] at ho
   obtain ⟨_, z, hz, h⟩ := ho
   exact ⟨z, hz, by simpa using h⟩
  obtain ⟨z2, hz2, hzb2⟩ := hnz
  have e1 := left_has HM.out p q i
  have e2 := left_hasnt HM.out p q i
  rw [HLE.out] at e1 e2
  have hp2 : p ||| 2 ^ i < 2 ^ N := Nat.or_lt_two_pow hp (Nat.pow_lt_pow_right (by decide) hi)
  have hq2 : q ||| 2 ^ i < 2 ^ N := Nat.or_lt_two_pow hq (Nat.pow_lt_pow_right (by decide) hi)
  constructor
  ·
   intro W T w h
   have h1 := IH.out ((itemsN (openS (hasF i (leftL l (y : Int) (x : Int))))).length) (by have := HD.out; omega) (p ||| 2 ^ i) q W T w h hp2 hq (by rw [e1]; exact List.ne_nil_of_mem (List.mem_filter.2 ⟨hz, hzb⟩)) (by rw [e1]; exact Nat.le_refl _)
   rw [e1] at h1
   exact h1
  ·
   intro W T w h
   have h1 := IH.out ((itemsN (openS (hasntF i (leftL l (y : Int) (x : Int))))).length) (by have := HD.out; omega) p (q ||| 2 ^ i) W T w h hp hq2 (by rw [e2]; exact List.ne_nil_of_mem (List.mem_filter.2 ⟨hz2, by rw [hzb2]; rfl⟩)) (by rw [e2]; exact Nat.le_refl _)
   rw [e2] at h1
   exact h1⟩
 have HFW : Aside0 ((leftL l (y : Int) (x : Int)).length ≠ 1 → foldS (vW (leftL l (y : Int) (x : Int))) (openS (leftL l (y : Int) (x : Int))) N 0 1073741824 = valV cW 7 (leftL l (y : Int) (x : Int)) ∧ foldS (vT (leftL l (y : Int) (x : Int))) (openS (leftL l (y : Int) (x : Int))) N 0 1073741824 = valV cT 7 (leftL l (y : Int) (x : Int))) := ⟨fun h1 => ⟨foldW HML.out HRL.out (by have := HL0.out; omega) HOL.out N7, foldT HML.out HLN.out HRL.out (by have := HL0.out; omega) HOL.out N7⟩⟩
 have HV1 : Aside0 ((leftL l (y : Int) (x : Int)).length = 1 → valV cW 7 (leftL l (y : Int) (x : Int)) = 0 ∧ valV cT 7 (leftL l (y : Int) (x : Int)) = 0) := ⟨fun h1 => ⟨valV_one cW HML.out h1, valV_one cT HML.out h1⟩⟩
 have HVB : Aside0 ((0 ≤ valV cW 7 (leftL l (y : Int) (x : Int)) ∧ valV cW 7 (leftL l (y : Int) (x : Int)) ≤ 7) ∧ 0 ≤ valV cT 7 (leftL l (y : Int) (x : Int)) ∧ valV cT 7 (leftL l (y : Int) (x : Int)) ≤ 1024) := ⟨⟨valW_bounds 7 _, by have h1 := valT_bounds 7 (leftL l (y : Int) (x : Int)); have h2 := HLN.out; omega⟩⟩
 have HPUT : Aside0 (∀ (W T : List Int) (w : World) (v1 v2 : Int), TabS wb w g bw bt cw ct M (N : Int) A c l W T → v1 = valV cW 7 (leftL l (y : Int) (x : Int)) + 1 → v2 = valV cT 7 (leftL l (y : Int) (x : Int)) + 1 → TabS wb ((w.setCell ⟨bw, AT.toNat, none⟩ (.int .i64 v1)).setCell ⟨bt, AT.toNat, none⟩ (.int .i64 v2)) g bw bt cw ct M (N : Int) A c l (W.set AT.toNat v1) (T.set AT.toNat v2)) := ⟨fun W T w v1 v2 h e1 e2 => by
  refine TabS.put h (p := p) (q := q) (by rw [Int.toNat_natCast]; exact hp) (by rw [Int.toNat_natCast]; exact hq) (by rw [Int.toNat_natCast]; exact HATE.out) (by rw [HLE.out]; exact e1) (by rw [HLE.out]; exact e2)⟩
 clear hS hne hd ih ht hkL hkK hkK2 hp hq hplt hmemo HMM HPL hP hAT HAT hcw hfw hct hft IH HT HLE HD HKL HKK HRL HML HL0 HRI HLL HMn HM HATE hy hx N7
 generalize leftL l (y : Int) (x : Int) = L at *
 obtain ⟨VW, hVW⟩ : ∃ v, v = valV cW 7 L := ⟨_, rfl⟩
 obtain ⟨VT, hVT⟩ : ∃ v, v = valV cT 7 L := ⟨_, rfl⟩
 rw [← hVW, ← hVT] at HME HFW HV1 HVB HPUT ⊢
 clear hVW hVT
 generalize (y : Int) = yi at *
 generalize (x : Int) = xi at *
 by_cases h1 : L.length = 1
 ·
  obtain ⟨rfl, rfl⟩ := HV1.out h1
  have b1 : ((L.length : Int) == 1) = true := by rw [h1]; rfl
  go_enter Try.func45, Try.ntmps45
  go_wp2_with (first | (go_at_call 97; (with_reducible refine (HCL.out _ HS.out).mono ?_); rintro e W4 ⟨A1, c1, rfl, hb4⟩; have HS4 := asd (HS.out.below hb4); clear hb4))
  go_ret2
  exact ⟨rfl, W, T, HS4.out⟩
 ·
  have b1 : ((L.length : Int) == 1) = false := beq_eq_false_iff_ne.mpr (by omega)
  rcases HME.out with hz | ⟨hu1, hu2_⟩
  ·
   have HU := asd hz
   clear hz
   obtain ⟨f1, f2⟩ := HFW.out h1
   have HF1 := asd f1
   have HF2 := asd f2
   clear f1 f2 h1 HFW HV1 HME
   have hp2 := HPQ.out.1
   have hq2 := HPQ.out.2
   have HPQ7 : Aside0 (p < 128 ∧ q < 128) := ⟨by have := HP.out; omega⟩
   obtain ⟨PQ, hPQ⟩ : ∃ v : Int, v = ((p ||| q : Nat) : Int) := ⟨_, rfl⟩
   have o1 : Go.bits .or .i64 (p : Int) (q : Int) = PQ := by rw [hPQ, bits_or _ _ (by have := HPQ7.out; omega) (by have := HPQ7.out; omega)]
   have HPQE := asd hPQ
   clear hp2 hq2 hPQ
   go_enter Try.func45, Try.ntmps45
   go_wp2_with (first | (go_at_call 97; (with_reducible refine (HCL.out _ HS.out).mono ?_); rintro e W4 ⟨A1, c1, rfl, hb4⟩; have HS4 := asd (HS.out.below hb4); clear hb4; have q0 := HS4.out.cells.1; have q2 := HS4.out.cells.2.2.1; obtain ⟨hcw, hfw⟩ := Kd.R_celln 0 HS4.out.rw AT a0 a1; rw [HU.out] at hcw))
   clear q0 q2 hcw hfw
   go_loopg [12, 13, 14] N (fun kq v12 v13 v14 wr => ∃ (i : Nat) (b1_ b2_ : Int) (W1 T1 : List Int), v12 = .int .i64 b1_ ∧ v13 = .int .i64 b2_ ∧ v14 = .int .i64 (i : Int) ∧ Aside0 (i + kq = N) ∧ Aside0 (foldS (vW L) (openS L) kq i b1_ = VW ∧ foldS (vT L) (openS L) kq i b2_ = VT) ∧ Aside0 (TabS wb wr g bw bt cw ct M (N : Int) A c l W1 T1))
   case atStart => exact ⟨0, _, _, W, T, rfl, rfl, rfl, ⟨by omega⟩, ⟨HF1.out, HF2.out⟩, HS4⟩
   case round =>
    clear HF1 HF2 HS4 HS HU
    obtain ⟨i, b1_, b2_, W1, T1, rfl, rfl, rfl, hj, HA, HSr⟩ := hrel
    have q0 := HSr.out.cells.1
    cases gk with
    | zero =>
     have hi : i = N := by have := hj.out; omega
     obtain ⟨rfl, rfl⟩ : b1_ = VW ∧ b2_ = VT := HA.out
     have hlt : ¬ ((i : Int) < (N : Int)) := by omega
     have q2 := HSr.out.cells.2.2.1
     obtain ⟨hcw, hfw⟩ := Kd.R_celln 0 HSr.out.rw AT a0 a1
     obtain ⟨v1, hv1⟩ : ∃ v, v = b1_ + 1 := ⟨_, rfl⟩
     obtain ⟨v2, hv2⟩ : ∃ v, v = b2_ + 1 := ⟨_, rfl⟩
     have w1 : IntKind.i64.wrap (b1_ + 1) = v1 := by rw [hv1, i64_w]; exact wrap_in (by have := HVB.out.1.1; omega) (by have := HVB.out.1.2; omega)
     have w2 : IntKind.i64.wrap (b2_ + 1) = v2 := by rw [hv2, i64_w]; exact wrap_in (by have := HVB.out.2.1; omega) (by have := HVB.out.2.2; omega)
     have HV1 := asd hv1
     have HV2 := asd hv2
     clear hv1 hv2
     have w3 : wrap64 (b1_ + 1) = v1 := (i64_w _).symm.trans w1
     have w4 : wrap64 (b2_ + 1) = v2 := (i64_w _).symm.trans w2
     have h3 := HSr.out.half AT.toNat (.int .i64 v1)
     have q3 := h3.1
     obtain ⟨hct, hft⟩ := Kd.R_celln 0 h3.2 AT a0 a1
     clear h3
     go_wp2
     go_ret2
     exact ⟨rfl, _, _, HPUT.out W1 T1 wr v1 v2 HSr.out HV1.out HV2.out⟩
    | succ kn =>
     have hlt : (i : Int) < (N : Int) := by have := hj.out; omega
     have hiN : i < N := by omega
     have HI7 : Aside0 (i < 7) := ⟨by have := HP.out; have h128 : 2 ^ N ≤ 2 ^ 7 := HP.out; have := (Nat.pow_le_pow_iff_right (show 1 < 2 by decide)).1 h128; omega⟩
     have HWS : Aside0 (wrap64 ((i : Int) + 1) = ((i + 1 : Nat) : Int)) := ⟨by rw [wrap_succ (by omega) (by have := HI7.out; omega)]; push_cast; rfl⟩
     obtain ⟨bb, hbb⟩ : ∃ b, b = (p ||| q).testBit i := ⟨_, rfl⟩
     have HIN : Aside0 (spec_spIn.f PQ (i : Int) = some bb) := ⟨by rw [HPQE.out, hbb]; exact spIn_ok _ i (by have := HI7.out; omega)⟩
     have HOI : Aside0 ((openS L).testBit i = !bb) := ⟨by rw [hbb]; exact HOB.out i hiN⟩
     clear hbb
     cases bb with
     | true =>
      have HN : Aside0 (foldS (vW L) (openS L) kn (i + 1) b1_ = VW ∧ foldS (vT L) (openS L) kn (i + 1) b2_ = VT) := ⟨by
       have h := HA.out
       unfold foldS stepS at h
       rw [HOI.out] at h
       exact h⟩
      go_wp2_with (first | (go_at_call 59; (with_reducible refine (spec_spIn.calls PQ (i : Int) true _ HIN.out).mono ?_); rintro e w' ⟨rfl, ⟨nd, rfl⟩⟩; have HS5 := asd (HSr.out.drewN nd); generalize World.drewN wr nd = W5 at *))
      go_roundg kn
      case measure => exact Nat.le_refl _
      case rel => exact ⟨i + 1, b1_, b2_, W1, T1, rfl, rfl, by rw [HWS.out], ⟨by have := hj.out; omega⟩, HN, HS5⟩
     | false =>
      obtain ⟨hc1, hc2⟩ := HCH.out i hiN HOI.out
      obtain ⟨PI, hPI⟩ : ∃ v : Int, v = ((p ||| 2 ^ i : Nat) : Int) := ⟨_, rfl⟩
      obtain ⟨QI, hQI⟩ : ∃ v : Int, v = ((q ||| 2 ^ i : Nat) : Int) := ⟨_, rfl⟩
      rw [← hPI] at hc1
      rw [← hQI] at hc2
      have h2i : (2 : Nat) ^ i < 9223372036854775808 := pow_lt63 i (by have := HI7.out; omega)
      have hi63 : i < 63 := by have := HI7.out; omega
      obtain ⟨sx, hsx⟩ : ∃ v : Int, v = ((2 ^ i : Nat) : Int) := ⟨_, rfl⟩
      have hshl : shl .i64 1 (i : Int) = sx := by rw [hsx]; exact shl_one i hi63
      obtain ⟨g1_, g2_, g3_, g4_, g5_, g6_, g7_, g8_⟩ := shl_ways hshl (by omega)
      rw [Int.toNat_natCast] at g1_ g2_ g3_ g4_ g5_ g6_ g7_ g8_
      have o2 : Go.bits .or .i64 (p : Int) sx = PI := by rw [hsx, hPI]; exact bits_or _ _ (by have := HPQ7.out; omega) h2i
      have o3 : Go.bits .or .i64 (q : Int) sx = QI := by rw [hsx, hQI]; exact bits_or _ _ (by have := HPQ7.out; omega) h2i
      have HAB := asd (And.intro (valW_bounds 7 (hasF i L)) (And.intro (valW_bounds 7 (hasntF i L)) (And.intro (valT_bounds 7 (hasF i L)) (And.intro (valT_bounds 7 (hasntF i L)) (has_hasnt i L)))))
      obtain ⟨av, hav⟩ : ∃ v, v = vW L i := ⟨_, rfl⟩
      obtain ⟨tv, htv⟩ : ∃ v, v = vT L i := ⟨_, rfl⟩
      have HAV := asd hav
      have HTV := asd htv
      unfold vW at hav
      unfold vT at htv
      have HC1 := asd hc1
      have HC2 := asd hc2
      clear hc1 hc2 hPI hQI h2i hi63 hsx hshl
      generalize valV cW 7 (hasF i L) = x1 at *
      generalize valV cW 7 (hasntF i L) = x2 at *
      generalize valV cT 7 (hasF i L) = y1 at *
      generalize valV cT 7 (hasntF i L) = y2 at *
      unfold cW at hav
      unfold cT at htv
      obtain ⟨mx, hmx⟩ : ∃ v, v = if x1 > x2 then x1 else x2 := ⟨_, rfl⟩
      have HMX : Aside0 (spec_l1Most.f x1 x2 = some mx) := ⟨by
       unfold spec_l1Most.f
       rw [hmx]
       split <;> rfl⟩
      have hav2 : 1 + mx = av := by
       rw [hmx, hav]
       split <;> split <;> omega
      have HX8 : Aside0 (0 ≤ av ∧ av ≤ 8) := ⟨by rw [HAV.out]; exact vW_bounds L i⟩
      have HT8 : Aside0 (0 ≤ tv ∧ tv ≤ 1024) := ⟨by rw [HTV.out]; exact vT_bounds HLN.out i⟩
      clear hmx hav
      have z1 : IntKind.i64.wrap (1 + mx) = av := by rw [hav2, i64_w]; exact wrap_in (by have := HX8.out; omega) (by have := HX8.out; omega)
      obtain ⟨ls, hls⟩ : ∃ v, v = (L.length : Int) + y1 := ⟨_, rfl⟩
      have z2 : IntKind.i64.wrap ((L.length : Int) + y1) = ls := by rw [hls, i64_w]; exact wrap_in (by have := HAB.out; omega) (by have := HAB.out; have := HT8.out; omega)
      have z3 : IntKind.i64.wrap (ls + y2) = tv := by rw [hls, ← htv, i64_w]; exact wrap_in (by have := HT8.out; omega) (by have := HT8.out; omega)
      clear hls htv hav2
      have z4 : wrap64 (1 + mx) = av := (i64_w _).symm.trans z1
      have z5 : wrap64 ((L.length : Int) + y1) = ls := (i64_w _).symm.trans z2
      have z6 : wrap64 (ls + y2) = tv := (i64_w _).symm.trans z3
      have HS1 : Aside0 (spec_l1Least.f b1_ av = some (stepS (vW L) (openS L) i b1_)) := ⟨by
       unfold spec_l1Least.f stepS
       rw [HOI.out, if_pos (show (!false) = true from rfl), ← HAV.out]
       split <;> split <;> first | rfl | (congr 1; omega)⟩
      have HS2 : Aside0 (spec_l1Least.f b2_ tv = some (stepS (vT L) (openS L) i b2_)) := ⟨by
       unfold spec_l1Least.f stepS
       rw [HOI.out, if_pos (show (!false) = true from rfl), ← HTV.out]
       split <;> split <;> first | rfl | (congr 1; omega)⟩
      have HN : Aside0 (foldS (vW L) (openS L) kn (i + 1) (stepS (vW L) (openS L) i b1_) = VW ∧ foldS (vT L) (openS L) kn (i + 1) (stepS (vT L) (openS L) i b2_) = VT) := HA
      generalize stepS (vW L) (openS L) i b1_ = n1 at *
      generalize stepS (vT L) (openS L) i b2_ = n2 at *
      clear HA HAB
      go_wp2_with (first | (go_at_call 59; (with_reducible refine (spec_spIn.calls PQ (i : Int) false _ HIN.out).mono ?_); rintro e w' ⟨rfl, ⟨nd, rfl⟩⟩; have HS5 := asd (HSr.out.drewN nd); generalize World.drewN wr nd = W5 at *) | (go_at_call 45; (first | ((with_reducible refine (HC1.out _ _ _ HS5.out).mono ?_); rintro e W6 ⟨rfl, W2_, T2_, hS6⟩; have HS6 := asd hS6; clear hS6) | ((with_reducible refine (HC2.out _ _ _ HS6.out).mono ?_); rintro e W7 ⟨rfl, W3_, T3_, hS7⟩; have HS7 := asd hS7; clear hS7))) | (go_at_call 99; (with_reducible refine (spec_l1Most.calls x1 x2 mx _ HMX.out).mono ?_); rintro e w' ⟨rfl, ⟨nd8, rfl⟩⟩; have HS8 := asd (HS7.out.drewN nd8); generalize World.drewN W7 nd8 = W8 at *) | (go_at_call 98; (first | ((with_reducible refine (spec_l1Least.calls b1_ av n1 _ HS1.out).mono ?_); rintro e w' ⟨rfl, ⟨nd9, rfl⟩⟩; have HS9 := asd (HS8.out.drewN nd9); generalize World.drewN W8 nd9 = W9 at *) | ((with_reducible refine (spec_l1Least.calls b2_ tv n2 _ HS2.out).mono ?_); rintro e w' ⟨rfl, ⟨nd10, rfl⟩⟩; have HS10 := asd (HS9.out.drewN nd10); generalize World.drewN W9 nd10 = W10 at *))))
      go_roundg kn
      case measure => exact Nat.le_refl _
      case rel => exact ⟨i + 1, n1, n2, W3_, T3_, rfl, rfl, by rw [HWS.out], ⟨by have := hj.out; omega⟩, HN, HS10⟩
  ·
   obtain ⟨uW, huW⟩ : ∃ v, v = VW + 1 := ⟨_, rfl⟩
   obtain ⟨uT, huT⟩ : ∃ v, v = VT + 1 := ⟨_, rfl⟩
   have HU := asd (hu1.trans huW.symm)
   have HU2 := asd (hu2_.trans huT.symm)
   have d1 : decide (uW > 0) = true := decide_eq_true (by have := HVB.out.1.1; omega)
   have d2 : decide (0 < uW) = true := d1
   have r1 : IntKind.i64.wrap (uW - 1) = VW := by rw [huW, i64_w, Int.add_sub_cancel]; exact wrap_in (by have := HVB.out.1.1; omega) (by have := HVB.out.1.2; omega)
   have r2 : IntKind.i64.wrap (uT - 1) = VT := by rw [huT, i64_w, Int.add_sub_cancel]; exact wrap_in (by have := HVB.out.2.1; omega) (by have := HVB.out.2.2; omega)
   have r3 : wrap64 (uW - 1) = VW := (i64_w _).symm.trans r1
   have r4 : wrap64 (uT - 1) = VT := (i64_w _).symm.trans r2
   clear huW huT hu1 hu2_
   go_enter Try.func45, Try.ntmps45
   go_wp2_with (first | (go_at_call 97; (with_reducible refine (HCL.out _ HS.out).mono ?_); rintro e W4 ⟨A1, c1, rfl, hb4⟩; have HS4 := asd (HS.out.below hb4); clear hb4; have q0 := HS4.out.cells.1; have q2 := HS4.out.cells.2.2.1; have q3 := HS4.out.cells.2.2.2; obtain ⟨hcw, hfw⟩ := Kd.R_celln 0 HS4.out.rw AT a0 a1; obtain ⟨hct, hft⟩ := Kd.R_celln 0 HS4.out.rt AT a0 a1; rw [HU.out] at hcw; rw [HU2.out] at hct))
   go_quiet (fail)
   go_wp2
   go_ret2
   exact ⟨rfl, W, T, by first | exact HS4.out | exact HS4.out.drewN _⟩

-- HAND with (*spec.asTable).least
theorem tab_childs {wb : World} {g bw bt cw ct M N : Nat} {A : Option Addr} {c : Nat} {l : List Int} (hsp : isSpaceB (N : Int) l = true) (hl : Kd.C (Kd.int .i64) wb A l.length l) (hc : l.length ≤ c) {y x p q i : Nat} (ht : Told N l y x p q) (hy : y < 2 ^ N) (hx : x < 2 ^ N) (hne : leftL l (y : Int) (x : Int) ≠ []) (hi : i < N) (ho : (openS (leftL l (y : Int) (x : Int))).testBit i = true) :
    (∀ W T w, TabS wb w g bw bt cw ct M (N : Int) A c l W T → Calls Try.prog 45 #[.pointer (some ⟨g, 0, none⟩), .int .i64 ((p ||| 2 ^ i : Nat) : Int), .int .i64 (q : Int)] w fun e w' => e = .returned (.tuple #[.int .i64 (valV cW 7 (hasF i (leftL l (y : Int) (x : Int)))), .int .i64 (valV cT 7 (hasF i (leftL l (y : Int) (x : Int))))]) ∧ ∃ W' T', TabS wb w' g bw bt cw ct M (N : Int) A c l W' T') ∧
    (∀ W T w, TabS wb w g bw bt cw ct M (N : Int) A c l W T → Calls Try.prog 45 #[.pointer (some ⟨g, 0, none⟩), .int .i64 (p : Int), .int .i64 ((q ||| 2 ^ i : Nat) : Int)] w fun e w' => e = .returned (.tuple #[.int .i64 (valV cW 7 (hasntF i (leftL l (y : Int) (x : Int)))), .int .i64 (valV cT 7 (hasntF i (leftL l (y : Int) (x : Int))))]) ∧ ∃ W' T', TabS wb w' g bw bt cw ct M (N : Int) A c l W' T') := by
  obtain ⟨n1, n7, _⟩ := isSpaceB_parts hsp
  have hM := isSpaceB_i128 hsp
  obtain ⟨⟨z, hz, hzb⟩, _⟩ := openS_bits _ _ ho
  have hnz : ∃ z ∈ leftL l (y : Int) (x : Int), z.toNat.testBit i = false := by
    rw [openS_bit _ _ (show i < 7 by omega), Bool.and_eq_true, Bool.not_eq_true', List.all_eq_false] at ho
    obtain ⟨_, z, hz, h⟩ := ho
    exact ⟨z, hz, by simpa using h⟩
  obtain ⟨z2, hz2, hzb2⟩ := hnz
  have e1 := left_has hM p q i
  have e2 := left_hasnt hM p q i
  rw [ht.left hM hy hx hne] at e1 e2
  have hp2 : p ||| 2 ^ i < 2 ^ N := Nat.or_lt_two_pow ht.hp (Nat.pow_lt_pow_right (by decide) hi)
  have hq2 : q ||| 2 ^ i < 2 ^ N := Nat.or_lt_two_pow ht.hq (Nat.pow_lt_pow_right (by decide) hi)
  constructor
  · intro W T w h
    have h1 := spec_asTable_least.calls hsp hl hc 7 (p ||| 2 ^ i) q W T w h (by rw [Int.toNat_natCast]; exact hp2) (by rw [Int.toNat_natCast]; exact ht.hq) (by rw [e1]; exact List.ne_nil_of_mem (List.mem_filter.2 ⟨hz, hzb⟩)) (items_len _)
    rw [e1] at h1
    exact h1
  · intro W T w h
    have h1 := spec_asTable_least.calls hsp hl hc 7 p (q ||| 2 ^ i) W T w h (by rw [Int.toNat_natCast]; exact ht.hp) (by rw [Int.toNat_natCast]; exact hq2) (by rw [e2]; exact List.ne_nil_of_mem (List.mem_filter.2 ⟨hz2, by rw [hzb2]; rfl⟩)) (items_len _)
    rw [e2] at h1
    exact h1

-- HAND spec_asTable_best: function 54
set_option maxHeartbeats 8000000 in
set_option maxRecDepth 100000 in
theorem spec_asTable_best.calls {wb : World} {g bw bt cw ct M N : Nat} {A : Option Addr} {c : Nat} {l : List Int} (hsp : isSpaceB (N : Int) l = true) (hl : Kd.C (Kd.int .i64) wb A l.length l) (hc : l.length ≤ c) (y x : Nat) (W T : List Int) (w : World) (hS : TabS wb w g bw bt cw ct M (N : Int) A c l W T) (hy : y < 2 ^ N) (hx : x < 2 ^ N) (h2 : 2 ≤ (leftL l (y : Int) (x : Int)).length) :
  Calls Try.prog 54 #[.pointer (some ⟨g, 0, none⟩), .int .i64 (y : Int), .int .i64 (x : Int)] w fun e w' => e = .returned (.int .i64 (bestV (leftL l (y : Int) (x : Int)) : Nat)) ∧ Below wb.heap.size wb w' := by
 have hu := Try.underlying28
 have hu2 := Try.underlying102
 have hne : leftL l (y : Int) (x : Int) ≠ [] := fun e => by rw [e] at h2; cases h2
 obtain ⟨n1, n7, _⟩ := isSpaceB_parts hsp
 have hM := isSpaceB_i128 hsp
 have hp128 : 2 ^ N ≤ 2 ^ 7 := Nat.pow_le_pow_right (show 0 < 2 by decide) (by omega)
 have hMn : ∀ z ∈ l, 0 ≤ z ∧ z < 2 ^ N := fun z hz => by
  have h := isSpaceB_mem hsp z hz
  rw [Int.toNat_natCast] at h
  exact h
 have HML : ∀ z ∈ leftL l (y : Int) (x : Int), I128 z := fun z hz => hM z (leftL_sub hz)
 have hll := isSpaceB_len hsp
 have HLN : (leftL l (y : Int) (x : Int)).length ≤ 128 := Nat.le_trans (leftL_length l _ _) hll
 have HRL : (leftL l (y : Int) (x : Int)).Pairwise (· < ·) := (isSpaceB_rise hsp).sublist List.filter_sublist
 obtain ⟨p, q, ht⟩ := told_ex N l y x
 obtain ⟨b7, bo, bv, bl⟩ := best_spec HML HRL h2
 have HBO := asd bo
 have HBV := asd bv
 have HBL := asd bl
 have HBN : Aside0 (bestV (leftL l (y : Int) (x : Int)) < N) := ⟨left_lt (n := N) hMn bo⟩
 have HN7 : Aside0 (N ≤ 7) := ⟨by omega⟩
 have HOB : Aside0 (∀ i, i < N → (openS (leftL l (y : Int) (x : Int))).testBit i = !(p ||| q).testBit i) := ⟨fun i hi => ht.open_ hi HN7.out⟩
 obtain ⟨kL, hkL⟩ := asLeft_ok (l := l) (N : Int) (y := (y : Int)) (n := (x : Int)) ⟨by omega, by omega⟩ ⟨by omega, by omega⟩ hM (by omega)
 obtain ⟨kK, hkK⟩ := asKnown_ok (n := (N : Int)) (by omega) (by omega) l (leftL l (y : Int) (x : Int)) (by omega) HML
 have hkL2 := hkL kL (Nat.le_refl _)
 have hkK2 := hkK kK (Nat.le_refl _)
 rw [Int.toNat_natCast, ht.eq] at hkK2
 have HS := asd hS
 have HCL : Aside0 (Calls Try.prog 97 #[.pointer (some ⟨g, 0, none⟩), .int .i64 (y : Int), .int .i64 (x : Int)] w fun e w' => ∃ (A1 : Option Addr) (c1 : Nat), e = .returned (.tuple #[.slice A1 (leftL l (y : Int) (x : Int)).length c1, .int .i64 (p : Int), .int .i64 (q : Int)]) ∧ Below w.heap.size w w') := ⟨spec_asTable_closed.calls hS hl hc kL kK hkL2 hkK2⟩
 have HLS : Aside0 (∀ W T w, TabS wb w g bw bt cw ct M (N : Int) A c l W T → Calls Try.prog 45 #[.pointer (some ⟨g, 0, none⟩), .int .i64 (y : Int), .int .i64 (x : Int)] w fun e w' => e = .returned (.tuple #[.int .i64 (valV cW 7 (leftL l (y : Int) (x : Int))), .int .i64 (valV cT 7 (leftL l (y : Int) (x : Int)))]) ∧ ∃ W' T', TabS wb w' g bw bt cw ct M (N : Int) A c l W' T') := ⟨fun W T w h => spec_asTable_least.calls hsp hl hc 7 y x W T w h (by rw [Int.toNat_natCast]; exact hy) (by rw [Int.toNat_natCast]; exact hx) hne (items_len _)⟩
 have HCH := asd (fun (i : Nat) (hi : i < N) (ho : (openS (leftL l (y : Int) (x : Int))).testBit i = true) => tab_childs (g := g) (bw := bw) (bt := bt) (cw := cw) (ct := ct) (M := M) hsp hl hc ht hy hx hne hi ho)
 have HPQ7 : Aside0 (p < 128 ∧ q < 128) := ⟨by have := ht.hp; have := ht.hq; omega⟩
 clear hsp hl hc hy hx h2 hne n1 n7 hM hp128 hMn HML hll HLN HRL ht b7 bo bv bl hkL hkK hkL2 hkK2 hS
 generalize leftL l (y : Int) (x : Int) = L at *
 obtain ⟨VW, hVW⟩ : ∃ v, v = valV cW 7 L := ⟨_, rfl⟩
 obtain ⟨VT, hVT⟩ : ∃ v, v = valV cT 7 L := ⟨_, rfl⟩
 rw [← hVW, ← hVT] at HLS
 rw [← hVW] at HBV HBL
 clear hVW hVT
 generalize (y : Int) = yi at *
 generalize (x : Int) = xi at *
 generalize bestV L = B at *
 obtain ⟨PQ, hPQ⟩ : ∃ v : Int, v = ((p ||| q : Nat) : Int) := ⟨_, rfl⟩
 have o1 : Go.bits .or .i64 (p : Int) (q : Int) = PQ := by rw [hPQ, bits_or _ _ (by have := HPQ7.out; omega) (by have := HPQ7.out; omega)]
 have HPQE := asd hPQ
 clear hPQ
 go_enter Try.func54, Try.ntmps54
 go_wp2_with (first | (go_at_call 97; (with_reducible refine (HCL.out).mono ?_); rintro e W4 ⟨A1, c1, rfl, hb4⟩; have HS4 := asd (HS.out.below hb4); clear hb4) | (go_at_call 45; (with_reducible refine (HLS.out _ _ _ HS4.out).mono ?_); rintro e W5 ⟨rfl, W5_, T5_, hS5⟩; have HS5 := asd hS5; clear hS5))
 go_loopg [12] (B + 1) (fun kq v12 wr => ∃ (i : Nat) (W1 T1 : List Int), v12 = .int .i64 (i : Int) ∧ Aside0 (i ≤ B ∧ i + kq = B + 1) ∧ Aside0 (TabS wb wr g bw bt cw ct M (N : Int) A c l W1 T1))
 case atStart => exact ⟨0, _, _, rfl, ⟨by omega⟩, HS5⟩
 case round =>
  clear HS4 HS5 HS HCL HLS
  obtain ⟨i, W1, T1, rfl, hj, HSr⟩ := hrel
  cases gk with
  | zero => exact absurd hj.out (by omega)
  | succ kn =>
   have hiN : i < N := by have := hj.out; have := HBN.out; omega
   have HI7 : Aside0 (i < 7) := ⟨by have := HN7.out; omega⟩
   have HWS : Aside0 (wrap64 ((i : Int) + 1) = ((i + 1 : Nat) : Int)) := ⟨by rw [wrap_succ (by omega) (by have := HI7.out; omega)]; push_cast; rfl⟩
   obtain ⟨bb, hbb⟩ : ∃ b, b = (p ||| q).testBit i := ⟨_, rfl⟩
   have HIN : Aside0 (spec_spIn.f PQ (i : Int) = some bb) := ⟨by rw [HPQE.out, hbb]; exact spIn_ok _ i (by have := HI7.out; omega)⟩
   have HOI : Aside0 ((openS L).testBit i = !bb) := ⟨by rw [hbb]; exact HOB.out i hiN⟩
   clear hbb
   cases bb with
   | true =>
    have HIB : Aside0 (i + 1 ≤ B ∧ i + 1 + kn = B + 1) := ⟨by
     have h := hj.out
     have hne : i ≠ B := fun e => by
      have h1 := HOI.out
      rw [e, HBO.out] at h1
      cases h1
     omega⟩
    go_wp2_with (first | (go_at_call 59; (with_reducible refine (spec_spIn.calls PQ (i : Int) true _ HIN.out).mono ?_); rintro e w' ⟨rfl, ⟨nd, rfl⟩⟩; have HS6 := asd (HSr.out.drewN nd); generalize World.drewN wr nd = W6 at *))
    go_roundg kn
    case measure => exact Nat.le_refl _
    case rel => exact ⟨i + 1, W1, T1, by rw [HWS.out], HIB, HS6⟩
   | false =>
    obtain ⟨hc1, hc2⟩ := HCH.out i hiN HOI.out
    obtain ⟨PI, hPI⟩ : ∃ v : Int, v = ((p ||| 2 ^ i : Nat) : Int) := ⟨_, rfl⟩
    obtain ⟨QI, hQI⟩ : ∃ v : Int, v = ((q ||| 2 ^ i : Nat) : Int) := ⟨_, rfl⟩
    rw [← hPI] at hc1
    rw [← hQI] at hc2
    have h2i : (2 : Nat) ^ i < 9223372036854775808 := pow_lt63 i (by have := HI7.out; omega)
    have hi63 : i < 63 := by have := HI7.out; omega
    obtain ⟨sx, hsx⟩ : ∃ v : Int, v = ((2 ^ i : Nat) : Int) := ⟨_, rfl⟩
    have hshl : shl .i64 1 (i : Int) = sx := by rw [hsx]; exact shl_one i hi63
    obtain ⟨g1_, g2_, g3_, g4_, g5_, g6_, g7_, g8_⟩ := shl_ways hshl (by omega)
    rw [Int.toNat_natCast] at g1_ g2_ g3_ g4_ g5_ g6_ g7_ g8_
    have o2 : Go.bits .or .i64 (p : Int) sx = PI := by rw [hsx, hPI]; exact bits_or _ _ (by have := HPQ7.out; omega) h2i
    have o3 : Go.bits .or .i64 (q : Int) sx = QI := by rw [hsx, hQI]; exact bits_or _ _ (by have := HPQ7.out; omega) h2i
    obtain ⟨av, hav⟩ : ∃ v, v = vW L i := ⟨_, rfl⟩
    have HAV := asd hav
    unfold vW at hav
    have HC1 := asd hc1
    have HC2 := asd hc2
    clear hc1 hc2 hPI hQI h2i hi63 hsx hshl
    generalize valV cW 7 (hasF i L) = x1 at *
    generalize valV cW 7 (hasntF i L) = x2 at *
    generalize valV cT 7 (hasF i L) = y1 at *
    generalize valV cT 7 (hasntF i L) = y2 at *
    unfold cW at hav
    obtain ⟨mx, hmx⟩ : ∃ v, v = if x1 > x2 then x1 else x2 := ⟨_, rfl⟩
    have HMX : Aside0 (spec_l1Most.f x1 x2 = some mx) := ⟨by
     unfold spec_l1Most.f
     rw [hmx]
     split <;> rfl⟩
    have hav2 : 1 + mx = av := by
     rw [hmx, hav]
     split <;> split <;> omega
    have HX8 : Aside0 (0 ≤ av ∧ av ≤ 8) := ⟨by rw [HAV.out]; exact vW_bounds L i⟩
    clear hmx hav
    have z1 : IntKind.i64.wrap (1 + mx) = av := by rw [hav2, i64_w]; exact wrap_in (by have := HX8.out; omega) (by have := HX8.out; omega)
    clear hav2
    have z4 : wrap64 (1 + mx) = av := (i64_w _).symm.trans z1
    by_cases hib : i = B
    ·
     have eb : (av == VW) = true := beq_iff_eq.mpr (by rw [HAV.out, hib]; exact HBV.out)
     have HIB := asd hib
     clear hib
     go_wp2_with (first | (go_at_call 59; (with_reducible refine (spec_spIn.calls PQ (i : Int) false _ HIN.out).mono ?_); rintro e w' ⟨rfl, ⟨nd, rfl⟩⟩; have HS5 := asd (HSr.out.drewN nd); generalize World.drewN wr nd = W5 at *) | (go_at_call 45; (first | ((with_reducible refine (HC1.out _ _ _ HS5.out).mono ?_); rintro e W6 ⟨rfl, W2_, T2_, hS6⟩; have HS6 := asd hS6; clear hS6) | ((with_reducible refine (HC2.out _ _ _ HS6.out).mono ?_); rintro e W7 ⟨rfl, W3_, T3_, hS7⟩; have HS7 := asd hS7; clear hS7))) | (go_at_call 99; (with_reducible refine (spec_l1Most.calls x1 x2 mx _ HMX.out).mono ?_); rintro e w' ⟨rfl, ⟨nd8, rfl⟩⟩; have HS8 := asd (HS7.out.drewN nd8); generalize World.drewN W7 nd8 = W8 at *))
     go_ret
     exact ⟨by have h := HIB.out; subst h; rfl, HS8.out.bel⟩
    ·
     have eb : (av == VW) = false := beq_eq_false_iff_ne.mpr (by rw [HAV.out]; exact HBL.out i (by have := hj.out; omega) HOI.out)
     have HIB : Aside0 (i + 1 ≤ B ∧ i + 1 + kn = B + 1) := ⟨by have := hj.out; omega⟩
     clear hib
     go_wp2_with (first | (go_at_call 59; (with_reducible refine (spec_spIn.calls PQ (i : Int) false _ HIN.out).mono ?_); rintro e w' ⟨rfl, ⟨nd, rfl⟩⟩; have HS5 := asd (HSr.out.drewN nd); generalize World.drewN wr nd = W5 at *) | (go_at_call 45; (first | ((with_reducible refine (HC1.out _ _ _ HS5.out).mono ?_); rintro e W6 ⟨rfl, W2_, T2_, hS6⟩; have HS6 := asd hS6; clear hS6) | ((with_reducible refine (HC2.out _ _ _ HS6.out).mono ?_); rintro e W7 ⟨rfl, W3_, T3_, hS7⟩; have HS7 := asd hS7; clear hS7))) | (go_at_call 99; (with_reducible refine (spec_l1Most.calls x1 x2 mx _ HMX.out).mono ?_); rintro e w' ⟨rfl, ⟨nd8, rfl⟩⟩; have HS8 := asd (HS7.out.drewN nd8); generalize World.drewN W7 nd8 = W8 at *))
     go_roundg kn
     case measure => exact Nat.le_refl _
     case rel => exact ⟨i + 1, W3_, T3_, by rw [HWS.out], HIB, HS8⟩

-- HAND spec_BestQuestion: function 18
def spec_BestQuestion.f (k : Nat) (n : Int) (l : List Int) (y x : Int) : Option (Int × Bool) := (spec_asGood.f k n l y x).bind fun b => if b = true then (if goOnB n l y x = true then (if ((leftL l y x).length : Int) = 1 then some (0, false) else some (((bestV (leftL l y x) : Nat) : Int), true)) else none) else some (0, false)
theorem spec_BestQuestion.mono (y0 : Int) (y1 : List Int) (y2 y3 : Int) (k : Nat) : LeO (spec_BestQuestion.f k y0 y1 y2 y3) (spec_BestQuestion.f (k + 1) y0 y1 y2 y3) := by
 unfold spec_BestQuestion.f
 exact LeO.bind (spec_asGood.mono _ _ _ _ k) fun b => LeO.refl _
theorem goOnB_facts3 {n : Int} {l : List Int} {y x : Int} (h : goOnB n l y x = true) : ∃ (N a b : Nat), n = (N : Int) ∧ y = (a : Int) ∧ x = (b : Int) ∧ isSpaceB (N : Int) l = true ∧ 1 ≤ N ∧ N ≤ 7 ∧ a < 2 ^ N ∧ b < 2 ^ N ∧ 1 ≤ (leftL l (a : Int) (b : Int)).length ∧ ∃ k, spec_asLeft.f k (N : Int) l (a : Int) (b : Int) = some (leftL l (a : Int) (b : Int)) := by
 obtain ⟨hS, hy, hm, hyn, hmn, _⟩ := answersB_parts (goOnB_parts h)
 obtain ⟨n1, n7, _⟩ := isSpaceB_parts hS
 have hll := isSpaceB_len hS
 obtain ⟨k, hk⟩ := asLeft_ok (l := l) n hy hm (isSpaceB_i128 hS) (by omega)
 have hk2 := hk k (Nat.le_refl _)
 obtain ⟨N, rfl⟩ := Int.eq_ofNat_of_zero_le (show 0 ≤ n by omega)
 obtain ⟨a, rfl⟩ := Int.eq_ofNat_of_zero_le hy.1
 obtain ⟨b, rfl⟩ := Int.eq_ofNat_of_zero_le hm.1
 rw [Int.toNat_natCast] at hyn hmn
 have h1 : a < 2 ^ N := by exact_mod_cast hyn
 have h2 : b < 2 ^ N := by exact_mod_cast hmn
 unfold goOnB at h
 rw [Bool.and_eq_true] at h
 exact ⟨N, a, b, rfl, rfl, rfl, hS, by omega, by omega, h1, h2, of_decide_eq_true h.2, k, hk2⟩
set_option maxHeartbeats 8000000 in
set_option maxRecDepth 100000 in
theorem spec_BestQuestion.calls (k : Nat) (n : Int) (A : Option Addr) (c : Nat) (l : List Int) (yes no : Int) (r1 : Int) (r2 : Bool) (w : World) (hr : Kd.C (Kd.int .i64) w A l.length l) (hc : l.length ≤ c) (h : spec_BestQuestion.f k n l yes no = some (r1, r2)) :
  Calls Try.prog 18 #[.agg #[.int .i64 n, .slice A l.length c], .int .i64 yes, .int .i64 no] w fun e w' => e = .returned (.tuple #[.int .i64 r1, .bool r2]) ∧ Below w.heap.size w w' := by
 have hu := Try.underlying28
 have HR := asd hr
 have HC := asd hc
 clear hr hc
 unfold spec_BestQuestion.f at h
 obtain ⟨b, hg, h0⟩ := Option.bind_eq_some_iff.1 h
 clear h
 have h := h0
 clear h0
 have HG := asd hg
 clear hg
 cases b with
 | false =>
  obtain ⟨rfl, rfl⟩ : (0 : Int) = r1 ∧ false = r2 := by simpa using h
  clear h
  go_enter Try.func18, Try.ntmps18
  go_wp2_with (first | ((with_reducible refine gate_dst (N := 3) rfl ?_); refine box_event ?hg (N := 3) ?hd (cs := #[.int .i64 n, .slice A l.length c]) (t := 28) ?hr ?_; (case hd => rfl); (case hg => rfl); (case hr => first | (go_simp; done) | (go_simp; rfl)); intro g ge W gb Wb; have HXg := asd (SpBox.mk_ ge gb Wb); have gz0 := HXg.out.c0; have gz1 := HXg.out.c1; clear ge gb Wb) | (go_at_call 50; (with_reducible refine (spec_asGood.calls k n _ _ l yes no false _ (by repeat (first | exact Kd.C_below HR.out HXg.out.bel | (with_reducible refine Kd.C_drewN ?_ _) | (with_reducible refine Kd.C_drew ?_))) HC.out HG.out).mono ?_); rintro e W2 ⟨rfl, hbel_⟩; have HX2 := asd (SpBox.next HXg.out (by first | exact hbel_ | exact below_since hbel_ | exact below_since1 hbel_)); skip; clear hbel_))
  go_ret2
  exact ⟨rfl, (by repeat (first | exact HX2.out.bel | apply pw_below_drewN | apply below_drew1))⟩
 | true =>
  rw [if_pos rfl] at h
  by_cases hgo : goOnB n l yes no = true
  ·
   rw [if_pos hgo] at h
   obtain ⟨N, a, b, rfl, rfl, rfl, hS, n1, n7, ha, hb, hge, kL, hkL⟩ := goOnB_facts3 hgo
   have HN1 : Aside0 (1 ≤ (N : Int) ∧ (N : Int) ≤ 7) := ⟨by omega⟩
   have HKL := asd hkL
   by_cases h1 : ((leftL l (a : Int) (b : Int)).length : Int) = 1
   ·
    rw [if_pos h1] at h
    obtain ⟨rfl, rfl⟩ : (0 : Int) = r1 ∧ false = r2 := by simpa using h
    have b1 : (((leftL l (a : Int) (b : Int)).length : Int) == 1) = true := beq_iff_eq.mpr h1
    clear h hS n1 n7 ha hb hge hgo h1 hkL
    generalize leftL l (a : Int) (b : Int) = L at *
    generalize (a : Int) = yi at *
    generalize (b : Int) = xi at *
    go_enter Try.func18, Try.ntmps18
    go_wp2_with (first | ((with_reducible refine gate_dst (N := 3) rfl ?_); refine box_event ?hg (N := 3) ?hd (cs := #[.int .i64 (N : Int), .slice A l.length c]) (t := 28) ?hr ?_; (case hd => rfl); (case hg => rfl); (case hr => first | (go_simp; done) | (go_simp; rfl)); intro g ge W gb Wb; have HXg := asd (SpBox.mk_ ge gb Wb); have gz0 := HXg.out.c0; have gz1 := HXg.out.c1; clear ge gb Wb) | (go_at_call 50; (with_reducible refine (spec_asGood.calls k (N : Int) _ _ l yi xi true _ (by repeat (first | exact Kd.C_below HR.out HXg.out.bel | (with_reducible refine Kd.C_drewN ?_ _) | (with_reducible refine Kd.C_drew ?_))) HC.out HG.out).mono ?_); rintro e W2 ⟨rfl, hbel_⟩; have HX2 := asd (SpBox.next HXg.out (by first | exact hbel_ | exact below_since hbel_ | exact below_since1 hbel_)); have q0 := HX2.out.c0; have q1 := HX2.out.c1; clear hbel_) | (go_at_call 53; (with_reducible refine (spec_asLeft.calls kL (N : Int) _ _ l yi xi L _ ?ca HC.out HKL.out).mono ?_); (case ca => exact (by repeat (first | exact Kd.C_below HR.out HX2.out.bel | (with_reducible refine Kd.C_drewN ?_ _) | (with_reducible refine Kd.C_drew ?_)))); rintro e W3 ⟨v3, rfl, hR3, hb3⟩; obtain ⟨A3, c3, rfl⟩ := Kd.R_slice hR3; have HX3 := asd (SpBox.next HX2.out (by first | exact hb3 | exact below_since hb3 | exact below_since1 hb3)); clear hR3 hb3))
    go_ret2
    exact ⟨rfl, (by repeat (first | exact HX3.out.bel | apply pw_below_drewN | apply below_drew1))⟩
   ·
    rw [if_neg h1] at h
    obtain ⟨rfl, rfl⟩ : ((bestV (leftL l (a : Int) (b : Int)) : Nat) : Int) = r1 ∧ true = r2 := by simpa using h
    have b1 : (((leftL l (a : Int) (b : Int)).length : Int) == 1) = false := beq_eq_false_iff_ne.mpr h1
    have HQ : Aside0 (∀ (wb w : World) (g bw bt cw ct : Nat) (W T : List Int), TabS wb w g bw bt cw ct (2 ^ (2 * (N : Int).toNat)) (N : Int) A c l W T → Kd.C (Kd.int .i64) wb A l.length l → Calls Try.prog 54 #[.pointer (some ⟨g, 0, none⟩), .int .i64 (a : Int), .int .i64 (b : Int)] w fun e w' => e = .returned (.int .i64 (bestV (leftL l (a : Int) (b : Int)) : Nat)) ∧ Below wb.heap.size wb w') := ⟨fun wb w g bw bt cw ct W T e1 e2 => spec_asTable_best.calls hS e2 HC.out a b W T w e1 ha hb (by omega)⟩
    clear h hS n1 n7 ha hb hge hgo h1 hkL
    generalize leftL l (a : Int) (b : Int) = L at *
    generalize bestV L = B at *
    generalize (a : Int) = yi at *
    generalize (b : Int) = xi at *
    go_enter Try.func18, Try.ntmps18
    go_wp2_with (first | ((with_reducible refine gate_dst (N := 3) rfl ?_); refine box_event ?hg (N := 3) ?hd (cs := #[.int .i64 (N : Int), .slice A l.length c]) (t := 28) ?hr ?_; (case hd => rfl); (case hg => rfl); (case hr => first | (go_simp; done) | (go_simp; rfl)); intro g ge W gb Wb; have HXg := asd (SpBox.mk_ ge gb Wb); have gz0 := HXg.out.c0; have gz1 := HXg.out.c1; clear ge gb Wb) | (go_at_call 50; (with_reducible refine (spec_asGood.calls k (N : Int) _ _ l yi xi true _ (by repeat (first | exact Kd.C_below HR.out HXg.out.bel | (with_reducible refine Kd.C_drewN ?_ _) | (with_reducible refine Kd.C_drew ?_))) HC.out HG.out).mono ?_); rintro e W2 ⟨rfl, hbel_⟩; have HX2 := asd (SpBox.next HXg.out (by first | exact hbel_ | exact below_since hbel_ | exact below_since1 hbel_)); have q0 := HX2.out.c0; have q1 := HX2.out.c1; clear hbel_) | (go_at_call 53; (with_reducible refine (spec_asLeft.calls kL (N : Int) _ _ l yi xi L _ ?ca HC.out HKL.out).mono ?_); (case ca => exact (by repeat (first | exact Kd.C_below HR.out HX2.out.bel | (with_reducible refine Kd.C_drewN ?_ _) | (with_reducible refine Kd.C_drew ?_)))); rintro e W3 ⟨v3, rfl, hR3, hb3⟩; obtain ⟨A3, c3, rfl⟩ := Kd.R_slice hR3; have HX3 := asd (SpBox.next HX2.out (by first | exact hb3 | exact below_since hb3 | exact below_since1 hb3)); clear hR3 hb3; have k0 := HX3.out.c0; have k1 := HX3.out.c1; have HRW3 := asd (Kd.C_below HR.out HX3.out.bel)) | (go_at_call 44; (with_reducible refine (spec_asNew.calls (N : Int) _ _ l _ HN1.out.1 HN1.out.2).mono ?_); rintro e W4 ⟨g3, bw, bt, cw, ct, rfl, hblk, htwo, hrw, hrt, hb3⟩; have HT4 : Aside0 (TabS W3 W4 g3 bw bt cw ct (2 ^ (2 * (N : Int).toNat)) (N : Int) A c l (List.replicate (2 ^ (2 * (N : Int).toNat)) 0) (List.replicate (2 ^ (2 * (N : Int).toNat)) 0)) := ⟨⟨hb3, hblk, htwo, hrw, hrt, MemoT.new _ _, rfl⟩⟩; clear hblk htwo hrw hrt hb3) | (go_at_call 54; (with_reducible refine (HQ.out W3 _ g3 bw bt cw ct _ _ HT4.out HRW3.out).mono ?_); rintro e W5 ⟨rfl, hb5⟩; have HB5 := asd (below_step HX3.out.bel hb5); clear hb5))
    go_ret2
    exact ⟨rfl, HB5.out⟩
  ·
   rw [if_neg hgo] at h
   cases h

/-! ### impl_part: function 82 -/
def impl_part.f (a0 : Int) (a1 : Int) : Option (Bool) := some ((Go.bits .andNot .i64 a0 a1) == 0)
set_option maxHeartbeats 8000000 in
set_option maxRecDepth 100000 in
theorem impl_part.calls (a0 : Int) (a1 : Int) (r : Bool) (w : World) (h : impl_part.f a0 a1 = some r) :
    Calls Try.prog 82 #[.int .i64 a0, .int .i64 a1] w fun e w' => e = .returned (.bool r) ∧ Drawn0 w w' := by
  have H : (some ((Go.bits .andNot .i64 a0 a1) == 0)) = some r := h
  clear h
  obtain rfl := Option.some.inj H
  go_enter Try.func82, Try.ntmps82
  go_wp2
  go_ret
  exact ⟨by first | rfl | (simp; done) | (simp [*]; done), by repeat (first | exact Drawn0.refl _ | apply Drawn0.step)⟩

-- HAND with impl.part
theorem part_ok {x y : Int} (hx : I128 x) (hy : I128 y) : impl_part.f x y = some (decide (nd x.toNat y.toNat = 0)) := by
  unfold impl_part.f
  rw [nd_int hx hy]
  congr 1
  rw [Bool.eq_iff_iff, beq_iff_eq, decide_eq_true_eq]
  omega

/-! ### impl_Space_left: function 55 -/
def impl_Space_left.l0 : Nat → Int → Int → List Int → List Int → Int → Int → Option (List Int)
 | 0, _, _, _, _, _, _ => none
 | k + 1, x1, x2, x7, x12, x13, x14 => if x14 < x13 then (if 0 ≤ x14 then (if x14 < (x12.length : Int) then ((impl_part.f x1 (rd x12 x14)).bind fun t106 => (if t106 = true then (if (Go.bits .and .i64 (rd x12 x14) x2) = 0 then (if x7.length < 17592186044416 then (impl_Space_left.l0 k x1 x2 (x7 ++ [rd x12 x14]) x12 x13 (wrap64 (x14 + 1))) else (none)) else (impl_Space_left.l0 k x1 x2 x7 x12 x13 (wrap64 (x14 + 1)))) else (impl_Space_left.l0 k x1 x2 x7 x12 x13 (wrap64 (x14 + 1))))) else (none)) else (none)) else (some x7)
def impl_Space_left.f (k : Nat) (a0_0 : Int) (l0_1 : List Int) (a1 : Int) (a2 : Int) : Option (List Int) := impl_Space_left.l0 k a1 a2 (([] : List Int)) l0_1 (l0_1.length : Int) 0
theorem impl_Space_left.mono_l : ∀ k, (∀ y0 y1 y2 y3 y4 y5, LeO (impl_Space_left.l0 k y0 y1 y2 y3 y4 y5) (impl_Space_left.l0 (k + 1) y0 y1 y2 y3 y4 y5))
 | 0 => fun _ _ _ _ _ _ r h => by simp [impl_Space_left.l0] at h
 | k + 1 => by
  have ih0 := impl_Space_left.mono_l k
  ·
   intro y0 y1 y2 y3 y4 y5
   unfold impl_Space_left.l0
   repeat' first
   | (with_reducible exact ih0 _ _ _ _ _ _)
   | (with_reducible exact LeO.refl _)
   | (with_reducible exact LeO.none _)
   | (with_reducible refine LeO.ite ?_ ?_)
   | (with_reducible refine LeO.bind ?_ (fun _ => ?_))
   | exact ih0 _ _ _ _ _ _
   | exact LeO.none _
   | refine LeO.ite ?_ ?_
   | refine LeO.bind ?_ (fun _ => ?_)
theorem impl_Space_left.mono : ∀ a0 a1 a2 a3 k, LeO (impl_Space_left.f k a0 a1 a2 a3) (impl_Space_left.f (k + 1) a0 a1 a2 a3) := by
 intro a0 a1 a2 a3 k
 have ih0 := impl_Space_left.mono_l k
 unfold impl_Space_left.f
 repeat' first
   | (with_reducible exact ih0 _ _ _ _ _ _)
   | (with_reducible exact LeO.refl _)
   | (with_reducible exact LeO.none _)
   | (with_reducible refine LeO.ite ?_ ?_)
   | (with_reducible refine LeO.bind ?_ (fun _ => ?_))
   | exact ih0 _ _ _ _ _ _
   | exact LeO.none _
   | refine LeO.ite ?_ ?_
   | refine LeO.bind ?_ (fun _ => ?_)
set_option maxHeartbeats 8000000 in
set_option maxRecDepth 100000 in
theorem impl_Space_left.calls (k : Nat) (a0_0 : Int) (A0_1 : Option Addr) (c0_1 : Nat) (l0_1 : List Int) (a1 : Int) (a2 : Int) (r : List Int) (w : World) (hr0_1 : Kd.C (Kd.int .i64) w A0_1 l0_1.length l0_1) (hc0_1 : l0_1.length ≤ c0_1) (h : impl_Space_left.f k a0_0 l0_1 a1 a2 = some r) :
  Calls Try.prog 55 #[.agg #[.int .i64 a0_0, .slice A0_1 l0_1.length c0_1], .int .i64 a1, .int .i64 a2] w fun e w' => ∃ v0_ : Value, e = .returned (v0_) ∧ Kd.R (Kd.int .i64) 3 w' w.heap.size (fun _ => True) v0_ r ∧ Below w.heap.size w w' := by
 have hu28 := Try.underlying28
 have HR0_1 := asd hr0_1
 have HC0_1 := asd hc0_1
 clear hr0_1 hc0_1
 have HB := asd (Below.refl w.heap.size w)
 have H : (impl_Space_left.l0 k a1 a2 (([] : List Int)) l0_1 (l0_1.length : Int) 0) = some r := h
 clear h
 obtain ⟨y102, hy102⟩ : ∃ y_ : List Int, y_ = (([] : List Int)) := ⟨_, rfl⟩
 replace H : (impl_Space_left.l0 k a1 a2 y102 l0_1 (l0_1.length : Int) 0) = some r := by first | (rw [hy102]; with_reducible exact H) | (have H2_ := (Option.bind_some _ _).symm.trans H; rw [hy102]; with_reducible exact H2_) | (have H2_ := (Option.bind_some _ _).symm.trans H; with_reducible exact H2_) | with_reducible exact H | (rw [hy102]; exact H) | exact H
 have Ny102 := asd hy102
 clear hy102
 have H' := asd H
 clear H
 go_enter Try.func55, Try.ntmps55
 go_wp2_with (first | ((with_reducible refine gate_dst (N := 3) rfl ?_); refine box_event ?hg (N := 3) ?hd (cs := #[.int .i64 a0_0, .slice A0_1 l0_1.length c0_1]) (t := 28) ?hr ?_; (case hd => rfl); (case hg => rfl); (case hr => first | (go_simp; done) | (go_simp; rfl)); intro gb101 hg w4 hbox hb; have n0_ := asd (below_step (by repeat (first | (with_reducible first | exact HB.out | apply below_alloc | apply pw_below_drewN | apply below_drew1) | exact HB.out)) hb); have n1_ := asd (hbox); have n2_ := asd ((by rw [hg]; exact (below_size (by repeat (first | (with_reducible first | exact HB.out | apply below_alloc | apply pw_below_drewN | apply below_drew1) | exact HB.out))) : w.heap.size ≤ gb101)); have n3_ := asd ((by rw [hg]; exact (below_size (by repeat (first | (with_reducible first | exact HB.out | apply below_alloc | apply pw_below_drewN | apply below_drew1) | exact HB.out))) : w.heap.size ≤ gb101)); clear HB; have HB := n0_; have BK101 := n1_; have GW101 := n2_; have GE101 := n3_; clear n0_ n1_ n2_ n3_; clear hb hbox hg) | ((with_reducible refine gate_dst (N := 10) rfl ?_); refine Kd.R_lit (Kd.int .i64) _ 3 ?hg (N := 10) ?hd (xs := ([] : List Int)) (inner := []) (ok := fun _ => True) (okp := fun _ => True) ?hr ?hp (fun _ hk => hk) trivial (Below.refl _ _) (Nat.le_refl _) (by simp) ?_; (case hd => rfl); (case hg => rfl); (case hr => first | (go_simp; done) | (go_simp; rfl)); (case hp => exact (Reps.none _ _)); intro v103 w5 ho6 hb hg_ hnew_; clear hg_ hnew_; (first | rw [← Ny102.out] at ho6 | (simp only [Int.reduceToNat] at ho6; rw [← Ny102.out] at ho6)); have n0_ := asd (Kd.R_lower ho6 (below_size (by repeat (first | (with_reducible first | exact HB.out | apply below_alloc | apply pw_below_drewN | apply below_drew1 | refine below_set ?_ GE101.out) | exact HB.out)))); have n1_ := asd (blk_below (upB BK101.out) hb); have n2_ := asd (below_step (by repeat (first | (with_reducible first | exact HB.out | apply below_alloc | apply pw_below_drewN | apply below_drew1 | refine below_set ?_ GE101.out) | exact HB.out)) hb); clear BK101; clear HB; have HO104 := n0_; have BK101 := n1_; have HB := n2_; clear n0_ n1_ n2_; clear hb ho6; have hcz7_0 : w5.cell? ⟨gb101, 0, none⟩ = some (.int .i64 a0_0) := (blk_cell BK101.out 0).trans rfl; have hcz7_1 : w5.cell? ⟨gb101, 1, none⟩ = some (.slice A0_1 l0_1.length c0_1) := (blk_cell BK101.out 1).trans rfl; have hfz7_0 := blk_frozen BK101.out 0; have hfz7_1 := blk_frozen BK101.out 1))
 go_loopg [7, 14] k (fun kq v7 v14 w' => ∃ (x7_1 : List Int) (x14_1 : Int), v14 = .int .i64 x14_1 ∧ Aside0 (impl_Space_left.l0 kq a1 a2 x7_1 l0_1 (l0_1.length : Int) x14_1 = some r) ∧ Aside0 (kq ≤ k) ∧ Aside0 (Kd.R (Kd.int .i64) 3 w' w.heap.size (fun _ => True) v7 x7_1) ∧ Aside0 (w'.heap[gb101]? = some (.cells #[.int .i64 a0_0, (.slice A0_1 l0_1.length c0_1)] 28 (0, 0))) ∧ Aside0 (Below w.heap.size w w'))
 case atStart => exact ⟨(y102), (0), (by first | rfl | (simp; done) | (simp [*]; done)), H', ⟨Nat.le_refl _⟩, ⟨by (with_reducible repeat (first | apply Kd.R_alloc | apply Kd.R_drewN | apply Kd.R_drew)); exact HO104.out⟩, ⟨by (with_reducible repeat (first | refine blk_drewN ?_ _ | refine blk_drew ?_ | refine blk_alloc ?_ _)); exact BK101.out⟩, ⟨by repeat (first | (with_reducible first | exact HB.out | apply below_alloc | apply pw_below_drewN | apply below_drew1 | refine below_set ?_ GE101.out) | exact HB.out)⟩⟩
 case round =>
  clear H'
  try clear p2
  try clear c5
  try clear hcz7_0
  try clear hcz7_1
  try clear hfz7_0
  try clear hfz7_1
  try clear HO_7; skip
  obtain ⟨x7_1, x14_1, rfl, HA, HK1, HO_7, BK101, HB⟩ := hrel
  cases gk with
  | zero => exact absurd HA.out (by simp [impl_Space_left.l0])
  | succ k1 =>
   have H := HA.out
   clear HA
   simp only [impl_Space_left.l0] at H
   by_cases c8 : x14_1 < (l0_1.length : Int)
   ·
    rw [if_pos c8] at H
    have c8b0 : decide (x14_1 < (l0_1.length : Int)) = true := decide_eq_true c8
    clear c8
    by_cases c9 : 0 ≤ x14_1
    ·
     rw [if_pos c9] at H
     have c9b0 : decide (0 ≤ x14_1) = true := decide_eq_true c9
     clear c9
     by_cases c10 : x14_1 < (l0_1.length : Int)
     ·
      rw [if_pos c10] at H
      have c10b0 : decide (x14_1 < (l0_1.length : Int)) = true := decide_eq_true c10
      clear c10
      replace H := Option.bind_eq_some_iff.mp H
      obtain ⟨t106, A110, H⟩ := H
      replace H : (if t106 = true then (if (Go.bits .and .i64 (rd l0_1 x14_1) a2) = 0 then (if x7_1.length < 17592186044416 then (impl_Space_left.l0 k1 a1 a2 (x7_1 ++ [rd l0_1 x14_1]) l0_1 (l0_1.length : Int) (wrap64 (x14_1 + 1))) else (none)) else (impl_Space_left.l0 k1 a1 a2 x7_1 l0_1 (l0_1.length : Int) (wrap64 (x14_1 + 1)))) else (impl_Space_left.l0 k1 a1 a2 x7_1 l0_1 (l0_1.length : Int) (wrap64 (x14_1 + 1)))) = some r := H
      have A11 := asd A110
      clear A110
      by_cases c12 : t106 = true
      ·
       subst c12
       have H1 : (if (Go.bits .and .i64 (rd l0_1 x14_1) a2) = 0 then (if x7_1.length < 17592186044416 then (impl_Space_left.l0 k1 a1 a2 (x7_1 ++ [rd l0_1 x14_1]) l0_1 (l0_1.length : Int) (wrap64 (x14_1 + 1))) else (none)) else (impl_Space_left.l0 k1 a1 a2 x7_1 l0_1 (l0_1.length : Int) (wrap64 (x14_1 + 1)))) = some r := by rw [if_pos rfl] at H; exact H
       clear H
       have H := H1
       clear H1
       by_cases c13 : (Go.bits .and .i64 (rd l0_1 x14_1) a2) = 0
       ·
        rw [if_pos c13] at H
        have c13b0 : ((Go.bits .and .i64 (rd l0_1 x14_1) a2) == 0) = true := beq_iff_eq.mpr c13
        have c13b1 : ((Go.bits .and .i64 (rd l0_1 x14_1) a2) != 0) = false := bne_eq_false_iff_eq.mpr c13
        clear c13
        by_cases c14 : x7_1.length < 17592186044416
        ·
         rw [if_pos c14] at H
         have LMc14 := asd c14
         clear c14
         obtain ⟨y107, hy107⟩ : ∃ y_ : List Int, y_ = (x7_1 ++ [rd l0_1 x14_1]) := ⟨_, rfl⟩
         replace H : (impl_Space_left.l0 k1 a1 a2 y107 l0_1 (l0_1.length : Int) (wrap64 (x14_1 + 1))) = some r := by first | (rw [hy107]; with_reducible exact H) | (have H2_ := (Option.bind_some _ _).symm.trans H; rw [hy107]; with_reducible exact H2_) | (have H2_ := (Option.bind_some _ _).symm.trans H; with_reducible exact H2_) | with_reducible exact H | (rw [hy107]; exact H) | exact H
         have Ny107 := asd hy107
         clear hy107
         have H' := asd H
         clear H
         have p105 : 0 ≤ (x14_1 : Int) := of_decide_eq_true (by first | (with_reducible assumption) | assumption)
         have q105 : x14_1 < (l0_1.length : Int) := of_decide_eq_true (by first | (with_reducible assumption) | assumption)
         obtain ⟨ad105, e105, hx105_0⟩ := Kd.at_int HR0_1.out x14_1 p105 q105
         cases e105
         replace hx105_0 := (HB.out.cell (World.block_lt_of_cell? w _ hx105_0)).trans hx105_0
         replace p105 := eq_true p105
         replace q105 := eq_true q105
         go_wp2_with (first | ((with_reducible refine gate_callee (f := 82) rfl ?_); refine goesL_ (some 20) rfl rfl Try.func82 (by kernel_rfl) rfl #[.int .i64 a1, .int .i64 (rd l0_1 x14_1)] rfl (by (try simp only [List.map_toArray, List.map_cons, List.map_nil]); first | done | rfl | (simp only [List.length_drop, List.length_take]; rfl)) ?_; (with_reducible refine (impl_part.calls a1 (rd l0_1 x14_1) true _ A11.out).mono ?_); rintro e w' ⟨rfl, ⟨nd, rfl⟩⟩; refine ⟨_, rfl, ?_⟩) | ((with_reducible refine gate_builtin (b := .append) (xs := #[.tmp 27, .tmp 29]) rfl ?_); at_builtin; refine Kd.R_append (Kd.int .i64) (w0 := w) w.heap.size rfl (.tmp 27) (.tmp 29) 22 3 (.int .i64 0) 8 rfl Try.underlying22 info3 rfl (by decide) (by omega) u7 x7_1 (rd l0_1 x14_1) [.int .i64 (rd l0_1 x14_1)] (fun _ => True) (fun _ => False) rfl rfl ?aP (fun _ hk => hk.elim) ?aF ?aO ?aB ?aS ?aL ?_; (case aP => exact rfl); (case aB => exact (by repeat (first | (with_reducible first | exact HB.out | apply below_alloc | apply pw_below_drewN | apply below_drew1 | refine below_set ?_ GE101.out) | exact HB.out))); (case aF => exact (fun _ _ => trivial)); (case aO => exact (upR <| HO_7.out)); (case aS => exact (below_size (by repeat (first | (with_reducible first | exact HB.out | apply below_alloc | apply pw_below_drewN | apply below_drew1 | refine below_set ?_ GE101.out) | exact HB.out)))); (case aL => have := LMc14.out; omega); intro v108 w15 ho hb hg hat; rw [← Ny107.out] at ho; have n0_ := asd (blk_grown (upB BK101.out) hg (Kd.R_ne HO_7.out BK101.out (by decide))); have n1_ := asd (hb); have n2_ := asd (ho); clear BK101; clear HB; clear HO_7; have BK101 := n0_; have HB := n1_; have HO109 := n2_; clear n0_ n1_ n2_; clear ho hb hg hat))
         go_roundg k1
         case measure => have := HK1.out; omega
         case rel => exact ⟨(y107), (wrap64 (x14_1 + 1)), (by first | rfl | (simp; done) | (simp [*]; done)), H', ⟨by have := HK1.out; omega⟩, ⟨by (with_reducible repeat (first | apply Kd.R_alloc | apply Kd.R_drewN | apply Kd.R_drew)); exact HO109.out⟩, ⟨by (with_reducible repeat (first | refine blk_drewN ?_ _ | refine blk_drew ?_ | refine blk_alloc ?_ _)); exact BK101.out⟩, ⟨by repeat (first | (with_reducible first | exact HB.out | apply below_alloc | apply pw_below_drewN | apply below_drew1 | refine below_set ?_ GE101.out) | exact HB.out)⟩⟩
        ·
         rw [if_neg c14] at H
         exact absurd H (by simp)
       ·
        rw [if_neg c13] at H
        have c13b0 : ((Go.bits .and .i64 (rd l0_1 x14_1) a2) == 0) = false := beq_eq_false_iff_ne.mpr c13
        have c13b1 : ((Go.bits .and .i64 (rd l0_1 x14_1) a2) != 0) = true := bne_iff_ne.mpr c13
        have H' := asd H
        clear H
        have p105 : 0 ≤ (x14_1 : Int) := of_decide_eq_true (by first | (with_reducible assumption) | assumption)
        have q105 : x14_1 < (l0_1.length : Int) := of_decide_eq_true (by first | (with_reducible assumption) | assumption)
        obtain ⟨ad105, e105, hx105_0⟩ := Kd.at_int HR0_1.out x14_1 p105 q105
        cases e105
        replace hx105_0 := (HB.out.cell (World.block_lt_of_cell? w _ hx105_0)).trans hx105_0
        replace p105 := eq_true p105
        replace q105 := eq_true q105
        go_wp2_with (first | ((with_reducible refine gate_callee (f := 82) rfl ?_); refine goesL_ (some 20) rfl rfl Try.func82 (by kernel_rfl) rfl #[.int .i64 a1, .int .i64 (rd l0_1 x14_1)] rfl (by (try simp only [List.map_toArray, List.map_cons, List.map_nil]); first | done | rfl | (simp only [List.length_drop, List.length_take]; rfl)) ?_; (with_reducible refine (impl_part.calls a1 (rd l0_1 x14_1) true _ A11.out).mono ?_); rintro e w' ⟨rfl, ⟨nd, rfl⟩⟩; refine ⟨_, rfl, ?_⟩))
        go_roundg k1
        case measure => have := HK1.out; omega
        case rel => exact ⟨(x7_1), (wrap64 (x14_1 + 1)), (by first | rfl | (simp; done) | (simp [*]; done)), H', ⟨by have := HK1.out; omega⟩, ⟨by (with_reducible repeat (first | apply Kd.R_alloc | apply Kd.R_drewN | apply Kd.R_drew)); exact HO_7.out⟩, ⟨by (with_reducible repeat (first | refine blk_drewN ?_ _ | refine blk_drew ?_ | refine blk_alloc ?_ _)); exact BK101.out⟩, ⟨by repeat (first | (with_reducible first | exact HB.out | apply below_alloc | apply pw_below_drewN | apply below_drew1 | refine below_set ?_ GE101.out) | exact HB.out)⟩⟩
      ·
       replace c12 := Bool.eq_false_iff.mpr c12
       subst c12
       have H1 : (impl_Space_left.l0 k1 a1 a2 x7_1 l0_1 (l0_1.length : Int) (wrap64 (x14_1 + 1))) = some r := by rw [if_neg (show ¬ (false = true) by decide)] at H; exact H
       clear H
       have H := H1
       clear H1
       have H' := asd H
       clear H
       have p105 : 0 ≤ (x14_1 : Int) := of_decide_eq_true (by first | (with_reducible assumption) | assumption)
       have q105 : x14_1 < (l0_1.length : Int) := of_decide_eq_true (by first | (with_reducible assumption) | assumption)
       obtain ⟨ad105, e105, hx105_0⟩ := Kd.at_int HR0_1.out x14_1 p105 q105
       cases e105
       replace hx105_0 := (HB.out.cell (World.block_lt_of_cell? w _ hx105_0)).trans hx105_0
       replace p105 := eq_true p105
       replace q105 := eq_true q105
       go_wp2_with (first | ((with_reducible refine gate_callee (f := 82) rfl ?_); refine goesL_ (some 20) rfl rfl Try.func82 (by kernel_rfl) rfl #[.int .i64 a1, .int .i64 (rd l0_1 x14_1)] rfl (by (try simp only [List.map_toArray, List.map_cons, List.map_nil]); first | done | rfl | (simp only [List.length_drop, List.length_take]; rfl)) ?_; (with_reducible refine (impl_part.calls a1 (rd l0_1 x14_1) false _ A11.out).mono ?_); rintro e w' ⟨rfl, ⟨nd, rfl⟩⟩; refine ⟨_, rfl, ?_⟩))
       go_roundg k1
       case measure => have := HK1.out; omega
       case rel => exact ⟨(x7_1), (wrap64 (x14_1 + 1)), (by first | rfl | (simp; done) | (simp [*]; done)), H', ⟨by have := HK1.out; omega⟩, ⟨by (with_reducible repeat (first | apply Kd.R_alloc | apply Kd.R_drewN | apply Kd.R_drew)); exact HO_7.out⟩, ⟨by (with_reducible repeat (first | refine blk_drewN ?_ _ | refine blk_drew ?_ | refine blk_alloc ?_ _)); exact BK101.out⟩, ⟨by repeat (first | (with_reducible first | exact HB.out | apply below_alloc | apply pw_below_drewN | apply below_drew1 | refine below_set ?_ GE101.out) | exact HB.out)⟩⟩
     ·
      rw [if_neg c10] at H
      exact absurd H (by simp)
    ·
     rw [if_neg c9] at H
     exact absurd H (by simp)
   ·
    rw [if_neg c8] at H
    have c8b0 : decide (x14_1 < (l0_1.length : Int)) = false := decide_eq_false c8
    clear c8
    obtain rfl := Option.some.inj H
    go_wp2
    go_ret
    exact ⟨_, by first | rfl | (simp [errW_none, errW_some] <;> rfl) | (simp [*, errW_none, errW_some] <;> rfl), by (with_reducible repeat (first | apply Kd.R_alloc | apply Kd.R_drewN | apply Kd.R_drew)); exact HO_7.out, by repeat (first | (with_reducible first | exact HB.out | apply below_alloc | apply pw_below_drewN | apply below_drew1 | refine below_set ?_ GE101.out) | exact HB.out)⟩

-- HAND with (impl.Space).left
theorem left_loop (l : List Int) (y n : Int) (hy : I128 y) (hn : I128 n) (hM : ∀ x ∈ l, I128 x) (hlen : l.length < 17592186044416) : ∀ (b a out : List Int), a ++ b = l → out.length ≤ a.length → Ev (fun k => impl_Space_left.l0 k y n out l l.length a.length) (out ++ b.filter (keeps y n))
  | [], a, out, hab, ho => by
    rw [List.append_nil] at hab
    subst hab
    exact Ev.succ (fun k => by simp only [impl_Space_left.l0]; rw [if_neg (by omega)]) (Ev.const (by simp))
  | x :: b, a, out, hab, ho => by
    have hlt : a.length < l.length := by rw [← hab]; simp
    have hrd : rd l (a.length : Int) = x := by rw [← hab]; exact rd_append a b x
    have hx := hM x (by rw [← hab]; simp)
    have hk : keeps y n x = (decide (nd y.toNat x.toNat = 0) && decide (x.toNat &&& n.toNat = 0)) := rfl
    have hrest : ∀ out' : List Int, out'.length ≤ a.length + 1 → Ev (fun k => impl_Space_left.l0 k y n out' l l.length (wrap64 ((a.length : Int) + 1))) (out' ++ b.filter (keeps y n)) := fun out' ho' => by
      have := left_loop l y n hy hn hM hlen b (a ++ [x]) out' (by rw [List.append_assoc]; exact hab) (by simpa using ho')
      rw [List.length_append, List.length_singleton] at this
      rw [wrap_succ (by omega) (by omega)]
      push_cast at this
      exact this
    refine Ev.succ (fun k => by simp only [impl_Space_left.l0]; rw [if_pos (by omega), if_pos (by omega), if_pos (by omega), hrd]) ?_
    refine Ev.bindc (part_ok hy hx) ?_
    cases h1 : decide (nd y.toNat x.toNat = 0) with
    | false =>
      rw [List.filter_cons_of_neg (by rw [hk, h1]; simp)]
      exact Ev.to (fun k => by rw [if_neg (by decide)]) (hrest out (by omega))
    | true =>
      by_cases h2 : x.toNat &&& n.toNat = 0
      · rw [List.filter_cons_of_pos (by rw [hk, h1]; simpa using h2)]
        refine Ev.to (fun k => by rw [if_pos rfl, and_int hx hn, if_pos (by omega), if_pos (by omega)]) (Ev.val (hrest (out ++ [x]) (by simp; omega)) (by simp))
      · rw [List.filter_cons_of_neg (by rw [hk, h1]; simpa using h2)]
        exact Ev.to (fun k => by rw [if_pos rfl, and_int hx hn, if_neg (by omega)]) (hrest out (by omega))
theorem left_ok {l : List Int} (a0 : Int) {y n : Int} (hy : I128 y) (hn : I128 n) (hM : ∀ x ∈ l, I128 x) (hlen : l.length < 17592186044416) : Ev (fun k => impl_Space_left.f k a0 l y n) (leftL l y n) := left_loop l y n hy hn hM hlen l [] [] rfl (Nat.le_refl _)

/-! ### impl_within: function 61 -/
def impl_within.f (a0 : Int) (a1 : Int) (a2 : Int) : Option (Bool) := if a1 ≤ a0 then (some (decide (a0 ≤ a2))) else (some false)
set_option maxHeartbeats 8000000 in
set_option maxRecDepth 100000 in
theorem impl_within.calls (a0 : Int) (a1 : Int) (a2 : Int) (r : Bool) (w : World) (h : impl_within.f a0 a1 a2 = some r) :
    Calls Try.prog 61 #[.int .i64 a0, .int .i64 a1, .int .i64 a2] w fun e w' => e = .returned (.bool r) ∧ Drawn0 w w' := by
  have H : (if a1 ≤ a0 then (some (decide (a0 ≤ a2))) else (some false)) = some r := h
  clear h
  by_cases c4 : a1 ≤ a0
  · rw [if_pos c4] at H
    have c4b0 : decide (a1 ≤ a0) = true := decide_eq_true c4
    clear c4
    obtain rfl := Option.some.inj H
    go_enter Try.func61, Try.ntmps61
    go_wp2
    go_ret
    exact ⟨by first | rfl | (simp; done) | (simp [*]; done), by repeat (first | exact Drawn0.refl _ | apply Drawn0.step)⟩
  · rw [if_neg c4] at H
    have c4b0 : decide (a1 ≤ a0) = false := decide_eq_false c4
    clear c4
    obtain rfl := Option.some.inj H
    go_enter Try.func61, Try.ntmps61
    go_wp2
    go_ret
    exact ⟨by first | rfl | (simp; done) | (simp [*]; done), by repeat (first | exact Drawn0.refl _ | apply Drawn0.step)⟩

/-! ### impl_isSet: function 101 -/
def impl_isSet.f (a0 : Int) (a1 : Int) : Option (Bool) := if 0 ≤ a0 then ((impl_within.f a1 0 (wrap64 ((shl .i64 1 a0) - 1))).bind fun t101 => (some t101)) else (none)
set_option maxHeartbeats 8000000 in
set_option maxRecDepth 100000 in
theorem impl_isSet.calls (a0 : Int) (a1 : Int) (r : Bool) (w : World) (h : impl_isSet.f a0 a1 = some r) :
    Calls Try.prog 101 #[.int .i64 a0, .int .i64 a1] w fun e w' => e = .returned (.bool r) ∧ Drawn0 w w' := by
  have H : (if 0 ≤ a0 then ((impl_within.f a1 0 (wrap64 ((shl .i64 1 a0) - 1))).bind fun t101 => (some t101)) else (none)) = some r := h
  clear h
  by_cases c3 : 0 ≤ a0
  · rw [if_pos c3] at H
    have c3b0 := eq_true c3
    have c3b1 : decide (0 ≤ a0) = true := decide_eq_true c3
    clear c3
    obtain ⟨ji4, hji4⟩ : ∃ j_ : Int, (shl .i64 1 a0) = j_ := ⟨_, rfl⟩
    replace H : ((impl_within.f a1 0 (wrap64 ((ji4) - 1))).bind fun t101 => (some t101)) = some r := by first | (rw [hji4] at H; exact H) | (simp only [hji4] at H ⊢; exact H)
    have hji4_ : (IntKind.i64.wrap (1 * 2 ^ min a0.toNat 64)) = ji4 := hji4
    have hji4z : a0 ≤ 64 → (IntKind.i64.wrap (1 * 2 ^ a0.toNat)) = ji4 := shl_small hji4
    have hji4u : (IntKind.i64.wrap (2 ^ min a0.toNat 64)) = ji4 := by have h_ := hji4_; rw [Int.one_mul] at h_; exact h_
    have hji4v : a0 ≤ 64 → (IntKind.i64.wrap (2 ^ a0.toNat)) = ji4 := fun hle_ => by have h_ := hji4z hle_; rw [Int.one_mul] at h_; exact h_
    have hji4y : (wrap64 (1 * 2 ^ min a0.toNat 64)) = ji4 := (i64_w _).symm.trans hji4_
    have hji4x : a0 ≤ 64 → (wrap64 (1 * 2 ^ a0.toNat)) = ji4 := fun h_ => (i64_w _).symm.trans (hji4z h_)
    replace H := Option.bind_eq_some_iff.mp H
    obtain ⟨t101, A50, H⟩ := H
    replace H : (some t101) = some r := H
    have A5 := Aside0.mk A50
    clear A50
    obtain rfl := Option.some.inj H
    go_enter Try.func101, Try.ntmps101
    go_wp2_with (first | ((with_reducible refine gate_callee (f := 61) rfl ?_); refine goesL_ (some 9) rfl rfl Try.func61 (by kernel_rfl) rfl #[.int .i64 a1, .int .i64 0, .int .i64 (wrap64 ((ji4) - 1))] rfl (by (try simp only [List.map_toArray, List.map_cons, List.map_nil]); first | done | (simp only [hji4]; rfl) | rfl | (simp only [List.length_drop, List.length_take]; rfl)) ?_; (with_reducible refine (impl_within.calls a1 0 (wrap64 ((ji4) - 1)) t101 _ A5.out).mono ?_); rintro e w' ⟨rfl, ⟨nd, rfl⟩⟩; refine ⟨_, rfl, ?_⟩))
    go_ret
    exact ⟨by first | rfl | (simp; done) | (simp only [← hji4] <;> (first | rfl | simp)) | (simp [*]; done), by repeat (first | exact Drawn0.refl _ | apply Drawn0.step)⟩
  · rw [if_neg c3] at H
    exact absurd H (by simp)

-- HAND with impl.isSet
theorem isSet_ok (n x : Int) (h0 : 0 ≤ n) (h1 : n ≤ 7) : impl_isSet.f n x = some (decide (0 ≤ x) && decide (x < 2 ^ n.toNat)) := by
  unfold impl_isSet.f impl_within.f
  rw [if_pos h0, wrapPow h0 h1]
  by_cases h : 0 ≤ x
  · rw [if_pos h]
    simp only [Option.bind_some, h, decide_true, Bool.true_and]
    congr 1
    exact decide_eq_decide.2 (by omega)
  · rw [if_neg h]; simp [h]

/-! ### impl_isSize: function 100 -/
def impl_isSize.f (a0 : Int) : Option (Bool) := (impl_within.f a0 1 7).bind fun t101 => (some t101)
set_option maxHeartbeats 8000000 in
set_option maxRecDepth 100000 in
theorem impl_isSize.calls (a0 : Int) (r : Bool) (w : World) (h : impl_isSize.f a0 = some r) :
    Calls Try.prog 100 #[.int .i64 a0] w fun e w' => e = .returned (.bool r) ∧ Drawn0 w w' := by
  have H : ((impl_within.f a0 1 7).bind fun t101 => (some t101)) = some r := h
  clear h
  replace H := Option.bind_eq_some_iff.mp H
  obtain ⟨t101, A20, H⟩ := H
  replace H : (some t101) = some r := H
  have A2 := Aside0.mk A20
  clear A20
  obtain rfl := Option.some.inj H
  go_enter Try.func100, Try.ntmps100
  go_wp2_with (first | ((with_reducible refine gate_callee (f := 61) rfl ?_); refine goesL_ (some 4) rfl rfl Try.func61 (by kernel_rfl) rfl #[.int .i64 a0, .int .i64 1, .int .i64 7] rfl (by (try simp only [List.map_toArray, List.map_cons, List.map_nil]); first | done | rfl | (simp only [List.length_drop, List.length_take]; rfl)) ?_; (with_reducible refine (impl_within.calls a0 1 7 t101 _ A2.out).mono ?_); rintro e w' ⟨rfl, ⟨nd, rfl⟩⟩; refine ⟨_, rfl, ?_⟩))
  go_ret
  exact ⟨by first | rfl | (simp; done) | (simp [*]; done), by repeat (first | exact Drawn0.refl _ | apply Drawn0.step)⟩

-- HAND with impl.isSize
theorem isSize_ok (n : Int) : impl_isSize.f n = some (decide (1 ≤ n) && decide (n ≤ 7)) := by
  unfold impl_isSize.f impl_within.f
  by_cases h : 1 ≤ n
  · rw [if_pos h]; simp [h]
  · rw [if_neg h]; simp [h]

-- HAND impl_Space_family: function 102
set_option maxHeartbeats 8000000 in
set_option maxRecDepth 100000 in
theorem impl_Space_family.walk (a0 : Int) (A : Option Addr) (c : Nat) (l : List Int) (w : World) (hr : Kd.C (Kd.int .i64) w A l.length l) (hc : l.length ≤ c) (hl : ∀ x ∈ l, 0 ≤ x ∧ x < 128) :
    Calls Try.prog 102 #[.agg #[.int .i64 a0, .slice A l.length c]] w fun e w' => ∃ b, e = .returned (.pointer (some ⟨b, 0, none⟩)) ∧ FamAt w' b (famOf l) ∧ w.heap.size ≤ b ∧ Below w.heap.size w w' := by
  have HL := Aside0.mk hl
  have HR := Aside0.mk hr
  have HC := Aside0.mk hc
  have HM := Aside0.mk (Kd.C_max hr)
  clear hl hr hc
  go_enter Try.func102, Try.ntmps102
  go_wp2
  go_loopw [11] (fun v11 wr => ∃ k : Nat, Aside0 (k ≤ l.length) ∧ v11 = .int .i64 k ∧ Aside0 (FamAt wr (w.heap.size + 1) (famOf (l.take k))) ∧ Aside0 (Below w.heap.size w wr)) (fun v11 _ => l.length - (intOf v11).toNat)
  case atStart =>
    refine ⟨0, ⟨Nat.zero_le _⟩, rfl, ⟨?_⟩, ⟨below_alloc (below_alloc (Below.refl _ _) _) _⟩⟩
    have := FamAt.new (w.alloc (.cells #[.int .i64 a0, .slice A l.length c] 28)) (famOf []) (famOf_length _)
    rw [← zeroFam] at this
    simpa using this
  case round =>
    obtain ⟨k, hk, rfl, HF, HB⟩ := hrel
    by_cases hlt : k < l.length
    · obtain ⟨ad, e, hcell⟩ := Kd.at_int (Kd.C_below HR.out HB.out) (k : Int) (by omega) (by omega)
      have hx := HL.out _ (rd_mem (l := l) (i := (k : Int)) (by omega) (by omega))
      have HT := Aside0.mk (take_rd l k hlt)
      obtain ⟨x, hX⟩ : ∃ x, x = rd l k := ⟨_, rfl⟩
      rw [← hX] at hx hcell HT
      clear hX
      cases e
      rw [Int.toNat_natCast] at hcell
      obtain ⟨h0, h1⟩ := hx
      have hfc := HF.out.at_ x h0 h1
      have hfr := HF.out.fr x.toNat
      have hm := HM.out
      go_wp2
      go_roundw
      case rel =>
        refine ⟨k + 1, ⟨by omega⟩, by go_num, ⟨?_⟩, ⟨?_⟩⟩
        · rw [HT.out, ← famOf_snoc _ _ h0]
          exact HF.out.set _ _
        · exact below_set HB.out (Nat.le_succ _)
      case measure => simp [intOf]; omega
    · have hk' := hk.out
      obtain rfl : k = l.length := by omega
      have hm := HM.out
      go_wp2
      go_ret
      refine ⟨_, rfl, ?_, Nat.le_succ _, HB.out⟩
      have := HF.out
      rwa [List.take_length] at this
/-- The family of a list of sets, if they are such. -/
def impl_Space_family.f (a0_0 : Int) (l0_1 : List Int) : Option (List Bool) := if (l0_1.all fun x => decide (0 ≤ x) && decide (x < 128)) = true then some (famOf l0_1) else none
theorem impl_Space_family.len {a0_0 : Int} {l0_1 : List Int} {r : List Bool} (h : impl_Space_family.f a0_0 l0_1 = some r) : r.length = 128 := by
  unfold impl_Space_family.f at h
  split at h
  · rw [← Option.some.inj h]; exact famOf_length _
  · cases h
theorem impl_Space_family.calls (a0_0 : Int) (A0_1 : Option Addr) (c0_1 : Nat) (l0_1 : List Int) (r : List Bool) (w : World) (hr0_1 : Kd.C (Kd.int .i64) w A0_1 l0_1.length l0_1) (hc0_1 : l0_1.length ≤ c0_1) (h : impl_Space_family.f a0_0 l0_1 = some r) :
    Calls Try.prog 102 #[.agg #[.int .i64 a0_0, .slice A0_1 l0_1.length c0_1]] w fun e w' => ∃ v0_ : Value, e = .returned (ptrOf v0_) ∧ Kd.R Kd.bool 126 w' w.heap.size (fun _ => True) v0_ r ∧ Below w.heap.size w w' := by
  unfold impl_Space_family.f at h
  split at h
  · rename_i hl
    rw [List.all_eq_true] at hl
    have e := Option.some.inj h
    subst e
    refine (impl_Space_family.walk a0_0 A0_1 c0_1 l0_1 w hr0_1 hc0_1 (fun x hx => by have := hl x hx; simpa using this)).mono ?_
    rintro e w' ⟨b, rfl, HF, hb, hbel⟩
    exact ⟨_, rfl, HF.own hb, hbel⟩
  · cases h

/-! ### impl_Space_all: function 103 -/
def impl_Space_all.f (a0_0 : Int) (l0_1 : List Int) : Option (Int) := if 0 ≤ a0_0 then (some (wrap64 ((shl .i64 1 a0_0) - 1))) else (none)
set_option maxHeartbeats 8000000 in
set_option maxRecDepth 100000 in
theorem impl_Space_all.calls (a0_0 : Int) (A0_1 : Option Addr) (c0_1 : Nat) (l0_1 : List Int) (r : Int) (w : World) (hr0_1 : Kd.C (Kd.int .i64) w A0_1 l0_1.length l0_1) (hc0_1 : l0_1.length ≤ c0_1) (h : impl_Space_all.f a0_0 l0_1 = some r) :
    Calls Try.prog 103 #[.agg #[.int .i64 a0_0, .slice A0_1 l0_1.length c0_1]] w fun e w' => e = .returned (.int .i64 r) ∧ Below w.heap.size w w' := by
  have hu28 := Try.underlying28
  have HR0_1 := Aside0.mk hr0_1
  have HC0_1 := Aside0.mk hc0_1
  clear hr0_1 hc0_1
  have HB := Aside0.mk (Below.refl w.heap.size w)
  have H : (if 0 ≤ a0_0 then (some (wrap64 ((shl .i64 1 a0_0) - 1))) else (none)) = some r := h
  clear h
  by_cases c2 : 0 ≤ a0_0
  · rw [if_pos c2] at H
    have c2b0 := eq_true c2
    have c2b1 : decide (0 ≤ a0_0) = true := decide_eq_true c2
    clear c2
    obtain ⟨ji3, hji3⟩ : ∃ j_ : Int, (shl .i64 1 a0_0) = j_ := ⟨_, rfl⟩
    replace H : (some (wrap64 ((ji3) - 1))) = some r := by first | (rw [hji3] at H; exact H) | (simp only [hji3] at H ⊢; exact H)
    have hji3_ : (IntKind.i64.wrap (1 * 2 ^ min a0_0.toNat 64)) = ji3 := hji3
    have hji3z : a0_0 ≤ 64 → (IntKind.i64.wrap (1 * 2 ^ a0_0.toNat)) = ji3 := shl_small hji3
    have hji3u : (IntKind.i64.wrap (2 ^ min a0_0.toNat 64)) = ji3 := by have h_ := hji3_; rw [Int.one_mul] at h_; exact h_
    have hji3v : a0_0 ≤ 64 → (IntKind.i64.wrap (2 ^ a0_0.toNat)) = ji3 := fun hle_ => by have h_ := hji3z hle_; rw [Int.one_mul] at h_; exact h_
    have hji3y : (wrap64 (1 * 2 ^ min a0_0.toNat 64)) = ji3 := (i64_w _).symm.trans hji3_
    have hji3x : a0_0 ≤ 64 → (wrap64 (1 * 2 ^ a0_0.toNat)) = ji3 := fun h_ => (i64_w _).symm.trans (hji3z h_)
    obtain rfl := Option.some.inj H
    go_enter Try.func103, Try.ntmps103
    go_wp2_with (first | ((with_reducible refine gate_dst (N := 1) rfl ?_); refine box_event ?hg (N := 1) ?hd (cs := #[.int .i64 a0_0, .slice A0_1 l0_1.length c0_1]) (t := 28) ?hr ?_; (case hd => rfl); (case hg => rfl); (case hr => first | (go_simp; done) | (go_simp; rfl)); intro gb101 hg w4 hbox hb; have n0_ := Aside0.mk (below_step (by repeat (first | (with_reducible first | exact HB.out | apply below_alloc | apply pw_below_drewN | apply below_drew1) | exact HB.out)) hb); have n1_ := Aside0.mk (hbox); have n2_ := Aside0.mk ((by rw [hg]; exact (below_size (by repeat (first | (with_reducible first | exact HB.out | apply below_alloc | apply pw_below_drewN | apply below_drew1) | exact HB.out))) : w.heap.size ≤ gb101)); have n3_ := Aside0.mk ((by rw [hg]; exact (below_size (by repeat (first | (with_reducible first | exact HB.out | apply below_alloc | apply pw_below_drewN | apply below_drew1) | exact HB.out))) : w.heap.size ≤ gb101)); clear HB; have HB := n0_; have BK101 := n1_; have GW101 := n2_; have GE101 := n3_; clear n0_ n1_ n2_ n3_; clear hb hbox hg; have hcz5_0 : w4.cell? ⟨gb101, 0, none⟩ = some (.int .i64 a0_0) := (blk_cell BK101.out 0).trans rfl; have hcz5_1 : w4.cell? ⟨gb101, 1, none⟩ = some (.slice A0_1 l0_1.length c0_1) := (blk_cell BK101.out 1).trans rfl; have hfz5_0 := blk_frozen BK101.out 0; have hfz5_1 := blk_frozen BK101.out 1))
    go_ret
    exact ⟨by first | rfl | (simp [errW_none, errW_some] <;> rfl) | (simp only [← hji3]; first | rfl | (simp [errW_none, errW_some] <;> rfl)) | (simp [*, errW_none, errW_some] <;> rfl), by repeat (first | (with_reducible first | exact HB.out | apply below_alloc | apply pw_below_drewN | apply below_drew1 | refine below_set ?_ GE101.out) | exact HB.out)⟩
  · rw [if_neg c2] at H
    exact absurd H (by simp)

-- HAND with (impl.Space).all
theorem all_ok (n : Int) (l : List Int) (h0 : 0 ≤ n) (h1 : n ≤ 7) : impl_Space_all.f n l = some (2 ^ n.toNat - 1) := by
  unfold impl_Space_all.f
  rw [if_pos h0, wrapPow h0 h1]

end Go.Proofs.Ytkepeflplmkcmaa.Q
