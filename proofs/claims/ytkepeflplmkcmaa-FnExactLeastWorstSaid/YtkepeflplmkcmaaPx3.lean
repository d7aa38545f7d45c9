/- Contracts of functions that the laws reach: a call returns what the plain Lean function of the same name tells. Conditions: those of each theorem. Made by gen.py, a program of this session, over the print of the translation. -/
import Derived.Test.YtkepeflplmkcmaaPx0
import Derived.Test.YtkepeflplmkcmaaPx1
import Derived.Test.YtkepeflplmkcmaaPx2
namespace Go.Proofs.Ytkepeflplmkcmaa.Q
open Go.RowKit Go.Proofs.YtkepeflplmkcmaaW.PrintWords Go.Proofs.YtkepeflplmkcmaaW.PrintLast Go.Proofs.YtkepeflplmkcmaaW.PrintMore
attribute [local go_sem] max2_int min2_int max_two min_two max_three min_three max_four min_four   -- for this text's walks alone
set_option linter.unusedVariables false
set_option linter.unusedSimpArgs false

/-! ### laws_eqSpace: function 15 -/
def laws_eqSpace.f (k : Nat) (a0_0 : Int) (l0_1 : List Int) (a1_0 : Int) (l1_1 : List Int) : Option (Bool) := if a0_0 = a1_0 then ((laws_eqIntS.f k l0_1 l1_1).bind fun t103 => (if t103 = true then (some true) else (some false))) else (some false)
theorem laws_eqSpace.mono : ∀ a0 a1 a2 a3 k, LeO (laws_eqSpace.f k a0 a1 a2 a3) (laws_eqSpace.f (k + 1) a0 a1 a2 a3) := by
 intro a0 a1 a2 a3 k
 unfold laws_eqSpace.f
 repeat' first
   | (with_reducible exact laws_eqIntS.mono _ _ _)
   | (with_reducible exact LeO.refl _)
   | (with_reducible exact LeO.none _)
   | (with_reducible refine LeO.ite ?_ ?_)
   | (with_reducible refine LeO.bind ?_ (fun _ => ?_))
   | exact laws_eqIntS.mono _ _ _
   | exact LeO.none _
   | refine LeO.ite ?_ ?_
   | refine LeO.bind ?_ (fun _ => ?_)
set_option maxHeartbeats 8000000 in
set_option maxRecDepth 100000 in
theorem laws_eqSpace.calls (k : Nat) (a0_0 : Int) (A0_1 : Option Addr) (c0_1 : Nat) (l0_1 : List Int) (a1_0 : Int) (A1_1 : Option Addr) (c1_1 : Nat) (l1_1 : List Int) (r : Bool) (w : World) (hr0_1 : Kd.C (Kd.int .i64) w A0_1 l0_1.length l0_1) (hc0_1 : l0_1.length ≤ c0_1) (hr1_1 : Kd.C (Kd.int .i64) w A1_1 l1_1.length l1_1) (hc1_1 : l1_1.length ≤ c1_1) (h : laws_eqSpace.f k a0_0 l0_1 a1_0 l1_1 = some r) :
  Calls Try.prog 15 #[.agg #[.int .i64 a0_0, .slice A0_1 l0_1.length c0_1], .agg #[.int .i64 a1_0, .slice A1_1 l1_1.length c1_1]] w fun e w' => e = .returned (.bool r) ∧ Below w.heap.size w w' := by
 have hu28 := Try.underlying28
 have HR0_1 := asd hr0_1
 have HC0_1 := asd hc0_1
 clear hr0_1 hc0_1
 have HR1_1 := asd hr1_1
 have HC1_1 := asd hc1_1
 clear hr1_1 hc1_1
 have HB := asd (Below.refl w.heap.size w)
 have H : (if a0_0 = a1_0 then ((laws_eqIntS.f k l0_1 l1_1).bind fun t103 => (if t103 = true then (some true) else (some false))) else (some false)) = some r := h
 clear h
 by_cases c3 : a0_0 = a1_0
 ·
  rw [if_pos c3] at H
  have c3b0 : (a0_0 == a1_0) = true := beq_iff_eq.mpr c3
  have c3b1 : (a0_0 != a1_0) = false := bne_eq_false_iff_eq.mpr c3
  clear c3
  replace H := Option.bind_eq_some_iff.mp H
  obtain ⟨t103, A40, H⟩ := H
  replace H : (if t103 = true then (some true) else (some false)) = some r := H
  have A4 := asd A40
  clear A40
  by_cases c5 : t103 = true
  ·
   subst c5
   have H1 : (some true) = some r := by rw [if_pos rfl] at H; exact H
   clear H
   have H := H1
   clear H1
   obtain rfl := Option.some.inj H
   go_enter Try.func15, Try.ntmps15
   go_wp2_with (first | ((with_reducible refine gate_dst (N := 2) rfl ?_); refine box_event ?hg (N := 2) ?hd (cs := #[.int .i64 a0_0, .slice A0_1 l0_1.length c0_1]) (t := 28) ?hr ?_; (case hd => rfl); (case hg => rfl); (case hr => first | (go_simp; done) | (go_simp; rfl)); intro gb101 hg w6 hbox hb; have n0_ := asd (below_step (by repeat (first | (with_reducible first | exact HB.out | apply below_alloc | apply pw_below_drewN | apply below_drew1) | exact HB.out)) hb); have n1_ := asd (hbox); have n2_ := asd ((by rw [hg]; exact (below_size (by repeat (first | (with_reducible first | exact HB.out | apply below_alloc | apply pw_below_drewN | apply below_drew1) | exact HB.out))) : w.heap.size ≤ gb101)); have n3_ := asd ((by rw [hg]; exact (below_size (by repeat (first | (with_reducible first | exact HB.out | apply below_alloc | apply pw_below_drewN | apply below_drew1) | exact HB.out))) : w.heap.size ≤ gb101)); clear HB; have HB := n0_; have BK101 := n1_; have GW101 := n2_; have GE101 := n3_; clear n0_ n1_ n2_ n3_; clear hb hbox hg) | ((with_reducible refine gate_dst (N := 3) rfl ?_); refine box_event ?hg (N := 3) ?hd (cs := #[.int .i64 a1_0, .slice A1_1 l1_1.length c1_1]) (t := 28) ?hr ?_; (case hd => rfl); (case hg => rfl); (case hr => first | (go_simp; done) | (go_simp; rfl)); intro gb102 hg w7 hbox hb; have n0_ := asd (blk_below (upB BK101.out) hb); have n1_ := asd (below_step (by repeat (first | (with_reducible first | exact HB.out | apply below_alloc | apply pw_below_drewN | apply below_drew1 | refine below_set ?_ GE101.out) | exact HB.out)) hb); have n2_ := asd (hbox); have n3_ := asd ((by rw [hg]; exact (below_size (by repeat (first | (with_reducible first | exact HB.out | apply below_alloc | apply pw_below_drewN | apply below_drew1 | refine below_set ?_ GE101.out) | exact HB.out))) : w.heap.size ≤ gb102)); have n4_ := asd ((by rw [hg]; exact (below_size (by repeat (first | (with_reducible first | exact HB.out | apply below_alloc | apply pw_below_drewN | apply below_drew1 | refine below_set ?_ GE101.out) | exact HB.out))) : w.heap.size ≤ gb102)); have n5_ := asd ((by rw [hg]; exact Nat.ne_of_lt (blk_lt (upB BK101.out)) : gb101 ≠ gb102)); have n6_ := asd ((by rw [hg]; exact Nat.ne_of_gt (blk_lt (upB BK101.out)) : gb102 ≠ gb101)); clear BK101; clear HB; have BK101 := n0_; have HB := n1_; have BK102 := n2_; have GW102 := n3_; have GE102 := n4_; have NB101_102 := n5_; have NB102_101 := n6_; clear n0_ n1_ n2_ n3_ n4_ n5_ n6_; clear hb hbox hg; have hnb8 := NB101_102.out; have hnc8 := NB102_101.out; have hcz9_0 : w7.cell? ⟨gb101, 0, none⟩ = some (.int .i64 a0_0) := (blk_cell BK101.out 0).trans rfl; have hcz9_1 : w7.cell? ⟨gb101, 1, none⟩ = some (.slice A0_1 l0_1.length c0_1) := (blk_cell BK101.out 1).trans rfl; have hfz9_0 := blk_frozen BK101.out 0; have hfz9_1 := blk_frozen BK101.out 1; have hcz10_0 : w7.cell? ⟨gb102, 0, none⟩ = some (.int .i64 a1_0) := (blk_cell BK102.out 0).trans rfl; have hcz10_1 : w7.cell? ⟨gb102, 1, none⟩ = some (.slice A1_1 l1_1.length c1_1) := (blk_cell BK102.out 1).trans rfl; have hfz10_0 := blk_frozen BK102.out 0; have hfz10_1 := blk_frozen BK102.out 1) | ((with_reducible refine gate_callee (f := 22) rfl ?_); refine goesL_ (some 14) rfl rfl Try.func22 (by kernel_rfl) rfl #[.slice A0_1 l0_1.length c0_1, .slice A1_1 l1_1.length c1_1] rfl (by (try simp only [List.map_toArray, List.map_cons, List.map_nil]); first | done | rfl | (simp only [List.length_drop, List.length_take]; rfl)) ?_; (with_reducible refine (laws_eqIntS.calls k _ _ l0_1 _ _ l1_1 true _ ?side1 ?side2 ?side3 ?side4 A4.out).mono ?_); (case side1 => repeat (first | exact (Kd.C_below HR0_1.out HB.out) | (with_reducible refine Kd.C_alloc ?_ _) | (with_reducible refine Kd.C_drewN ?_ _) | (with_reducible refine Kd.C_drew ?_))); (case side2 => exact HC0_1.out); (case side3 => repeat (first | exact (Kd.C_below HR1_1.out HB.out) | (with_reducible refine Kd.C_alloc ?_ _) | (with_reducible refine Kd.C_drewN ?_ _) | (with_reducible refine Kd.C_drew ?_))); (case side4 => exact HC1_1.out); rintro e w' ⟨rfl, ⟨nd, rfl⟩⟩; refine ⟨_, rfl, ?_⟩))
   go_ret
   exact ⟨by first | rfl | (simp [errW_none, errW_some] <;> rfl) | (simp [*, errW_none, errW_some] <;> rfl), by repeat (first | (with_reducible first | exact HB.out | apply below_alloc | apply pw_below_drewN | apply below_drew1 | refine below_set ?_ GE101.out | refine below_set ?_ GE102.out) | exact HB.out)⟩
  ·
   replace c5 := Bool.eq_false_iff.mpr c5
   subst c5
   have H1 : (some false) = some r := by rw [if_neg (show ¬ (false = true) by decide)] at H; exact H
   clear H
   have H := H1
   clear H1
   obtain rfl := Option.some.inj H
   go_enter Try.func15, Try.ntmps15
   go_wp2_with (first | ((with_reducible refine gate_dst (N := 2) rfl ?_); refine box_event ?hg (N := 2) ?hd (cs := #[.int .i64 a0_0, .slice A0_1 l0_1.length c0_1]) (t := 28) ?hr ?_; (case hd => rfl); (case hg => rfl); (case hr => first | (go_simp; done) | (go_simp; rfl)); intro gb101 hg w11 hbox hb; have n0_ := asd (below_step (by repeat (first | (with_reducible first | exact HB.out | apply below_alloc | apply pw_below_drewN | apply below_drew1) | exact HB.out)) hb); have n1_ := asd (hbox); have n2_ := asd ((by rw [hg]; exact (below_size (by repeat (first | (with_reducible first | exact HB.out | apply below_alloc | apply pw_below_drewN | apply below_drew1) | exact HB.out))) : w.heap.size ≤ gb101)); have n3_ := asd ((by rw [hg]; exact (below_size (by repeat (first | (with_reducible first | exact HB.out | apply below_alloc | apply pw_below_drewN | apply below_drew1) | exact HB.out))) : w.heap.size ≤ gb101)); clear HB; have HB := n0_; have BK101 := n1_; have GW101 := n2_; have GE101 := n3_; clear n0_ n1_ n2_ n3_; clear hb hbox hg) | ((with_reducible refine gate_dst (N := 3) rfl ?_); refine box_event ?hg (N := 3) ?hd (cs := #[.int .i64 a1_0, .slice A1_1 l1_1.length c1_1]) (t := 28) ?hr ?_; (case hd => rfl); (case hg => rfl); (case hr => first | (go_simp; done) | (go_simp; rfl)); intro gb102 hg w12 hbox hb; have n0_ := asd (blk_below (upB BK101.out) hb); have n1_ := asd (below_step (by repeat (first | (with_reducible first | exact HB.out | apply below_alloc | apply pw_below_drewN | apply below_drew1 | refine below_set ?_ GE101.out) | exact HB.out)) hb); have n2_ := asd (hbox); have n3_ := asd ((by rw [hg]; exact (below_size (by repeat (first | (with_reducible first | exact HB.out | apply below_alloc | apply pw_below_drewN | apply below_drew1 | refine below_set ?_ GE101.out) | exact HB.out))) : w.heap.size ≤ gb102)); have n4_ := asd ((by rw [hg]; exact (below_size (by repeat (first | (with_reducible first | exact HB.out | apply below_alloc | apply pw_below_drewN | apply below_drew1 | refine below_set ?_ GE101.out) | exact HB.out))) : w.heap.size ≤ gb102)); have n5_ := asd ((by rw [hg]; exact Nat.ne_of_lt (blk_lt (upB BK101.out)) : gb101 ≠ gb102)); have n6_ := asd ((by rw [hg]; exact Nat.ne_of_gt (blk_lt (upB BK101.out)) : gb102 ≠ gb101)); clear BK101; clear HB; have BK101 := n0_; have HB := n1_; have BK102 := n2_; have GW102 := n3_; have GE102 := n4_; have NB101_102 := n5_; have NB102_101 := n6_; clear n0_ n1_ n2_ n3_ n4_ n5_ n6_; clear hb hbox hg; have hnb13 := NB101_102.out; have hnc13 := NB102_101.out; have hcz14_0 : w12.cell? ⟨gb101, 0, none⟩ = some (.int .i64 a0_0) := (blk_cell BK101.out 0).trans rfl; have hcz14_1 : w12.cell? ⟨gb101, 1, none⟩ = some (.slice A0_1 l0_1.length c0_1) := (blk_cell BK101.out 1).trans rfl; have hfz14_0 := blk_frozen BK101.out 0; have hfz14_1 := blk_frozen BK101.out 1; have hcz15_0 : w12.cell? ⟨gb102, 0, none⟩ = some (.int .i64 a1_0) := (blk_cell BK102.out 0).trans rfl; have hcz15_1 : w12.cell? ⟨gb102, 1, none⟩ = some (.slice A1_1 l1_1.length c1_1) := (blk_cell BK102.out 1).trans rfl; have hfz15_0 := blk_frozen BK102.out 0; have hfz15_1 := blk_frozen BK102.out 1) | ((with_reducible refine gate_callee (f := 22) rfl ?_); refine goesL_ (some 14) rfl rfl Try.func22 (by kernel_rfl) rfl #[.slice A0_1 l0_1.length c0_1, .slice A1_1 l1_1.length c1_1] rfl (by (try simp only [List.map_toArray, List.map_cons, List.map_nil]); first | done | rfl | (simp only [List.length_drop, List.length_take]; rfl)) ?_; (with_reducible refine (laws_eqIntS.calls k _ _ l0_1 _ _ l1_1 false _ ?side1 ?side2 ?side3 ?side4 A4.out).mono ?_); (case side1 => repeat (first | exact (Kd.C_below HR0_1.out HB.out) | (with_reducible refine Kd.C_alloc ?_ _) | (with_reducible refine Kd.C_drewN ?_ _) | (with_reducible refine Kd.C_drew ?_))); (case side2 => exact HC0_1.out); (case side3 => repeat (first | exact (Kd.C_below HR1_1.out HB.out) | (with_reducible refine Kd.C_alloc ?_ _) | (with_reducible refine Kd.C_drewN ?_ _) | (with_reducible refine Kd.C_drew ?_))); (case side4 => exact HC1_1.out); rintro e w' ⟨rfl, ⟨nd, rfl⟩⟩; refine ⟨_, rfl, ?_⟩))
   go_ret
   exact ⟨by first | rfl | (simp [errW_none, errW_some] <;> rfl) | (simp [*, errW_none, errW_some] <;> rfl), by repeat (first | (with_reducible first | exact HB.out | apply below_alloc | apply pw_below_drewN | apply below_drew1 | refine below_set ?_ GE101.out | refine below_set ?_ GE102.out) | exact HB.out)⟩
 ·
  rw [if_neg c3] at H
  have c3b0 : (a0_0 == a1_0) = false := beq_eq_false_iff_ne.mpr c3
  have c3b1 : (a0_0 != a1_0) = true := bne_iff_ne.mpr c3
  obtain rfl := Option.some.inj H
  go_enter Try.func15, Try.ntmps15
  go_wp2_with (first | ((with_reducible refine gate_dst (N := 2) rfl ?_); refine box_event ?hg (N := 2) ?hd (cs := #[.int .i64 a0_0, .slice A0_1 l0_1.length c0_1]) (t := 28) ?hr ?_; (case hd => rfl); (case hg => rfl); (case hr => first | (go_simp; done) | (go_simp; rfl)); intro gb101 hg w16 hbox hb; have n0_ := asd (below_step (by repeat (first | (with_reducible first | exact HB.out | apply below_alloc | apply pw_below_drewN | apply below_drew1) | exact HB.out)) hb); have n1_ := asd (hbox); have n2_ := asd ((by rw [hg]; exact (below_size (by repeat (first | (with_reducible first | exact HB.out | apply below_alloc | apply pw_below_drewN | apply below_drew1) | exact HB.out))) : w.heap.size ≤ gb101)); have n3_ := asd ((by rw [hg]; exact (below_size (by repeat (first | (with_reducible first | exact HB.out | apply below_alloc | apply pw_below_drewN | apply below_drew1) | exact HB.out))) : w.heap.size ≤ gb101)); clear HB; have HB := n0_; have BK101 := n1_; have GW101 := n2_; have GE101 := n3_; clear n0_ n1_ n2_ n3_; clear hb hbox hg) | ((with_reducible refine gate_dst (N := 3) rfl ?_); refine box_event ?hg (N := 3) ?hd (cs := #[.int .i64 a1_0, .slice A1_1 l1_1.length c1_1]) (t := 28) ?hr ?_; (case hd => rfl); (case hg => rfl); (case hr => first | (go_simp; done) | (go_simp; rfl)); intro gb102 hg w17 hbox hb; have n0_ := asd (blk_below (upB BK101.out) hb); have n1_ := asd (below_step (by repeat (first | (with_reducible first | exact HB.out | apply below_alloc | apply pw_below_drewN | apply below_drew1 | refine below_set ?_ GE101.out) | exact HB.out)) hb); have n2_ := asd (hbox); have n3_ := asd ((by rw [hg]; exact (below_size (by repeat (first | (with_reducible first | exact HB.out | apply below_alloc | apply pw_below_drewN | apply below_drew1 | refine below_set ?_ GE101.out) | exact HB.out))) : w.heap.size ≤ gb102)); have n4_ := asd ((by rw [hg]; exact (below_size (by repeat (first | (with_reducible first | exact HB.out | apply below_alloc | apply pw_below_drewN | apply below_drew1 | refine below_set ?_ GE101.out) | exact HB.out))) : w.heap.size ≤ gb102)); have n5_ := asd ((by rw [hg]; exact Nat.ne_of_lt (blk_lt (upB BK101.out)) : gb101 ≠ gb102)); have n6_ := asd ((by rw [hg]; exact Nat.ne_of_gt (blk_lt (upB BK101.out)) : gb102 ≠ gb101)); clear BK101; clear HB; have BK101 := n0_; have HB := n1_; have BK102 := n2_; have GW102 := n3_; have GE102 := n4_; have NB101_102 := n5_; have NB102_101 := n6_; clear n0_ n1_ n2_ n3_ n4_ n5_ n6_; clear hb hbox hg; have hnb18 := NB101_102.out; have hnc18 := NB102_101.out; have hcz19_0 : w17.cell? ⟨gb101, 0, none⟩ = some (.int .i64 a0_0) := (blk_cell BK101.out 0).trans rfl; have hcz19_1 : w17.cell? ⟨gb101, 1, none⟩ = some (.slice A0_1 l0_1.length c0_1) := (blk_cell BK101.out 1).trans rfl; have hfz19_0 := blk_frozen BK101.out 0; have hfz19_1 := blk_frozen BK101.out 1; have hcz20_0 : w17.cell? ⟨gb102, 0, none⟩ = some (.int .i64 a1_0) := (blk_cell BK102.out 0).trans rfl; have hcz20_1 : w17.cell? ⟨gb102, 1, none⟩ = some (.slice A1_1 l1_1.length c1_1) := (blk_cell BK102.out 1).trans rfl; have hfz20_0 := blk_frozen BK102.out 0; have hfz20_1 := blk_frozen BK102.out 1))
  go_ret
  exact ⟨by first | rfl | (simp [errW_none, errW_some] <;> rfl) | (simp [*, errW_none, errW_some] <;> rfl), by repeat (first | (with_reducible first | exact HB.out | apply below_alloc | apply pw_below_drewN | apply below_drew1 | refine below_set ?_ GE101.out | refine below_set ?_ GE102.out) | exact HB.out)⟩

-- HAND with laws.eqSpace
theorem eqSpace_refl (n : Int) (l : List Int) (hlen : l.length < 9223372036854775807) : Ev (fun k => laws_eqSpace.f k n l n l) true := by
  refine Ev.to (fun k => by unfold laws_eqSpace.f; rw [if_pos rfl]) ?_
  exact Ev.bind (eqIntS_refl l hlen) (Ev.const rfl)

-- HAND spec_asNew: function 44
def spec_asNew.T1 : Bool × List (List Nat × List Nat) := (true, [([], []), ([], []), ([1], [1]), ([2], [2]), ([3], [3]), ([4, 4], [4]), ([], []), ([6], [6]), ([7], [7]), ([8], [8]), ([9, 9], [9]), ([0, 5, 10], [0, 5, 10]), ([11], [11]), ([12, 0, 1, 2, 3, 4, 5, 6, 7, 8, 9, 10, 11, 12], [12])])
def spec_asNew.B1 : List Nat := [0, 0, 2, 6, 14, 30, 0, 64, 192, 448, 960, 2047, 4095, 8191]
theorem spec_asNew.tab1 : rtab .any (opsOf Try.f44 1) = spec_asNew.T1 := by kernel_rfl
theorem spec_asNew.bits1 : waitsOk spec_asNew.T1.2 spec_asNew.B1 = true := by kernel_rfl
theorem R_addr2 {α : Type} {d : Kd α} {e base n c : Nat} {ok : Nat → Prop} {W : World} {A : Option Addr} {xs : List α} (h : Kd.R d e W base ok (.slice A n c) xs) (hn : 0 < xs.length) : ∃ b, A = some ⟨b, 0, none⟩ := by
 obtain ⟨b, cb, e, _⟩ := Kd.R_form h hn
 injection e with e1
 exact ⟨b, e1⟩
set_option maxHeartbeats 8000000 in
set_option maxRecDepth 100000 in
theorem spec_asNew.calls (a0_0 : Int) (A0_1 : Option Addr) (c0_1 : Nat) (l0_1 : List Int) (w : World) (n1 : 1 ≤ a0_0) (n7 : a0_0 ≤ 7) :
  Calls Try.prog 44 #[.agg #[.int .i64 a0_0, .slice A0_1 l0_1.length c0_1]] w fun e w' => ∃ (g bw bt cw ct : Nat), e = .returned (.pointer (some ⟨g, 0, none⟩)) ∧ w'.heap[g]? = some (.cells #[.int .i64 a0_0, .slice A0_1 l0_1.length c0_1, .slice (some ⟨bw, 0, none⟩) (2 ^ (2 * a0_0.toNat)) cw, .slice (some ⟨bt, 0, none⟩) (2 ^ (2 * a0_0.toNat)) ct] 102 (0, 0)) ∧ bw ≠ bt ∧ Kd.R (Kd.int .i64) 3 w' w.heap.size (fun _ => True) (.slice (some ⟨bw, 0, none⟩) (2 ^ (2 * a0_0.toNat)) cw) (List.replicate (2 ^ (2 * a0_0.toNat)) 0) ∧ Kd.R (Kd.int .i64) 3 w' w.heap.size (fun _ => True) (.slice (some ⟨bt, 0, none⟩) (2 ^ (2 * a0_0.toNat)) ct) (List.replicate (2 ^ (2 * a0_0.toNat)) 0) ∧ Below w.heap.size w w' := by
 have hu28 := Try.underlying28
 have hu102 := Try.underlying102
 have HB := asd (Below.refl w.heap.size w)
 obtain ⟨ji2, hji2⟩ : ∃ j_ : Int, (wrap64 (2 * a0_0)) = j_ := ⟨_, rfl⟩
 have hji2w : (IntKind.i64.wrap (2 * a0_0)) = ji2 := (i64_w _).trans hji2
 have c3 : 0 ≤ ji2 := by rw [← hji2]; unfold wrap64; omega
 have c3b0 := eq_true c3
 have c3b1 : decide (0 ≤ (ji2)) = true := decide_eq_true c3
 obtain ⟨ji4, hji4⟩ : ∃ j_ : Int, (shl .i64 1 (ji2)) = j_ := ⟨_, rfl⟩
 have HJ : Aside0 (ji4.toNat = 2 ^ (2 * a0_0.toNat)) := ⟨by
  rw [← hji4, shl_nat c3 (by rw [← hji2]; unfold wrap64; omega), Int.toNat_natCast]
  congr 1
  rw [← hji2]
  unfold wrap64
  omega⟩
 have hp14 : ji4.toNat ≤ 2 ^ 14 := by rw [HJ.out]; exact Nat.pow_le_pow_right (by decide) (by omega)
 have hj4 : 0 ≤ ji4 := by
  rw [← hji4, shl_nat c3 (by rw [← hji2]; unfold wrap64; omega)]
  exact Int.natCast_nonneg _
 have hji4_ : (IntKind.i64.wrap (1 * 2 ^ min (ji2).toNat 64)) = ji4 := hji4
 have hji4z : (ji2) ≤ 64 → (IntKind.i64.wrap (1 * 2 ^ (ji2).toNat)) = ji4 := shl_small hji4
 have hji4u : (IntKind.i64.wrap (2 ^ min (ji2).toNat 64)) = ji4 := by have h_ := hji4_; rw [Int.one_mul] at h_; exact h_
 have hji4v : (ji2) ≤ 64 → (IntKind.i64.wrap (2 ^ (ji2).toNat)) = ji4 := fun hle_ => by have h_ := hji4z hle_; rw [Int.one_mul] at h_; exact h_
 have hji4y : (wrap64 (1 * 2 ^ min (ji2).toNat 64)) = ji4 := (i64_w _).symm.trans hji4_
 have hji4x : (ji2) ≤ 64 → (wrap64 (1 * 2 ^ (ji2).toNat)) = ji4 := fun h_ => (i64_w _).symm.trans (hji4z h_)
 have c5b0 := eq_true hj4
 have c5b1 : decide (0 ≤ (ji4)) = true := decide_eq_true hj4
 have c6 : (ji4 : Int).toNat ≤ 35184372088832 := by omega
 have c6b0 := eq_true c6
 have c6b1 : decide ((ji4 : Int).toNat ≤ 35184372088832) = true := decide_eq_true c6
 clear c3 hp14 hj4 c6 n1 n7
 obtain ⟨y102, hy102⟩ : ∃ y_ : List Int, y_ = (List.replicate (ji4 : Int).toNat 0) := ⟨_, rfl⟩
 have Ny102 := asd hy102
 clear hy102
 have c7b0 := eq_true (of_decide_eq_true (by first | (with_reducible assumption) | assumption) : 0 ≤ (ji2))
 obtain ⟨y105, hy105⟩ : ∃ y_ : List Int, y_ = (List.replicate (ji4 : Int).toNat 0) := ⟨_, rfl⟩
 have Ny105 := asd hy105
 clear hy105
 go_enter Try.func44, Try.ntmps44
 try go_wp2_with (first | ((with_reducible refine gate_dst (N := 1) rfl ?_); refine box_event ?hg (N := 1) ?hd (cs := #[.int .i64 a0_0, .slice A0_1 l0_1.length c0_1]) (t := 28) ?hr ?_; (case hd => rfl); (case hg => rfl); (case hr => first | (go_simp; done) | (go_simp; rfl)); intro gb101 hg w8 hbox hb; have n0_ := asd (below_step (by repeat (first | (with_reducible first | exact HB.out | apply below_alloc | apply pw_below_drewN | apply below_drew1) | exact HB.out)) hb); have n1_ := asd (hbox); have n2_ := asd ((by rw [hg]; exact (below_size (by repeat (first | (with_reducible first | exact HB.out | apply below_alloc | apply pw_below_drewN | apply below_drew1) | exact HB.out))) : w.heap.size ≤ gb101)); have n3_ := asd ((by rw [hg]; exact (below_size (by repeat (first | (with_reducible first | exact HB.out | apply below_alloc | apply pw_below_drewN | apply below_drew1) | exact HB.out))) : w.heap.size ≤ gb101)); clear HB; have HB := n0_; have BK101 := n1_; have GW101 := n2_; have GE101 := n3_; clear n0_ n1_ n2_ n3_; clear hb hbox hg))
 have n0_ := asd (blk_drew BK101.out)
 have n1_ := asd (below_drew1 HB.out)
 clear BK101
 clear HB
 have BK101 := n0_
 have HB := n1_
 clear n0_ n1_
 refine start_ (n := 14) (S := fun w' => w'.cell? ⟨gb101, 0, none⟩ = some (.int .i64 a0_0) ∧ w'.cell? ⟨gb101, 1, none⟩ = some (.slice A0_1 l0_1.length c0_1)) (ds := []) #[false, false, false, false, false, false, false, false, false, false, false, false, false, false] (by kernel_rfl) rfl rfl ⟨(blk_cell BK101.out 0).trans rfl, (blk_cell BK101.out 1).trans rfl⟩ (fun hHeld => ?_); refine with_tabW spec_asNew.tab1 spec_asNew.bits1 (fun HT_ HW_ => ?_)
 generalize w8.drew = w9 at BK101 HB hHeld ⊢
 refine pure_ (i := 1) (N := some 4) (v := ?_) (a' := ?_) #[false, true, false, false, false, false, false, false, false, false, false, false, false, false] rfl rfl (any_of HT_.out (by kernel_rfl)) (fun _ _ _ h => h) (Or.inl ⟨by rfl, ?_⟩) ?_ ?_
 rotate_left
 ·
  intro w'
  go_simp
  with_reducible rfl
 rotate_left
 ·
  simp only [Act.put, List.setIfInBounds_toArray, List.set_cons_zero, List.set_cons_succ, i64_w, i32_w]
  rfl
 refine pure_ (i := 6) (N := some 9) (v := ?_) (a' := ?_) #[false, true, false, false, false, false, true, false, false, false, false, false, false, false] rfl rfl (any_of HT_.out (by kernel_rfl)) (fun _ _ _ h => h) (Or.inl ⟨by rfl, ?_⟩) ?_ ?_
 rotate_left
 ·
  intro w'
  go_simp
  with_reducible rfl
 rotate_left
 ·
  simp only [Act.put, List.setIfInBounds_toArray, List.set_cons_zero, List.set_cons_succ, i64_w, i32_w]
  rfl
 refine take_ (i := 0) (N := some 3) (v := ?_) (a' := ?_) #[true, true, false, false, false, false, true, false, false, false, false, false, false, false] rfl rfl (take_ofW HT_.out HW_.out (by kernel_rfl)) (fun _ _ _ h => h) (Or.inl ⟨by rfl, ?_⟩) hHeld ?_ ?_
 rotate_left
 ·
  rintro w' ⟨s0, s1⟩
  go_simp
  with_reducible rfl
 rotate_left
 ·
  simp only [Act.put, List.setIfInBounds_toArray, List.set_cons_zero, List.set_cons_succ, i64_w, i32_w]
  rfl
 refine take_ (i := 2) (N := some 5) (v := ?_) (a' := ?_) #[true, true, true, false, false, false, true, false, false, false, false, false, false, false] rfl rfl (take_ofW HT_.out HW_.out (by kernel_rfl)) (fun _ _ _ h => h) (Or.inl ⟨by rfl, ?_⟩) hHeld ?_ ?_
 rotate_left
 ·
  rintro w' ⟨s0, s1⟩
  go_simp
  with_reducible rfl
 rotate_left
 ·
  simp only [Act.put, List.setIfInBounds_toArray, List.set_cons_zero, List.set_cons_succ, i64_w, i32_w]
  rfl
 refine pure_ (i := 3) (N := some 6) (v := ?_) (a' := ?_) #[true, true, true, true, false, false, true, false, false, false, false, false, false, false] rfl rfl (any_of HT_.out (by kernel_rfl)) (fun _ _ _ h => h) (Or.inl ⟨by rfl, ?_⟩) ?_ ?_
 rotate_left
 ·
  intro w'
  go_simp
  with_reducible rfl
 rotate_left
 ·
  simp only [Act.put, List.setIfInBounds_toArray, List.set_cons_zero, List.set_cons_succ, i64_w, i32_w]
  rfl
 refine pure_ (i := 4) (N := some 7) (v := ?_) (a' := ?_) #[true, true, true, true, true, false, true, false, false, false, false, false, false, false] rfl rfl (any_of HT_.out (by kernel_rfl)) (fun _ _ _ h => h) (Or.inl ⟨by rfl, ?_⟩) ?_ ?_
 rotate_left
 ·
  intro w'
  go_simp
  with_reducible rfl
 rotate_left
 ·
  simp only [Act.put, List.setIfInBounds_toArray, List.set_cons_zero, List.set_cons_succ, i64_w, i32_w]
  rfl
 refine take_ (i := 7) (N := some 10) (v := ?_) (a' := ?_) #[true, true, true, true, true, false, true, true, false, false, false, false, false, false] rfl rfl (take_ofW HT_.out HW_.out (by kernel_rfl)) (fun _ _ _ h => h) (Or.inl ⟨by rfl, ?_⟩) hHeld ?_ ?_
 rotate_left
 ·
  rintro w' ⟨s0, s1⟩
  go_simp
  with_reducible rfl
 rotate_left
 ·
  simp only [Act.put, List.setIfInBounds_toArray, List.set_cons_zero, List.set_cons_succ, i64_w, i32_w]
  rfl
 refine pure_ (i := 8) (N := some 11) (v := ?_) (a' := ?_) #[true, true, true, true, true, false, true, true, true, false, false, false, false, false] rfl rfl (any_of HT_.out (by kernel_rfl)) (fun _ _ _ h => h) (Or.inl ⟨by rfl, ?_⟩) ?_ ?_
 rotate_left
 ·
  intro w'
  go_simp
  with_reducible rfl
 rotate_left
 ·
  simp only [Act.put, List.setIfInBounds_toArray, List.set_cons_zero, List.set_cons_succ, i64_w, i32_w]
  rfl
 refine pure_ (i := 9) (N := some 12) (v := ?_) (a' := ?_) #[true, true, true, true, true, false, true, true, true, true, false, false, false, false] rfl rfl (any_of HT_.out (by kernel_rfl)) (fun _ _ _ h => h) (Or.inl ⟨by rfl, ?_⟩) ?_ ?_
 rotate_left
 ·
  intro w'
  go_simp
  with_reducible rfl
 rotate_left
 ·
  simp only [Act.put, List.setIfInBounds_toArray, List.set_cons_zero, List.set_cons_succ, i64_w, i32_w]
  rfl
 refine join_ (σ := Value × Value) 3 #[true, true, true, true, true, true, true, true, true, true, true, false, false, false] (fun s_ => [(8, s_.1), (13, s_.2)]) (fun s_ w' => (w'.cell? ⟨gb101, 0, none⟩ = some (.int .i64 a0_0) ∧ w'.cell? ⟨gb101, 1, none⟩ = some (.slice A0_1 l0_1.length c0_1)) ∧ (Kd.R (Kd.int .i64) 3 w' w.heap.size (fun k_ => some k_ ≠ (s_.2 : Value).ownBlock) s_.1 y102) ∧ (Kd.R (Kd.int .i64) 3 w' w.heap.size (fun k_ => some k_ ≠ (s_.1 : Value).ownBlock) s_.2 y105) ∧ (w'.heap[gb101]? = some (.cells #[.int .i64 a0_0, .slice A0_1 l0_1.length c0_1] 28 (0, 0))) ∧ (Below w.heap.size w w')) ?_ ?_
 rotate_left
 ·
  intro hCont
  refine two_ (i := 5) (j := 10) (Ni := some 8) (Nj := some 13) #[true, true, true, true, true, true, true, true, true, true, false, false, false, false] #[true, true, true, true, true, false, true, true, true, true, true, false, false, false] rfl rfl rfl rfl (two_of HT_.out (by kernel_rfl)) (by decide) (by decide) (fun K hK => ?_) (fun K hK => ?_)
  ·
   skip
   refine Kd.R_make_step (Kd.int .i64) _ 3 (by rfl) (N := 8) rfl 22 _ _ rfl ji4 rfl rfl Try.underlying22 (.int .i64 0) 8 info3 rfl (by decide) (by omega) 0 (ok := fun _ => True) (okp := fun _ => True) rfl (fun _ hk => hk) trivial (of_decide_eq_true (by first | (with_reducible assumption) | assumption)) (Nat.le_trans (Nat.mul_le_mul_right _ (of_decide_eq_true (by first | (with_reducible assumption) | assumption) : ji4.toNat ≤ 35184372088832)) (by omega)) (Below.refl _ _) (Nat.le_refl _) ?_
   intro v103 w10 ho11 hb hg_ hnew_
   clear hg_ hnew_
   (first | rw [← Ny102.out] at ho11 | (simp only [Int.reduceToNat] at ho11; rw [← Ny102.out] at ho11))
   have n0_ := asd (Kd.R_lower ho11 (below_size (by repeat (first | (with_reducible first | exact HB.out | apply below_alloc | apply pw_below_drewN | apply below_drew1 | refine below_set ?_ GE101.out) | exact HB.out))))
   have n1_ := asd (blk_below (upB BK101.out) hb)
   have n2_ := asd (below_step (by repeat (first | (with_reducible first | exact HB.out | apply below_alloc | apply pw_below_drewN | apply below_drew1 | refine below_set ?_ GE101.out) | exact HB.out)) hb)
   clear BK101
   clear HB
   have HO104 := n0_
   have BK101 := n1_
   have HB := n2_
   clear n0_ n1_ n2_
   clear hb ho11
   refine hK.out _ _ ⟨(blk_cell BK101.out 0).trans rfl, (blk_cell BK101.out 1).trans rfl⟩ (fun hHeld => ?_)
   clear hK K
   refine norm_ (a' := ?_) ?_ ?_
   rotate_left
   ·
    show Act.put _ (some 8) _ = _
    simp only [Act.put, List.setIfInBounds_toArray, List.set_cons_zero, List.set_cons_succ, i64_w, i32_w]
    rfl
   refine one_ (i := 10) (N := some 13) #[true, true, true, true, true, true, true, true, true, true, true, false, false, false] rfl rfl (one_of HT_.out (by kernel_rfl)) (by decide) (fun K hK => ?_)
   refine Kd.R_make_step (Kd.int .i64) _ 3 (by rfl) (N := 13) rfl 22 _ _ rfl ji4 rfl rfl Try.underlying22 (.int .i64 0) 8 info3 rfl (by decide) (by omega) 0 (ok := fun _ => True) (okp := fun _ => True) rfl (fun _ hk => hk) trivial (of_decide_eq_true (by first | (with_reducible assumption) | assumption)) (Nat.le_trans (Nat.mul_le_mul_right _ (of_decide_eq_true (by first | (with_reducible assumption) | assumption) : ji4.toNat ≤ 35184372088832)) (by omega)) (Below.refl _ _) (Nat.le_refl _) ?_
   intro v106 w12 ho13 hb hg_ hnew_
   clear hg_ hnew_
   (first | rw [← Ny105.out] at ho13 | (simp only [Int.reduceToNat] at ho13; rw [← Ny105.out] at ho13))
   have n0_ := asd (Kd.R_elder' (upR <| HO104.out) (Kd.R_base ho13) hb)
   have n1_ := asd (Kd.R_lower (Kd.R_new' ho13 (Kd.R_lt (upR <| HO104.out))) (below_size (by repeat (first | (with_reducible first | exact HB.out | apply below_alloc | apply pw_below_drewN | apply below_drew1 | refine below_set ?_ GE101.out) | exact HB.out))))
   have n2_ := asd (blk_below (upB BK101.out) hb)
   have n3_ := asd (below_step (by repeat (first | (with_reducible first | exact HB.out | apply below_alloc | apply pw_below_drewN | apply below_drew1 | refine below_set ?_ GE101.out) | exact HB.out)) hb)
   clear HO104
   clear BK101
   clear HB
   have HO104 := n0_
   have HO107 := n1_
   have BK101 := n2_
   have HB := n3_
   clear n0_ n1_ n2_ n3_
   clear hb ho13
   obtain ⟨Ao14, co14, eo14⟩ := Kd.R_slice HO107.out
   (first | subst eo14 | (injection eo14 with f1_ f2_ f3_; have f4_ := f1_.symm; have f5_ := f3_.symm; clear f1_ f2_ f3_; subst f4_; subst f5_))
   obtain ⟨Ao15, co15, eo15⟩ := Kd.R_slice HO104.out
   (first | subst eo15 | (injection eo15 with f1_ f2_ f3_; have f4_ := f1_.symm; have f5_ := f3_.symm; clear f1_ f2_ f3_; subst f4_; subst f5_))
   refine hK.out _ _ ⟨(blk_cell BK101.out 0).trans rfl, (blk_cell BK101.out 1).trans rfl⟩ (fun hHeld => ?_)
   clear hK K
   refine norm_ (a' := ?_) ?_ ?_
   rotate_left
   ·
    show Act.put _ (some 13) _ = _
    simp only [Act.put, List.setIfInBounds_toArray, List.set_cons_zero, List.set_cons_succ, i64_w, i32_w]
    rfl
   exact norm_ (by simp only [putAll, Act.put, List.setIfInBounds_toArray, List.set_cons_zero, List.set_cons_succ]) (hCont (.slice Ao15 y102.length co15, .slice Ao14 y105.length co14) _ ⟨hHeld, (upR <| Kd.R_mono HO104.out (fun _ hk => hk.2)), (upR <| Kd.R_mono HO107.out (fun _ hk => hk.2)), (upB BK101.out), (by repeat (first | (with_reducible first | exact HB.out | apply below_alloc | apply pw_below_drewN | apply below_drew1 | refine below_set ?_ GE101.out) | exact HB.out))⟩)
  ·
   skip
   refine Kd.R_make_step (Kd.int .i64) _ 3 (by rfl) (N := 13) rfl 22 _ _ rfl ji4 rfl rfl Try.underlying22 (.int .i64 0) 8 info3 rfl (by decide) (by omega) 0 (ok := fun _ => True) (okp := fun _ => True) rfl (fun _ hk => hk) trivial (of_decide_eq_true (by first | (with_reducible assumption) | assumption)) (Nat.le_trans (Nat.mul_le_mul_right _ (of_decide_eq_true (by first | (with_reducible assumption) | assumption) : ji4.toNat ≤ 35184372088832)) (by omega)) (Below.refl _ _) (Nat.le_refl _) ?_
   intro v106 w10 ho11 hb hg_ hnew_
   clear hg_ hnew_
   (first | rw [← Ny105.out] at ho11 | (simp only [Int.reduceToNat] at ho11; rw [← Ny105.out] at ho11))
   have n0_ := asd (Kd.R_lower ho11 (below_size (by repeat (first | (with_reducible first | exact HB.out | apply below_alloc | apply pw_below_drewN | apply below_drew1 | refine below_set ?_ GE101.out) | exact HB.out))))
   have n1_ := asd (blk_below (upB BK101.out) hb)
   have n2_ := asd (below_step (by repeat (first | (with_reducible first | exact HB.out | apply below_alloc | apply pw_below_drewN | apply below_drew1 | refine below_set ?_ GE101.out) | exact HB.out)) hb)
   clear BK101
   clear HB
   have HO107 := n0_
   have BK101 := n1_
   have HB := n2_
   clear n0_ n1_ n2_
   clear hb ho11
   refine hK.out _ _ ⟨(blk_cell BK101.out 0).trans rfl, (blk_cell BK101.out 1).trans rfl⟩ (fun hHeld => ?_)
   clear hK K
   refine norm_ (a' := ?_) ?_ ?_
   rotate_left
   ·
    show Act.put _ (some 13) _ = _
    simp only [Act.put, List.setIfInBounds_toArray, List.set_cons_zero, List.set_cons_succ, i64_w, i32_w]
    rfl
   refine one_ (i := 5) (N := some 8) #[true, true, true, true, true, true, true, true, true, true, true, false, false, false] rfl rfl (one_of HT_.out (by kernel_rfl)) (by decide) (fun K hK => ?_)
   refine Kd.R_make_step (Kd.int .i64) _ 3 (by rfl) (N := 8) rfl 22 _ _ rfl ji4 rfl rfl Try.underlying22 (.int .i64 0) 8 info3 rfl (by decide) (by omega) 0 (ok := fun _ => True) (okp := fun _ => True) rfl (fun _ hk => hk) trivial (of_decide_eq_true (by first | (with_reducible assumption) | assumption)) (Nat.le_trans (Nat.mul_le_mul_right _ (of_decide_eq_true (by first | (with_reducible assumption) | assumption) : ji4.toNat ≤ 35184372088832)) (by omega)) (Below.refl _ _) (Nat.le_refl _) ?_
   intro v103 w12 ho13 hb hg_ hnew_
   clear hg_ hnew_
   (first | rw [← Ny102.out] at ho13 | (simp only [Int.reduceToNat] at ho13; rw [← Ny102.out] at ho13))
   have n0_ := asd (Kd.R_elder' (upR <| HO107.out) (Kd.R_base ho13) hb)
   have n1_ := asd (Kd.R_lower (Kd.R_new' ho13 (Kd.R_lt (upR <| HO107.out))) (below_size (by repeat (first | (with_reducible first | exact HB.out | apply below_alloc | apply pw_below_drewN | apply below_drew1 | refine below_set ?_ GE101.out) | exact HB.out))))
   have n2_ := asd (blk_below (upB BK101.out) hb)
   have n3_ := asd (below_step (by repeat (first | (with_reducible first | exact HB.out | apply below_alloc | apply pw_below_drewN | apply below_drew1 | refine below_set ?_ GE101.out) | exact HB.out)) hb)
   clear HO107
   clear BK101
   clear HB
   have HO107 := n0_
   have HO104 := n1_
   have BK101 := n2_
   have HB := n3_
   clear n0_ n1_ n2_ n3_
   clear hb ho13
   obtain ⟨Ao14, co14, eo14⟩ := Kd.R_slice HO107.out
   (first | subst eo14 | (injection eo14 with f1_ f2_ f3_; have f4_ := f1_.symm; have f5_ := f3_.symm; clear f1_ f2_ f3_; subst f4_; subst f5_))
   obtain ⟨Ao15, co15, eo15⟩ := Kd.R_slice HO104.out
   (first | subst eo15 | (injection eo15 with f1_ f2_ f3_; have f4_ := f1_.symm; have f5_ := f3_.symm; clear f1_ f2_ f3_; subst f4_; subst f5_))
   refine hK.out _ _ ⟨(blk_cell BK101.out 0).trans rfl, (blk_cell BK101.out 1).trans rfl⟩ (fun hHeld => ?_)
   clear hK K
   refine norm_ (a' := ?_) ?_ ?_
   rotate_left
   ·
    show Act.put _ (some 8) _ = _
    simp only [Act.put, List.setIfInBounds_toArray, List.set_cons_zero, List.set_cons_succ, i64_w, i32_w]
    rfl
   exact norm_ (by simp only [putAll, Act.put, List.setIfInBounds_toArray, List.set_cons_zero, List.set_cons_succ]) (hCont (.slice Ao15 y102.length co15, .slice Ao14 y105.length co14) _ ⟨hHeld, (upR <| Kd.R_mono HO104.out (fun _ hk => hk.2)), (upR <| Kd.R_mono HO107.out (fun _ hk => hk.2)), (upB BK101.out), (by repeat (first | (with_reducible first | exact HB.out | apply below_alloc | apply pw_below_drewN | apply below_drew1 | refine below_set ?_ GE101.out) | exact HB.out))⟩)
 rintro ⟨v103, v106⟩ w16 ⟨hS_, h0_, h1_, h2_, h3_⟩
 have n0_ : Aside0 (Kd.R (Kd.int .i64) 3 w16 w.heap.size (fun k_ => some k_ ≠ (v106 : Value).ownBlock) v103 y102) := ⟨h0_⟩
 have n1_ : Aside0 (Kd.R (Kd.int .i64) 3 w16 w.heap.size (fun k_ => some k_ ≠ (v103 : Value).ownBlock) v106 y105) := ⟨h1_⟩
 have n2_ : Aside0 (w16.heap[gb101]? = some (.cells #[.int .i64 a0_0, .slice A0_1 l0_1.length c0_1] 28 (0, 0))) := ⟨h2_⟩
 have n3_ : Aside0 (Below w.heap.size w w16) := ⟨h3_⟩
 clear BK101
 clear HB
 clear h0_ h1_ h2_ h3_
 have HO104 := n0_
 have HO107 := n1_
 have BK101 := n2_
 have HB := n3_
 clear n0_ n1_ n2_ n3_
 have hHeld : w16.cell? ⟨gb101, 0, none⟩ = some (.int .i64 a0_0) ∧ w16.cell? ⟨gb101, 1, none⟩ = some (.slice A0_1 l0_1.length c0_1) := hS_
 obtain ⟨Ao17, co17, eo17⟩ := Kd.R_slice HO107.out
 (first | subst eo17 | (injection eo17 with f1_ f2_ f3_; have f4_ := f1_.symm; have f5_ := f3_.symm; clear f1_ f2_ f3_; subst f4_; subst f5_))
 obtain ⟨Ao18, co18, eo18⟩ := Kd.R_slice HO104.out
 (first | subst eo18 | (injection eo18 with f1_ f2_ f3_; have f4_ := f1_.symm; have f5_ := f3_.symm; clear f1_ f2_ f3_; subst f4_; subst f5_))
 refine norm_ (a' := ?_) ?_ ?_
 rotate_left
 ·
  simp only [putAll, Act.put, List.setIfInBounds_toArray, List.set_cons_zero, List.set_cons_succ]
  rfl
 refine pure_ (i := 11) (N := some 14) (v := ?_) (a' := ?_) #[true, true, true, true, true, true, true, true, true, true, true, true, false, false] rfl rfl (any_of HT_.out (by kernel_rfl)) (fun _ _ _ h => h) (Or.inl ⟨by rfl, ?_⟩) ?_ ?_
 rotate_left
 ·
  intro w'
  go_simp
  with_reducible rfl
 rotate_left
 ·
  simp only [Act.put, List.setIfInBounds_toArray, List.set_cons_zero, List.set_cons_succ, i64_w, i32_w]
  rfl
 refine one_ (i := 12) (N := some 15) #[true, true, true, true, true, true, true, true, true, true, true, true, true, false] rfl rfl (one_of HT_.out (by kernel_rfl)) (by decide) (fun K hK => ?_)
 refine box_step ?hg (N := 15) ?hd (cs := #[.int .i64 a0_0, .slice A0_1 l0_1.length c0_1, .slice Ao18 y102.length co18, .slice Ao17 y105.length co17]) (t := 102) ?hr ?_; (case hd => rfl); (case hg => rfl); (case hr => first | (go_simp; done) | (go_simp; rfl))
 intro gb108 hg w19 hbox hb
 have n0_ := asd (Kd.R_below (upR <| HO104.out) hb)
 have n1_ := asd (Kd.R_below (upR <| HO107.out) hb)
 have n2_ := asd (blk_below (upB BK101.out) hb)
 have n3_ := asd (below_step (by repeat (first | (with_reducible first | exact HB.out | apply below_alloc | apply pw_below_drewN | apply below_drew1 | refine below_set ?_ GE101.out) | exact HB.out)) hb)
 have n4_ := asd (hbox)
 have n5_ := asd ((by rw [hg]; exact (below_size (by repeat (first | (with_reducible first | exact HB.out | apply below_alloc | apply pw_below_drewN | apply below_drew1 | refine below_set ?_ GE101.out) | exact HB.out))) : w.heap.size ≤ gb108))
 have n6_ := asd ((by rw [hg]; exact (below_size (by repeat (first | (with_reducible first | exact HB.out | apply below_alloc | apply pw_below_drewN | apply below_drew1 | refine below_set ?_ GE101.out) | exact HB.out))) : w.heap.size ≤ gb108))
 have n7_ := asd ((by rw [hg]; exact Nat.ne_of_lt (blk_lt (upB BK101.out)) : gb101 ≠ gb108))
 have n8_ := asd ((by rw [hg]; exact Nat.ne_of_gt (blk_lt (upB BK101.out)) : gb108 ≠ gb101))
 clear HO104
 clear HO107
 clear BK101
 clear HB
 have HO104 := n0_
 have HO107 := n1_
 have BK101 := n2_
 have HB := n3_
 have BK108 := n4_
 have GW108 := n5_
 have GE108 := n6_
 have NB101_108 := n7_
 have NB108_101 := n8_
 clear n0_ n1_ n2_ n3_ n4_ n5_ n6_ n7_ n8_
 clear hb hbox hg
 refine hK.out _ _ ⟨(blk_cell BK101.out 0).trans rfl, (blk_cell BK101.out 1).trans rfl⟩ (fun hHeld => ?_)
 clear hK K
 refine norm_ (a' := ?_) ?_ ?_
 rotate_left
 ·
  show Act.put _ (some 15) _ = _
  simp only [Act.put, List.setIfInBounds_toArray, List.set_cons_zero, List.set_cons_succ, i64_w, i32_w]
  rfl
 refine pure_ (i := 13) (N := some 2) (v := ?_) (a' := ?_) #[true, true, true, true, true, true, true, true, true, true, true, true, true, true] rfl rfl (any_of HT_.out (by kernel_rfl)) (fun _ _ _ h => h) (Or.inl ⟨by rfl, ?_⟩) ?_ ?_
 rotate_left
 ·
  intro w'
  go_simp
  with_reducible rfl
 rotate_left
 ·
  simp only [Act.put, List.setIfInBounds_toArray, List.set_cons_zero, List.set_cons_succ, i64_w, i32_w]
  rfl
 refine done_ (done_of HT_.out (by kernel_rfl)) ?_
 try go_wp2
 go_ret
 have hl1 : y102.length = 2 ^ (2 * a0_0.toNat) := by rw [Ny102.out, List.length_replicate, HJ.out]
 have hl2 : y105.length = 2 ^ (2 * a0_0.toNat) := by rw [Ny105.out, List.length_replicate, HJ.out]
 have hpos : 0 < 2 ^ (2 * a0_0.toNat) := Nat.two_pow_pos _
 obtain ⟨bw, ebw⟩ := R_addr2 HO104.out (by omega)
 obtain ⟨bt, ebt⟩ := R_addr2 HO107.out (by omega)
 subst ebw
 subst ebt
 have e1 : y102 = List.replicate (2 ^ (2 * a0_0.toNat)) 0 := by rw [Ny102.out, HJ.out]
 have e2 : y105 = List.replicate (2 ^ (2 * a0_0.toNat)) 0 := by rw [Ny105.out, HJ.out]
 have ho1 := HO104.out
 have ho2 := HO107.out
 have hbk := BK108.out
 rw [hl1] at ho1 hbk
 rw [hl2] at ho2 hbk
 rw [e1] at ho1
 rw [e2] at ho2
 exact ⟨gb108, bw, bt, co18, co17, rfl, hbk, fun he => ho1.1 bw rfl (by rw [he]; rfl), Kd.R_mono ho1 (fun _ _ => trivial), Kd.R_mono ho2 (fun _ _ => trivial), by repeat (first | (with_reducible first | exact HB.out | apply below_alloc | apply pw_below_drewN | apply below_drew1) | exact HB.out)⟩

-- HAND with spec.asNew
/-- A table in memory. -/
structure TabS (wb w : World) (g bw bt cw ct M : Nat) (n : Int) (A : Option Addr) (c : Nat) (l W T : List Int) : Prop where
  bel : Below wb.heap.size wb w
  blk : w.heap[g]? = some (.cells #[.int .i64 n, .slice A l.length c, .slice (some ⟨bw, 0, none⟩) M cw, .slice (some ⟨bt, 0, none⟩) M ct] 102 (0, 0))
  two : bw ≠ bt
  rw : Kd.R (Kd.int .i64) 3 w wb.heap.size (fun _ => True) (.slice (some ⟨bw, 0, none⟩) M cw) W
  rt : Kd.R (Kd.int .i64) 3 w wb.heap.size (fun _ => True) (.slice (some ⟨bt, 0, none⟩) M ct) T
  memo : MemoT n.toNat l W T
  hM : M = 2 ^ (2 * n.toNat)
section
variable {wb w w' : World} {g bw bt cw ct M : Nat} {n : Int} {A : Option Addr} {c : Nat} {l W T : List Int}
theorem TabS.below (h : TabS wb w g bw bt cw ct M n A c l W T) (hb : Below w.heap.size w w') : TabS wb w' g bw bt cw ct M n A c l W T :=
  ⟨below_step h.bel hb, blk_below h.blk hb, h.two, Kd.R_below h.rw hb, Kd.R_below h.rt hb, h.memo, h.hM⟩
theorem TabS.drewN (h : TabS wb w g bw bt cw ct M n A c l W T) (j : Nat) : TabS wb (w.drewN j) g bw bt cw ct M n A c l W T := h.below (pw_below_drewN (Below.refl _ _) j)
theorem TabS.cells (h : TabS wb w g bw bt cw ct M n A c l W T) : w.cell? ⟨g, 0, none⟩ = some (.int .i64 n) ∧ w.cell? ⟨g, 1, none⟩ = some (.slice A l.length c) ∧ w.cell? ⟨g, 2, none⟩ = some (.slice (some ⟨bw, 0, none⟩) M cw) ∧ w.cell? ⟨g, 3, none⟩ = some (.slice (some ⟨bt, 0, none⟩) M ct) := ⟨(blk_cell h.blk 0).trans rfl, (blk_cell h.blk 1).trans rfl, (blk_cell h.blk 2).trans rfl, (blk_cell h.blk 3).trans rfl⟩
theorem TabS.half (h : TabS wb w g bw bt cw ct M n A c l W T) (j : Nat) (v : Value) : (w.setCell ⟨bw, j, none⟩ v).cell? ⟨g, 3, none⟩ = some (.slice (some ⟨bt, 0, none⟩) M ct) ∧ Kd.R (Kd.int .i64) 3 (w.setCell ⟨bw, j, none⟩ v) wb.heap.size (fun _ => True) (.slice (some ⟨bt, 0, none⟩) M ct) T := by
  have g1 : g ≠ bw := fun e => Kd.R_ne h.rw h.blk (by decide) (by rw [e]; rfl)
  exact ⟨(blk_cell (blk_far h.blk (p := ⟨bw, j, none⟩) g1 _) 3).trans rfl, Kd.R_mono (Kd.R_far (p := ⟨bw, j, none⟩) (Kd.R_tight rfl h.rt) (fun k hk e => h.two (Option.some.inj (show some bw = some bt from by rw [show bw = k from e.symm]; exact hk))) v) (fun _ _ => trivial)⟩
theorem TabS.put (h : TabS wb w g bw bt cw ct M n A c l W T) {p q : Nat} {at_ v1 v2 : Int} (hp : p < 2 ^ n.toNat) (hq : q < 2 ^ n.toNat) (ha : at_ = ((p * 2 ^ n.toNat + q : Nat) : Int)) (e1 : v1 = valV cW 7 (leftL l (p : Int) (q : Int)) + 1) (e2 : v2 = valV cT 7 (leftL l (p : Int) (q : Int)) + 1) : TabS wb ((w.setCell ⟨bw, at_.toNat, none⟩ (.int .i64 v1)).setCell ⟨bt, at_.toNat, none⟩ (.int .i64 v2)) g bw bt cw ct M n A c l (W.set at_.toNat v1) (T.set at_.toNat v2) := by
  have b1 := Kd.R_base h.rw bw rfl
  have b2 := Kd.R_base h.rt bt rfl
  have g1 : g ≠ bw := fun e => Kd.R_ne h.rw h.blk (by decide) (by rw [e]; rfl)
  have g2 : g ≠ bt := fun e => Kd.R_ne h.rt h.blk (by decide) (by rw [e]; rfl)
  have h1 := Kd.R_putn h.rw at_ v1
  have h3 := Kd.R_putn (h.half at_.toNat (.int .i64 v1)).2 at_ v2
  have h4 := Kd.R_mono (Kd.R_far (p := ⟨bt, at_.toNat, none⟩) (Kd.R_tight rfl h1) (fun k hk e => h.two (Option.some.inj (show some bw = some bt from by rw [show bt = k from e.symm]; exact hk.symm))) (.int .i64 v2)) (ok' := fun _ => True) (fun _ _ => trivial)
  have h5 := h.memo.put hp hq
  rw [← e1, ← e2, ← show at_.toNat = p * 2 ^ n.toNat + q by omega] at h5
  exact ⟨below_set (below_set h.bel b1) b2, blk_far (blk_far h.blk (p := ⟨bw, _, none⟩) g1 _) (p := ⟨bt, _, none⟩) g2 _, h.two, h4, h3, h5, h.hM⟩
end

/-! ### spec_spIn: function 59 -/
def spec_spIn.f (a0 : Int) (a1 : Int) : Option (Bool) := if 0 ≤ a1 then (some ((Int.tmod (shr .i64 a0 a1) 2) == 1)) else (none)
set_option maxHeartbeats 8000000 in
set_option maxRecDepth 100000 in
theorem spec_spIn.calls (a0 : Int) (a1 : Int) (r : Bool) (w : World) (h : spec_spIn.f a0 a1 = some r) :
    Calls Try.prog 59 #[.int .i64 a0, .int .i64 a1] w fun e w' => e = .returned (.bool r) ∧ Drawn0 w w' := by
  have H : (if 0 ≤ a1 then (some ((Int.tmod (shr .i64 a0 a1) 2) == 1)) else (none)) = some r := h
  clear h
  by_cases c3 : 0 ≤ a1
  · rw [if_pos c3] at H
    have c3b0 := eq_true c3
    have c3b1 : decide (0 ≤ a1) = true := decide_eq_true c3
    clear c3
    obtain ⟨ji4, hji4⟩ : ∃ j_ : Int, (shr .i64 a0 a1) = j_ := ⟨_, rfl⟩
    replace H : (some ((Int.tmod (ji4) 2) == 1)) = some r := by first | (rw [hji4] at H; exact H) | (simp only [hji4] at H ⊢; exact H)
    have hji4_ : (a0 / 2 ^ min a1.toNat 64) = ji4 := hji4
    have hji4z : a1 ≤ 64 → (a0 / 2 ^ a1.toNat) = ji4 := shr_small hji4
    obtain rfl := Option.some.inj H
    go_enter Try.func59, Try.ntmps59
    go_wp2
    go_ret
    exact ⟨by first | rfl | (simp; done) | (simp only [← hji4] <;> (first | rfl | simp)) | (simp [*]; done), by repeat (first | exact Drawn0.refl _ | apply Drawn0.step)⟩
  · rw [if_neg c3] at H
    exact absurd H (by simp)

-- HAND with spec.spIn
theorem spIn_ok (x i : Nat) (hi : i < 64) : spec_spIn.f (x : Int) (i : Int) = some (x.testBit i) := by
  unfold spec_spIn.f
  rw [if_pos (by omega), shr_nat x i hi, show Int.tmod ((x / 2 ^ i : Nat) : Int) 2 = (((x / 2 ^ i) % 2 : Nat) : Int) from rfl, Nat.testBit_eq_decide_div_mod_eq]
  congr 1
  rw [Bool.eq_iff_iff, beq_iff_eq, decide_eq_true_eq]
  omega

/-! ### spec_asLeft: function 53 -/
def spec_asLeft.l0 : Nat → Int → Int → List Int → List Int → Int → Int → Option (List Int)
 | 0, _, _, _, _, _, _ => none
 | k + 1, x1, x2, x7, x11, x12, x13 => if x13 < x12 then (if 0 ≤ x13 then (if x13 < (x11.length : Int) then (if (Go.bits .andNot .i64 x1 (rd x11 x13)) = 0 then (if (Go.bits .and .i64 x2 (rd x11 x13)) = 0 then (if x7.length < 17592186044416 then (spec_asLeft.l0 k x1 x2 (x7 ++ [rd x11 x13]) x11 x12 (wrap64 (x13 + 1))) else (none)) else (spec_asLeft.l0 k x1 x2 x7 x11 x12 (wrap64 (x13 + 1)))) else (spec_asLeft.l0 k x1 x2 x7 x11 x12 (wrap64 (x13 + 1)))) else (none)) else (none)) else (some x7)
def spec_asLeft.f (k : Nat) (a0_0 : Int) (l0_1 : List Int) (a1 : Int) (a2 : Int) : Option (List Int) := spec_asLeft.l0 k a1 a2 ([] : List Int) l0_1 (l0_1.length : Int) 0
theorem spec_asLeft.mono_l : ∀ k, (∀ y0 y1 y2 y3 y4 y5, LeO (spec_asLeft.l0 k y0 y1 y2 y3 y4 y5) (spec_asLeft.l0 (k + 1) y0 y1 y2 y3 y4 y5))
 | 0 => fun _ _ _ _ _ _ r h => by simp [spec_asLeft.l0] at h
 | k + 1 => by
  have ih0 := spec_asLeft.mono_l k
  ·
   intro y0 y1 y2 y3 y4 y5
   unfold spec_asLeft.l0
   repeat' first
   | (with_reducible exact ih0 _ _ _ _ _ _)
   | (with_reducible exact LeO.refl _)
   | (with_reducible exact LeO.none _)
   | (with_reducible refine LeO.ite ?_ ?_)
   | (with_reducible refine LeO.bind ?_ (fun _ => ?_))
   | exact ih0 _ _ _ _ _ _
   | exact LeO.none _
   | refine LeO.ite ?_ ?_
   | refine LeO.bind ?_ (fun _ => ?_)
theorem spec_asLeft.mono : ∀ a0 a1 a2 a3 k, LeO (spec_asLeft.f k a0 a1 a2 a3) (spec_asLeft.f (k + 1) a0 a1 a2 a3) := by
 intro a0 a1 a2 a3 k
 have ih0 := spec_asLeft.mono_l k
 unfold spec_asLeft.f
 repeat' first
   | (with_reducible exact ih0 _ _ _ _ _ _)
   | (with_reducible exact LeO.refl _)
   | (with_reducible exact LeO.none _)
   | (with_reducible refine LeO.ite ?_ ?_)
   | (with_reducible refine LeO.bind ?_ (fun _ => ?_))
   | exact ih0 _ _ _ _ _ _
   | exact LeO.none _
   | refine LeO.ite ?_ ?_
   | refine LeO.bind ?_ (fun _ => ?_)
set_option maxHeartbeats 8000000 in
set_option maxRecDepth 100000 in
theorem spec_asLeft.calls (k : Nat) (a0_0 : Int) (A0_1 : Option Addr) (c0_1 : Nat) (l0_1 : List Int) (a1 : Int) (a2 : Int) (r : List Int) (w : World) (hr0_1 : Kd.C (Kd.int .i64) w A0_1 l0_1.length l0_1) (hc0_1 : l0_1.length ≤ c0_1) (h : spec_asLeft.f k a0_0 l0_1 a1 a2 = some r) :
  Calls Try.prog 53 #[.agg #[.int .i64 a0_0, .slice A0_1 l0_1.length c0_1], .int .i64 a1, .int .i64 a2] w fun e w' => ∃ v0_ : Value, e = .returned (v0_) ∧ Kd.R (Kd.int .i64) 3 w' w.heap.size (fun _ => True) v0_ r ∧ Below w.heap.size w w' := by
 have hu28 := Try.underlying28
 have HR0_1 := asd hr0_1
 have HC0_1 := asd hc0_1
 clear hr0_1 hc0_1
 have HB := asd (Below.refl w.heap.size w)
 have H : (spec_asLeft.l0 k a1 a2 ([] : List Int) l0_1 (l0_1.length : Int) 0) = some r := h
 clear h
 have H' := asd H
 clear H
 go_enter Try.func53, Try.ntmps53
 go_wp2_with (first | ((with_reducible refine gate_dst (N := 3) rfl ?_); refine box_event ?hg (N := 3) ?hd (cs := #[.int .i64 a0_0, .slice A0_1 l0_1.length c0_1]) (t := 28) ?hr ?_; (case hd => rfl); (case hg => rfl); (case hr => first | (go_simp; done) | (go_simp; rfl)); intro gb101 hg w4 hbox hb; have n0_ := asd (below_step (by repeat (first | (with_reducible first | exact HB.out | apply below_alloc | apply pw_below_drewN | apply below_drew1) | exact HB.out)) hb); have n1_ := asd (hbox); have n2_ := asd ((by rw [hg]; exact (below_size (by repeat (first | (with_reducible first | exact HB.out | apply below_alloc | apply pw_below_drewN | apply below_drew1) | exact HB.out))) : w.heap.size ≤ gb101)); have n3_ := asd ((by rw [hg]; exact (below_size (by repeat (first | (with_reducible first | exact HB.out | apply below_alloc | apply pw_below_drewN | apply below_drew1) | exact HB.out))) : w.heap.size ≤ gb101)); clear HB; have HB := n0_; have BK101 := n1_; have GW101 := n2_; have GE101 := n3_; clear n0_ n1_ n2_ n3_; clear hb hbox hg; have hcz5_0 : w4.cell? ⟨gb101, 0, none⟩ = some (.int .i64 a0_0) := (blk_cell BK101.out 0).trans rfl; have hcz5_1 : w4.cell? ⟨gb101, 1, none⟩ = some (.slice A0_1 l0_1.length c0_1) := (blk_cell BK101.out 1).trans rfl; have hfz5_0 := blk_frozen BK101.out 0; have hfz5_1 := blk_frozen BK101.out 1))
 go_loopg [7, 13] k (fun kq v7 v13 w' => ∃ (x7_1 : List Int) (x13_1 : Int), v13 = .int .i64 x13_1 ∧ Aside0 (spec_asLeft.l0 kq a1 a2 x7_1 l0_1 (l0_1.length : Int) x13_1 = some r) ∧ Aside0 (kq ≤ k) ∧ Aside0 (Kd.R (Kd.int .i64) 3 w' w.heap.size (fun _ => True) v7 x7_1) ∧ Aside0 (w'.heap[gb101]? = some (.cells #[.int .i64 a0_0, (.slice A0_1 l0_1.length c0_1)] 28 (0, 0))) ∧ Aside0 (Below w.heap.size w w'))
 case atStart => exact ⟨(([] : List Int)), (0), (by first | rfl | (simp; done) | (simp [*]; done)), H', ⟨Nat.le_refl _⟩, ⟨by first | exact Kd.R_nil _ _ _ _ _ | exact Kd.N_nil _ _ _ _ _ | exact Kd.V_nil _ _ _ _ _ | exact Kd.Q_nil _ _ _ _ _ | exact Kd.S_nil _ _ _ _ _⟩, ⟨by (with_reducible repeat (first | refine blk_drewN ?_ _ | refine blk_drew ?_ | refine blk_alloc ?_ _)); exact BK101.out⟩, ⟨by repeat (first | (with_reducible first | exact HB.out | apply below_alloc | apply pw_below_drewN | apply below_drew1 | refine below_set ?_ GE101.out) | exact HB.out)⟩⟩
 case round =>
  clear H'
  try clear p2
  try clear c5
  try clear hcz5_0
  try clear hcz5_1
  try clear hfz5_0
  try clear hfz5_1
  try clear HO_7; skip
  obtain ⟨x7_1, x13_1, rfl, HA, HK1, HO_7, BK101, HB⟩ := hrel
  cases gk with
  | zero => exact absurd HA.out (by simp [spec_asLeft.l0])
  | succ k1 =>
   have H := HA.out
   clear HA
   simp only [spec_asLeft.l0] at H
   by_cases c6 : x13_1 < (l0_1.length : Int)
   ·
    rw [if_pos c6] at H
    have c6b0 : decide (x13_1 < (l0_1.length : Int)) = true := decide_eq_true c6
    clear c6
    by_cases c7 : 0 ≤ x13_1
    ·
     rw [if_pos c7] at H
     have c7b0 : decide (0 ≤ x13_1) = true := decide_eq_true c7
     clear c7
     by_cases c8 : x13_1 < (l0_1.length : Int)
     ·
      rw [if_pos c8] at H
      have c8b0 : decide (x13_1 < (l0_1.length : Int)) = true := decide_eq_true c8
      clear c8
      by_cases c9 : (Go.bits .andNot .i64 a1 (rd l0_1 x13_1)) = 0
      ·
       rw [if_pos c9] at H
       have c9b0 : ((Go.bits .andNot .i64 a1 (rd l0_1 x13_1)) == 0) = true := beq_iff_eq.mpr c9
       have c9b1 : ((Go.bits .andNot .i64 a1 (rd l0_1 x13_1)) != 0) = false := bne_eq_false_iff_eq.mpr c9
       clear c9
       by_cases c10 : (Go.bits .and .i64 a2 (rd l0_1 x13_1)) = 0
       ·
        rw [if_pos c10] at H
        have c10b0 : ((Go.bits .and .i64 a2 (rd l0_1 x13_1)) == 0) = true := beq_iff_eq.mpr c10
        have c10b1 : ((Go.bits .and .i64 a2 (rd l0_1 x13_1)) != 0) = false := bne_eq_false_iff_eq.mpr c10
        clear c10
        by_cases c11 : x7_1.length < 17592186044416
        ·
         rw [if_pos c11] at H
         have LMc11 := asd c11
         clear c11
         obtain ⟨y103, hy103⟩ : ∃ y_ : List Int, y_ = (x7_1 ++ [rd l0_1 x13_1]) := ⟨_, rfl⟩
         replace H : (spec_asLeft.l0 k1 a1 a2 y103 l0_1 (l0_1.length : Int) (wrap64 (x13_1 + 1))) = some r := by first | (rw [hy103]; with_reducible exact H) | (have H2_ := (Option.bind_some _ _).symm.trans H; rw [hy103]; with_reducible exact H2_) | (have H2_ := (Option.bind_some _ _).symm.trans H; with_reducible exact H2_) | with_reducible exact H | (rw [hy103]; exact H) | exact H
         have Ny103 := asd hy103
         clear hy103
         have H' := asd H
         clear H
         have p102 : 0 ≤ (x13_1 : Int) := of_decide_eq_true (by first | (with_reducible assumption) | assumption)
         have q102 : x13_1 < (l0_1.length : Int) := of_decide_eq_true (by first | (with_reducible assumption) | assumption)
         obtain ⟨ad102, e102, hx102_0⟩ := Kd.at_int HR0_1.out x13_1 p102 q102
         cases e102
         replace hx102_0 := (HB.out.cell (World.block_lt_of_cell? w _ hx102_0)).trans hx102_0
         replace p102 := eq_true p102
         replace q102 := eq_true q102
         go_wp2_with (first | ((with_reducible refine gate_builtin (b := .append) (xs := #[.tmp 27, .tmp 29]) rfl ?_); at_builtin; refine Kd.R_append (Kd.int .i64) (w0 := w) w.heap.size rfl (.tmp 27) (.tmp 29) 22 3 (.int .i64 0) 8 rfl Try.underlying22 info3 rfl (by decide) (by omega) u7 x7_1 (rd l0_1 x13_1) [.int .i64 (rd l0_1 x13_1)] (fun _ => True) (fun _ => False) rfl rfl ?aP (fun _ hk => hk.elim) ?aF ?aO ?aB ?aS ?aL ?_; (case aP => exact rfl); (case aB => exact (by repeat (first | (with_reducible first | exact HB.out | apply below_alloc | apply pw_below_drewN | apply below_drew1 | refine below_set ?_ GE101.out) | exact HB.out))); (case aF => exact (fun _ _ => trivial)); (case aO => exact (upR <| HO_7.out)); (case aS => exact (below_size (by repeat (first | (with_reducible first | exact HB.out | apply below_alloc | apply pw_below_drewN | apply below_drew1 | refine below_set ?_ GE101.out) | exact HB.out)))); (case aL => have := LMc11.out; omega); intro v104 w12 ho hb hg hat; rw [← Ny103.out] at ho; have n0_ := asd (blk_grown (upB BK101.out) hg (Kd.R_ne HO_7.out BK101.out (by decide))); have n1_ := asd (hb); have n2_ := asd (ho); clear BK101; clear HB; clear HO_7; have BK101 := n0_; have HB := n1_; have HO105 := n2_; clear n0_ n1_ n2_; clear ho hb hg hat))
         go_roundg k1
         case measure => have := HK1.out; omega
         case rel => exact ⟨(y103), (wrap64 (x13_1 + 1)), (by first | rfl | (simp; done) | (simp [*]; done)), H', ⟨by have := HK1.out; omega⟩, ⟨by (with_reducible repeat (first | apply Kd.R_alloc | apply Kd.R_drewN | apply Kd.R_drew)); exact HO105.out⟩, ⟨by (with_reducible repeat (first | refine blk_drewN ?_ _ | refine blk_drew ?_ | refine blk_alloc ?_ _)); exact BK101.out⟩, ⟨by repeat (first | (with_reducible first | exact HB.out | apply below_alloc | apply pw_below_drewN | apply below_drew1 | refine below_set ?_ GE101.out) | exact HB.out)⟩⟩
        ·
         rw [if_neg c11] at H
         exact absurd H (by simp)
       ·
        rw [if_neg c10] at H
        have c10b0 : ((Go.bits .and .i64 a2 (rd l0_1 x13_1)) == 0) = false := beq_eq_false_iff_ne.mpr c10
        have c10b1 : ((Go.bits .and .i64 a2 (rd l0_1 x13_1)) != 0) = true := bne_iff_ne.mpr c10
        have H' := asd H
        clear H
        have p102 : 0 ≤ (x13_1 : Int) := of_decide_eq_true (by first | (with_reducible assumption) | assumption)
        have q102 : x13_1 < (l0_1.length : Int) := of_decide_eq_true (by first | (with_reducible assumption) | assumption)
        obtain ⟨ad102, e102, hx102_0⟩ := Kd.at_int HR0_1.out x13_1 p102 q102
        cases e102
        replace hx102_0 := (HB.out.cell (World.block_lt_of_cell? w _ hx102_0)).trans hx102_0
        replace p102 := eq_true p102
        replace q102 := eq_true q102
        go_wp2
        go_roundg k1
        case measure => have := HK1.out; omega
        case rel => exact ⟨(x7_1), (wrap64 (x13_1 + 1)), (by first | rfl | (simp; done) | (simp [*]; done)), H', ⟨by have := HK1.out; omega⟩, ⟨by (with_reducible repeat (first | apply Kd.R_alloc | apply Kd.R_drewN | apply Kd.R_drew)); exact HO_7.out⟩, ⟨by (with_reducible repeat (first | refine blk_drewN ?_ _ | refine blk_drew ?_ | refine blk_alloc ?_ _)); exact BK101.out⟩, ⟨by repeat (first | (with_reducible first | exact HB.out | apply below_alloc | apply pw_below_drewN | apply below_drew1 | refine below_set ?_ GE101.out) | exact HB.out)⟩⟩
      ·
       rw [if_neg c9] at H
       have c9b0 : ((Go.bits .andNot .i64 a1 (rd l0_1 x13_1)) == 0) = false := beq_eq_false_iff_ne.mpr c9
       have c9b1 : ((Go.bits .andNot .i64 a1 (rd l0_1 x13_1)) != 0) = true := bne_iff_ne.mpr c9
       have H' := asd H
       clear H
       have p102 : 0 ≤ (x13_1 : Int) := of_decide_eq_true (by first | (with_reducible assumption) | assumption)
       have q102 : x13_1 < (l0_1.length : Int) := of_decide_eq_true (by first | (with_reducible assumption) | assumption)
       obtain ⟨ad102, e102, hx102_0⟩ := Kd.at_int HR0_1.out x13_1 p102 q102
       cases e102
       replace hx102_0 := (HB.out.cell (World.block_lt_of_cell? w _ hx102_0)).trans hx102_0
       replace p102 := eq_true p102
       replace q102 := eq_true q102
       go_wp2
       go_roundg k1
       case measure => have := HK1.out; omega
       case rel => exact ⟨(x7_1), (wrap64 (x13_1 + 1)), (by first | rfl | (simp; done) | (simp [*]; done)), H', ⟨by have := HK1.out; omega⟩, ⟨by (with_reducible repeat (first | apply Kd.R_alloc | apply Kd.R_drewN | apply Kd.R_drew)); exact HO_7.out⟩, ⟨by (with_reducible repeat (first | refine blk_drewN ?_ _ | refine blk_drew ?_ | refine blk_alloc ?_ _)); exact BK101.out⟩, ⟨by repeat (first | (with_reducible first | exact HB.out | apply below_alloc | apply pw_below_drewN | apply below_drew1 | refine below_set ?_ GE101.out) | exact HB.out)⟩⟩
     ·
      rw [if_neg c8] at H
      exact absurd H (by simp)
    ·
     rw [if_neg c7] at H
     exact absurd H (by simp)
   ·
    rw [if_neg c6] at H
    have c6b0 : decide (x13_1 < (l0_1.length : Int)) = false := decide_eq_false c6
    clear c6
    obtain rfl := Option.some.inj H
    go_wp2
    go_ret
    exact ⟨_, by first | rfl | (simp [errW_none, errW_some] <;> rfl) | (simp [*, errW_none, errW_some] <;> rfl), by (with_reducible repeat (first | apply Kd.R_alloc | apply Kd.R_drewN | apply Kd.R_drew)); exact HO_7.out, by repeat (first | (with_reducible first | exact HB.out | apply below_alloc | apply pw_below_drewN | apply below_drew1 | refine below_set ?_ GE101.out) | exact HB.out)⟩

-- HAND with spec.asLeft
theorem asLeft_loop (l : List Int) (y n : Int) (hy : I128 y) (hn : I128 n) (hM : ∀ x ∈ l, I128 x) (hlen : l.length < 17592186044416) : ∀ (b a out : List Int), a ++ b = l → out.length ≤ a.length → Ev (fun k => spec_asLeft.l0 k y n out l l.length a.length) (out ++ b.filter (keeps y n))
  | [], a, out, hab, ho => by
    rw [List.append_nil] at hab
    subst hab
    exact Ev.succ (fun k => by simp only [spec_asLeft.l0]; rw [if_neg (by omega)]) (Ev.const (by simp))
  | x :: b, a, out, hab, ho => by
    have hlt : a.length < l.length := by rw [← hab]; simp
    have hrd : rd l (a.length : Int) = x := by rw [← hab]; exact rd_append a b x
    have hx := hM x (by rw [← hab]; simp)
    have hk : keeps y n x = (decide (nd y.toNat x.toNat = 0) && decide (x.toNat &&& n.toNat = 0)) := rfl
    have hrest : ∀ out' : List Int, out'.length ≤ a.length + 1 → Ev (fun k => spec_asLeft.l0 k y n out' l l.length (wrap64 ((a.length : Int) + 1))) (out' ++ b.filter (keeps y n)) := fun out' ho' => by
      have := asLeft_loop l y n hy hn hM hlen b (a ++ [x]) out' (by rw [List.append_assoc]; exact hab) (by simpa using ho')
      rw [List.length_append, List.length_singleton] at this
      rw [wrap_succ (by omega) (by omega)]
      push_cast at this
      exact this
    by_cases h1 : nd y.toNat x.toNat = 0
    · by_cases h2 : x.toNat &&& n.toNat = 0
      · rw [List.filter_cons_of_pos (by rw [hk]; simp [h1, h2])]
        refine Ev.succ (fun k => by simp only [spec_asLeft.l0]; rw [if_pos (by omega), if_pos (by omega), if_pos (by omega), hrd, nd_int hy hx, if_pos (by omega), and_int hn hx, if_pos (by rw [Nat.and_comm]; omega), if_pos (by omega)]) (Ev.val (hrest (out ++ [x]) (by simp; omega)) (by simp))
      · rw [List.filter_cons_of_neg (by rw [hk]; simp [h2])]
        exact Ev.succ (fun k => by simp only [spec_asLeft.l0]; rw [if_pos (by omega), if_pos (by omega), if_pos (by omega), hrd, nd_int hy hx, if_pos (by omega), and_int hn hx, if_neg (by rw [Nat.and_comm]; omega)]) (hrest out (by omega))
    · rw [List.filter_cons_of_neg (by rw [hk]; simp [h1])]
      exact Ev.succ (fun k => by simp only [spec_asLeft.l0]; rw [if_pos (by omega), if_pos (by omega), if_pos (by omega), hrd, nd_int hy hx, if_neg (by omega)]) (hrest out (by omega))
theorem asLeft_ok {l : List Int} (a0 : Int) {y n : Int} (hy : I128 y) (hn : I128 n) (hM : ∀ x ∈ l, I128 x) (hlen : l.length < 17592186044416) : Ev (fun k => spec_asLeft.f k a0 l y n) (leftL l y n) := asLeft_loop l y n hy hn hM hlen l [] [] rfl (Nat.le_refl _)

-- HAND spec_asTable_closed: function 97
set_option maxHeartbeats 8000000 in
set_option maxRecDepth 100000 in
theorem spec_asTable_closed.calls {wb w : World} {g bw bt cw ct M : Nat} {n : Int} {A : Option Addr} {c : Nat} {l W T : List Int} {y x p q : Nat} (hS : TabS wb w g bw bt cw ct M n A c l W T) (hl : Kd.C (Kd.int .i64) wb A l.length l) (hc : l.length ≤ c) (kL kK : Nat) (hL : spec_asLeft.f kL n l (y : Int) (x : Int) = some (leftL l (y : Int) (x : Int))) (hK : spec_asKnown.f kK n l (leftL l (y : Int) (x : Int)) = some ((p : Int), (q : Int))) :
    Calls Try.prog 97 #[.pointer (some ⟨g, 0, none⟩), .int .i64 (y : Int), .int .i64 (x : Int)] w fun e w' => ∃ (A1 : Option Addr) (c1 : Nat), e = .returned (.tuple #[.slice A1 (leftL l (y : Int) (x : Int)).length c1, .int .i64 (p : Int), .int .i64 (q : Int)]) ∧ Below w.heap.size w w' := by
  have hu := Try.underlying28
  have hu2 := Try.underlying102
  have HS := Aside0.mk hS
  have HL := Aside0.mk hl
  have HC := Aside0.mk hc
  have HA := Aside0.mk hL
  have HK := Aside0.mk hK
  have HB := Aside0.mk (Below.refl w.heap.size w)
  have q0 := hS.cells.1
  have q1 := hS.cells.2.1
  clear hS hl hc hL hK
  generalize leftL l (y : Int) (x : Int) = L at *
  generalize (y : Int) = yi at *
  generalize (x : Int) = xi at *
  generalize (p : Int) = pi at *
  generalize (q : Int) = qi at *
  go_enter Try.func97, Try.ntmps97
  go_wp2_with (first | (go_at_call 53; (with_reducible refine (spec_asLeft.calls kL n _ _ l yi xi L _ ?sa HC.out HA.out).mono ?_); (case sa => exact Kd.C_below HL.out HS.out.bel); rintro e W4 ⟨vL, rfl, hR, hb4⟩; have HS4 := Aside0.mk (HS.out.below hb4); have HB4 := Aside0.mk (below_step HB.out hb4); obtain ⟨AL, cL, rfl⟩ := Kd.R_slice hR; have HRL := Aside0.mk (Kd.R_reads' hR).2.2; have HCL := Aside0.mk (Kd.R_reads' hR).2.1; have r0 := HS4.out.cells.1; have r1 := HS4.out.cells.2.1; clear hR hb4 q0 q1) | (go_at_call 130; (with_reducible refine (spec_asKnown.calls kK n _ _ l _ _ L pi qi _ ?ka HC.out HRL.out HCL.out HK.out).mono ?_); (case ka => exact Kd.C_below HL.out HS4.out.bel); rintro e W5 ⟨rfl, hb5⟩; have HB5 := Aside0.mk (below_step HB4.out hb5); clear hb5))
  go_ret3
  exact ⟨AL, cL, rfl, HB5.out⟩

/-! ### spec_l1Least: function 98 -/
def spec_l1Least.f (a0 : Int) (a1 : Int) : Option (Int) := if a0 < a1 then (some a0) else (some a1)
set_option maxHeartbeats 8000000 in
set_option maxRecDepth 100000 in
theorem spec_l1Least.calls (a0 : Int) (a1 : Int) (r : Int) (w : World) (h : spec_l1Least.f a0 a1 = some r) :
    Calls Try.prog 98 #[.int .i64 a0, .int .i64 a1] w fun e w' => e = .returned (.int .i64 r) ∧ Drawn0 w w' := by
  have H : (if a0 < a1 then (some a0) else (some a1)) = some r := h
  clear h
  by_cases c3 : a0 < a1
  · rw [if_pos c3] at H
    have c3b0 : decide (a0 < a1) = true := decide_eq_true c3
    clear c3
    obtain rfl := Option.some.inj H
    go_enter Try.func98, Try.ntmps98
    go_wp2
    go_ret
    exact ⟨by first | rfl | (simp; done) | (simp [*]; done), by repeat (first | exact Drawn0.refl _ | apply Drawn0.step)⟩
  · rw [if_neg c3] at H
    have c3b0 : decide (a0 < a1) = false := decide_eq_false c3
    clear c3
    obtain rfl := Option.some.inj H
    go_enter Try.func98, Try.ntmps98
    go_wp2
    go_ret
    exact ⟨by first | rfl | (simp; done) | (simp [*]; done), by repeat (first | exact Drawn0.refl _ | apply Drawn0.step)⟩

/-! ### spec_l1Most: function 99 -/
def spec_l1Most.f (a0 : Int) (a1 : Int) : Option (Int) := if a0 > a1 then (some a0) else (some a1)
set_option maxHeartbeats 8000000 in
set_option maxRecDepth 100000 in
theorem spec_l1Most.calls (a0 : Int) (a1 : Int) (r : Int) (w : World) (h : spec_l1Most.f a0 a1 = some r) :
    Calls Try.prog 99 #[.int .i64 a0, .int .i64 a1] w fun e w' => e = .returned (.int .i64 r) ∧ Drawn0 w w' := by
  have H : (if a0 > a1 then (some a0) else (some a1)) = some r := h
  clear h
  by_cases c3 : a0 > a1
  · rw [if_pos c3] at H
    have c3b0 : decide (a1 < a0) = true := decide_eq_true c3
    clear c3
    obtain rfl := Option.some.inj H
    go_enter Try.func99, Try.ntmps99
    go_wp2
    go_ret
    exact ⟨by first | rfl | (simp; done) | (simp [*]; done), by repeat (first | exact Drawn0.refl _ | apply Drawn0.step)⟩
  · rw [if_neg c3] at H
    have c3b0 : decide (a1 < a0) = false := decide_eq_false c3
    clear c3
    obtain rfl := Option.some.inj H
    go_enter Try.func99, Try.ntmps99
    go_wp2
    go_ret
    exact ⟨by first | rfl | (simp; done) | (simp [*]; done), by repeat (first | exact Drawn0.refl _ | apply Drawn0.step)⟩

-- HAND spec_asTable_least: function 45
set_option maxHeartbeats 8000000 in
set_option maxRecDepth 100000 in
theorem spec_asTable_least.calls {wb : World} {g bw bt cw ct M : Nat} {n : Int} {A : Option Addr} {c : Nat} {l : List Int} (hsp : isSpaceB n l = true) (hl : Kd.C (Kd.int .i64) wb A l.length l) (hc : l.length ≤ c) :
  ∀ (d y x : Nat) (W T : List Int) (w : World) (hS : TabS wb w g bw bt cw ct M n A c l W T) (hy : y < 2 ^ n.toNat) (hx : x < 2 ^ n.toNat) (hne : leftL l (y : Int) (x : Int) ≠ []) (hd : (itemsN (openS (leftL l (y : Int) (x : Int)))).length ≤ d),
  Calls Try.prog 45 #[.pointer (some ⟨g, 0, none⟩), .int .i64 (y : Int), .int .i64 (x : Int)] w fun e w' => e = .returned (.tuple #[.int .i64 (valV cW 7 (leftL l (y : Int) (x : Int))), .int .i64 (valV cT 7 (leftL l (y : Int) (x : Int)))]) ∧ ∃ W' T', TabS wb w' g bw bt cw ct M n A c l W' T' := by
 have hu := Try.underlying28
 have hu2 := Try.underlying102
 have HL := asd hl
 have HC := asd hc
 obtain ⟨n1, n7, _⟩ := isSpaceB_parts hsp
 have HM : Aside0 (∀ z ∈ l, I128 z) := ⟨isSpaceB_i128 hsp⟩
 have HMn : Aside0 (∀ z ∈ l, 0 ≤ z ∧ z < 2 ^ n.toNat) := ⟨fun z hz => isSpaceB_mem hsp z hz⟩
 have HLL : Aside0 (l.length ≤ 128) := ⟨isSpaceB_len hsp⟩
 have HRI : Aside0 (l.Pairwise (· < ·)) := ⟨isSpaceB_rise hsp⟩
 clear hl hc hsp
 obtain ⟨N, rfl⟩ := Int.eq_ofNat_of_zero_le (show 0 ≤ n by omega)
 rw [Int.toNat_natCast] at HMn
 rw [Int.toNat_natCast]
 have N7 : N ≤ 7 := by omega
 have HN1 : Aside0 (1 ≤ N) := ⟨by omega⟩
 have HP : Aside0 (2 ^ N ≤ 128) := ⟨Nat.pow_le_pow_right (show 0 < 2 by decide) N7⟩
 clear n1 n7
 intro d
 induction d using Nat.strongRecOn with
 | ind d ih =>
 intro y x W T w hS hy hx hne hd
 have IH := asd ih
 have HS := asd hS
 have HMM := hS.hM
 rw [Int.toNat_natCast] at HMM
 obtain ⟨p, q, ht⟩ := told_ex N l y x
 have HT := asd ht
 have HLE := asd (ht.left HM.out hy hx hne)
 have HOB : Aside0 (∀ i, i < N → (openS (leftL l (y : Int) (x : Int))).testBit i = !(p ||| q).testBit i) := ⟨fun i hi => ht.open_ hi N7⟩
 have HOL : Aside0 (∀ i, (openS (leftL l (y : Int) (x : Int))).testBit i = true → i < N) := ⟨fun i hi => left_lt (n := N) HMn.out hi⟩
 have HML : Aside0 (∀ z ∈ leftL l (y : Int) (x : Int), I128 z) := ⟨fun z hz => HM.out z (leftL_sub hz)⟩
 have HRL : Aside0 ((leftL l (y : Int) (x : Int)).Pairwise (· < ·)) := ⟨HRI.out.sublist List.filter_sublist⟩
 have HLN : Aside0 ((leftL l (y : Int) (x : Int)).length ≤ 128) := ⟨Nat.le_trans (leftL_length l _ _) HLL.out⟩
 have HL0 : Aside0 (0 < (leftL l (y : Int) (x : Int)).length) := ⟨List.length_pos_iff.2 hne⟩
 have HD := asd hd
 obtain ⟨kL, hkL⟩ := asLeft_ok (l := l) (N : Int) (y := (y : Int)) (n := (x : Int)) ⟨by omega, by have := HP.out; omega⟩ ⟨by omega, by have := HP.out; omega⟩ HM.out (by have := HLL.out; omega)
 obtain ⟨kK, hkK⟩ := asKnown_ok (n := (N : Int)) (by have := HN1.out; omega) (by omega) l (leftL l (y : Int) (x : Int)) (by have := HLN.out; omega) HML.out
 have HKL := asd (hkL kL (Nat.le_refl _))
 have hkK2 := hkK kK (Nat.le_refl _)
 rw [Int.toNat_natCast, ht.eq] at hkK2
 have HKK := asd hkK2
 have hp := ht.hp
 have hq := ht.hq
 have HPL := place_lt hp hq
 have HAT : Aside0 ((p : Int) * 2 ^ N = ((p * 2 ^ N : Nat) : Int)) := ⟨by push_cast; rfl⟩
 have hplt : p * 2 ^ N < 128 * 128 := by
  have h1 := Nat.mul_le_mul (show p ≤ 127 by have := HP.out; omega) HP.out
  omega
 obtain ⟨P, hP⟩ : ∃ P : Int, P = ((p * 2 ^ N : Nat) : Int) := ⟨_, rfl⟩
 obtain ⟨AT, hAT⟩ : ∃ AT : Int, AT = ((p * 2 ^ N + q : Nat) : Int) := ⟨_, rfl⟩
 have hN64 : N ≤ 64 := by omega
 have hP0 : -9223372036854775808 ≤ ((p * 2 ^ N : Nat) : Int) := by omega
 have hP1 : ((p * 2 ^ N : Nat) : Int) ≤ 9223372036854775807 := by omega
 have hP2 : p * 2 ^ N < 9223372036854775808 := by omega
 have hq63 : q < 9223372036854775808 := by have := HP.out; omega
 have a0 : 0 ≤ AT := by omega
 have a1 : AT < (M : Int) := by rw [HMM]; omega
 have s1 : IntKind.i64.wrap ((p : Int) * 2 ^ min N 64) = P := by rw [Nat.min_eq_left hN64, HAT.out, hP, i64_w]; exact wrap_in hP0 hP1
 have s2 : wrap64 ((p : Int) * 2 ^ min N 64) = P := (i64_w _).symm.trans s1
 have s3 : IntKind.i64.wrap ((p : Int) * 2 ^ N) = P := by rw [Nat.min_eq_left hN64] at s1; exact s1
 have s4 : wrap64 ((p : Int) * 2 ^ N) = P := (i64_w _).symm.trans s3
 have s5 : Go.bits .or .i64 P (q : Int) = AT := by rw [hP, hAT, bits_or _ _ hP2 hq63, place_or hq]
 have HATE := asd hAT
 clear hN64 hP0 hP1 hP2 hq63
 obtain ⟨hcw, hfw⟩ := Kd.R_celln 0 HS.out.rw AT a0 a1
 obtain ⟨hct, hft⟩ := Kd.R_celln 0 HS.out.rt AT a0 a1
 have hmemo := HS.out.memo.ok p q (by rw [Int.toNat_natCast]; exact hp) (by rw [Int.toNat_natCast]; exact hq)
 rw [Int.toNat_natCast, ← hAT, HLE.out] at hmemo
 have HME : Aside0 (rdOf 0 W AT = 0 ∨ rdOf 0 W AT = valV cW 7 (leftL l (y : Int) (x : Int)) + 1 ∧ rdOf 0 T AT = valV cT 7 (leftL l (y : Int) (x : Int)) + 1) := ⟨hmemo⟩
 have HPQ : Aside0 (p < 2 ^ N ∧ q < 2 ^ N) := ⟨⟨hp, hq⟩⟩
 have HCL : Aside0 (∀ w, TabS wb w g bw bt cw ct M (N : Int) A c l W T → Calls Try.prog 97 #[.pointer (some ⟨g, 0, none⟩), .int .i64 (y : Int), .int .i64 (x : Int)] w fun e w' => ∃ (A1 : Option Addr) (c1 : Nat), e = .returned (.tuple #[.slice A1 (leftL l (y : Int) (x : Int)).length c1, .int .i64 (p : Int), .int .i64 (q : Int)]) ∧ Below w.heap.size w w') := ⟨fun w h => spec_asTable_closed.calls h HL.out HC.out kL kK HKL.out HKK.out⟩
 have HCH : Aside0 (∀ i, i < N → (openS (leftL l (y : Int) (x : Int))).testBit i = true → (∀ W T w, TabS wb w g bw bt cw ct M (N : Int) A c l W T → Calls Try.prog 45 #[.pointer (some ⟨g, 0, none⟩), .int .i64 ((p ||| 2 ^ i : Nat) : Int), .int .i64 (q : Int)] w fun e w' => e = .returned (.tuple #[.int .i64 (valV cW 7 (hasF i (leftL l (y : Int) (x : Int)))), .int .i64 (valV cT 7 (hasF i (leftL l (y : Int) (x : Int))))]) ∧ ∃ W' T', TabS wb w' g bw bt cw ct M (N : Int) A c l W' T') ∧
   (∀ W T w, TabS wb w g bw bt cw ct M (N : Int) A c l W T → Calls Try.prog 45 #[.pointer (some ⟨g, 0, none⟩), .int .i64 (p : Int), .int .i64 ((q ||| 2 ^ i : Nat) : Int)] w fun e w' => e = .returned (.tuple #[.int .i64 (valV cW 7 (hasntF i (leftL l (y : Int) (x : Int)))), .int .i64 (valV cT 7 (hasntF i (leftL l (y : Int) (x : Int))))]) ∧ ∃ W' T', TabS wb w' g bw bt cw ct M (N : Int) A c l W' T')) := ⟨fun i hi ho => by
  have hmem : i ∈ itemsN (openS (leftL l (y : Int) (x : Int))) := by
   unfold itemsN
   refine List.mem_filter.2 ⟨?_, ho⟩
   simp
   omega
  have o1 := open_part HML.out hasF_sub hmem (hasF_open (show i < 7 by omega))
  have o2 := open_part HML.out hasntF_sub hmem (hasntF_open (show i < 7 by omega))
  obtain ⟨⟨z, hz, hzb⟩, _⟩ := openS_bits _ _ ho
  have hnz : ∃ z ∈ leftL l (y : Int) (x : Int), z.toNat.testBit i = false := by
   rw [openS_bit _ _ (show i < 7 by omega), Bool.and_eq_true, Bool.not_eq_true', List.all_eq_false] at ho
   obtain ⟨_, z, hz, h⟩ := ho
   exact ⟨z, hz, by simpa using h⟩
  obtain ⟨z2, hz2, hzb2⟩ := hnz
  have e1 := left_has HM.out p q i
  have e2 := left_hasnt HM.out p q i
  rw [HLE.out] at e1 e2
  have hp2 : p ||| 2 ^ i < 2 ^ N := Nat.or_lt_two_pow hp (Nat.pow_lt_pow_right (by decide) hi)
  have hq2 : q ||| 2 ^ i < 2 ^ N := Nat.or_lt_two_pow hq (Nat.pow_lt_pow_right (by decide) hi)
  constructor
  ·
   intro W T w h
   have h1 := IH.out ((itemsN (openS (hasF i (leftL l (y : Int) (x : Int))))).length) (by have := HD.out; omega) (p ||| 2 ^ i) q W T w h hp2 hq (by rw [e1]; exact List.ne_nil_of_mem (List.mem_filter.2 ⟨hz, hzb⟩)) (by rw [e1]; exact Nat.le_refl _)
   rw [e1] at h1
   exact h1
  ·
   intro W T w h
   have h1 := IH.out ((itemsN (openS (hasntF i (leftL l (y : Int) (x : Int))))).length) (by have := HD.out; omega) p (q ||| 2 ^ i) W T w h hp hq2 (by rw [e2]; exact List.ne_nil_of_mem (List.mem_filter.2 ⟨hz2, by rw [hzb2]; rfl⟩)) (by rw [e2]; exact Nat.le_refl _)
   rw [e2] at h1
   exact h1⟩
 have HFW : Aside0 ((leftL l (y : Int) (x : Int)).length ≠ 1 → foldS (vW (leftL l (y : Int) (x : Int))) (openS (leftL l (y : Int) (x : Int))) N 0 1073741824 = valV cW 7 (leftL l (y : Int) (x : Int)) ∧ foldS (vT (leftL l (y : Int) (x : Int))) (openS (leftL l (y : Int) (x : Int))) N 0 1073741824 = valV cT 7 (leftL l (y : Int) (x : Int))) := ⟨fun h1 => ⟨foldW HML.out HRL.out (by have := HL0.out; omega) HOL.out N7, foldT HML.out HLN.out HRL.out (by have := HL0.out; omega) HOL.out N7⟩⟩
 have HV1 : Aside0 ((leftL l (y : Int) (x : Int)).length = 1 → valV cW 7 (leftL l (y : Int) (x : Int)) = 0 ∧ valV cT 7 (leftL l (y : Int) (x : Int)) = 0) := ⟨fun h1 => ⟨valV_one cW HML.out h1, valV_one cT HML.out h1⟩⟩
 have HVB : Aside0 ((0 ≤ valV cW 7 (leftL l (y : Int) (x : Int)) ∧ valV cW 7 (leftL l (y : Int) (x : Int)) ≤ 7) ∧ 0 ≤ valV cT 7 (leftL l (y : Int) (x : Int)) ∧ valV cT 7 (leftL l (y : Int) (x : Int)) ≤ 1024) := ⟨⟨valW_bounds 7 _, by have h1 := valT_bounds 7 (leftL l (y : Int) (x : Int)); have h2 := HLN.out; omega⟩⟩
 have HPUT : Aside0 (∀ (W T : List Int) (w : World) (v1 v2 : Int), TabS wb w g bw bt cw ct M (N : Int) A c l W T → v1 = valV cW 7 (leftL l (y : Int) (x : Int)) + 1 → v2 = valV cT 7 (leftL l (y : Int) (x : Int)) + 1 → TabS wb ((w.setCell ⟨bw, AT.toNat, none⟩ (.int .i64 v1)).setCell ⟨bt, AT.toNat, none⟩ (.int .i64 v2)) g bw bt cw ct M (N : Int) A c l (W.set AT.toNat v1) (T.set AT.toNat v2)) := ⟨fun W T w v1 v2 h e1 e2 => by
  refine TabS.put h (p := p) (q := q) (by rw [Int.toNat_natCast]; exact hp) (by rw [Int.toNat_natCast]; exact hq) (by rw [Int.toNat_natCast]; exact HATE.out) (by rw [HLE.out]; exact e1) (by rw [HLE.out]; exact e2)⟩
 clear hS hne hd ih ht hkL hkK hkK2 hp hq hplt hmemo HMM HPL hP hAT HAT hcw hfw hct hft IH HT HLE HD HKL HKK HRL HML HL0 HRI HLL HMn HM HATE hy hx N7
 generalize leftL l (y : Int) (x : Int) = L at *
 obtain ⟨VW, hVW⟩ : ∃ v, v = valV cW 7 L := ⟨_, rfl⟩
 obtain ⟨VT, hVT⟩ : ∃ v, v = valV cT 7 L := ⟨_, rfl⟩
 rw [← hVW, ← hVT] at HME HFW HV1 HVB HPUT ⊢
 clear hVW hVT
 generalize (y : Int) = yi at *
 generalize (x : Int) = xi at *
 by_cases h1 : L.length = 1
 ·
  obtain ⟨rfl, rfl⟩ := HV1.out h1
  have b1 : ((L.length : Int) == 1) = true := by rw [h1]; rfl
  go_enter Try.func45, Try.ntmps45
  go_wp2_with (first | (go_at_call 97; (with_reducible refine (HCL.out _ HS.out).mono ?_); rintro e W4 ⟨A1, c1, rfl, hb4⟩; have HS4 := asd (HS.out.below hb4); clear hb4))
  go_ret2
  exact ⟨rfl, W, T, HS4.out⟩
 ·
  have b1 : ((L.length : Int) == 1) = false := beq_eq_false_iff_ne.mpr (by omega)
  rcases HME.out with hz | ⟨hu1, hu2_⟩
  ·
   have HU := asd hz
   clear hz
   obtain ⟨f1, f2⟩ := HFW.out h1
   have HF1 := asd f1
   have HF2 := asd f2
   clear f1 f2 h1 HFW HV1 HME
   have hp2 := HPQ.out.1
   have hq2 := HPQ.out.2
   have HPQ7 : Aside0 (p < 128 ∧ q < 128) := ⟨by have := HP.out; omega⟩
   obtain ⟨PQ, hPQ⟩ : ∃ v : Int, v = ((p ||| q : Nat) : Int) := ⟨_, rfl⟩
   have o1 : Go.bits .or .i64 (p : Int) (q : Int) = PQ := by rw [hPQ, bits_or _ _ (by have := HPQ7.out; omega) (by have := HPQ7.out; omega)]
   have HPQE := asd hPQ
   clear hp2 hq2 hPQ
   go_enter Try.func45, Try.ntmps45
   go_wp2_with (first | (go_at_call 97; (with_reducible refine (HCL.out _ HS.out).mono ?_); rintro e W4 ⟨A1, c1, rfl, hb4⟩; have HS4 := asd (HS.out.below hb4); clear hb4; have q0 := HS4.out.cells.1; have q2 := HS4.out.cells.2.2.1; obtain ⟨hcw, hfw⟩ := Kd.R_celln 0 HS4.out.rw AT a0 a1; rw [HU.out] at hcw))
   clear q0 q2 hcw hfw
   go_loopg [12, 13, 14] N (fun kq v12 v13 v14 wr => ∃ (i : Nat) (b1_ b2_ : Int) (W1 T1 : List Int), v12 = .int .i64 b1_ ∧ v13 = .int .i64 b2_ ∧ v14 = .int .i64 (i : Int) ∧ Aside0 (i + kq = N) ∧ Aside0 (foldS (vW L) (openS L) kq i b1_ = VW ∧ foldS (vT L) (openS L) kq i b2_ = VT) ∧ Aside0 (TabS wb wr g bw bt cw ct M (N : Int) A c l W1 T1))
   case atStart => exact ⟨0, _, _, W, T, rfl, rfl, rfl, ⟨by omega⟩, ⟨HF1.out, HF2.out⟩, HS4⟩
   case round =>
    clear HF1 HF2 HS4 HS HU
    obtain ⟨i, b1_, b2_, W1, T1, rfl, rfl, rfl, hj, HA, HSr⟩ := hrel
    have q0 := HSr.out.cells.1
    cases gk with
    | zero =>
     have hi : i = N := by have := hj.out; omega
     obtain ⟨rfl, rfl⟩ : b1_ = VW ∧ b2_ = VT := HA.out
     have hlt : ¬ ((i : Int) < (N : Int)) := by omega
     have q2 := HSr.out.cells.2.2.1
     obtain ⟨hcw, hfw⟩ := Kd.R_celln 0 HSr.out.rw AT a0 a1
     obtain ⟨v1, hv1⟩ : ∃ v, v = b1_ + 1 := ⟨_, rfl⟩
     obtain ⟨v2, hv2⟩ : ∃ v, v = b2_ + 1 := ⟨_, rfl⟩
     have w1 : IntKind.i64.wrap (b1_ + 1) = v1 := by rw [hv1, i64_w]; exact wrap_in (by have := HVB.out.1.1; omega) (by have := HVB.out.1.2; omega)
     have w2 : IntKind.i64.wrap (b2_ + 1) = v2 := by rw [hv2, i64_w]; exact wrap_in (by have := HVB.out.2.1; omega) (by have := HVB.out.2.2; omega)
     have HV1 := asd hv1
     have HV2 := asd hv2
     clear hv1 hv2
     have w3 : wrap64 (b1_ + 1) = v1 := (i64_w _).symm.trans w1
     have w4 : wrap64 (b2_ + 1) = v2 := (i64_w _).symm.trans w2
     have h3 := HSr.out.half AT.toNat (.int .i64 v1)
     have q3 := h3.1
     obtain ⟨hct, hft⟩ := Kd.R_celln 0 h3.2 AT a0 a1
     clear h3
     go_wp2
     go_ret2
     exact ⟨rfl, _, _, HPUT.out W1 T1 wr v1 v2 HSr.out HV1.out HV2.out⟩
    | succ kn =>
     have hlt : (i : Int) < (N : Int) := by have := hj.out; omega
     have hiN : i < N := by omega
     have HI7 : Aside0 (i < 7) := ⟨by have := HP.out; have h128 : 2 ^ N ≤ 2 ^ 7 := HP.out; have := (Nat.pow_le_pow_iff_right (show 1 < 2 by decide)).1 h128; omega⟩
     have HWS : Aside0 (wrap64 ((i : Int) + 1) = ((i + 1 : Nat) : Int)) := ⟨by rw [wrap_succ (by omega) (by have := HI7.out; omega)]; push_cast; rfl⟩
     obtain ⟨bb, hbb⟩ : ∃ b, b = (p ||| q).testBit i := ⟨_, rfl⟩
     have HIN : Aside0 (spec_spIn.f PQ (i : Int) = some bb) := ⟨by rw [HPQE.out, hbb]; exact spIn_ok _ i (by have := HI7.out; omega)⟩
     have HOI : Aside0 ((openS L).testBit i = !bb) := ⟨by rw [hbb]; exact HOB.out i hiN⟩
     clear hbb
     cases bb with
     | true =>
      have HN : Aside0 (foldS (vW L) (openS L) kn (i + 1) b1_ = VW ∧ foldS (vT L) (openS L) kn (i + 1) b2_ = VT) := ⟨by
       have h := HA.out
       unfold foldS stepS at h
       rw [HOI.out] at h
       exact h⟩
      go_wp2_with (first | (go_at_call 59; (with_reducible refine (spec_spIn.calls PQ (i : Int) true _ HIN.out).mono ?_); rintro e w' ⟨rfl, ⟨nd, rfl⟩⟩; have HS5 := asd (HSr.out.drewN nd); generalize World.drewN wr nd = W5 at *))
      go_roundg kn
      case measure => exact Nat.le_refl _
      case rel => exact ⟨i + 1, b1_, b2_, W1, T1, rfl, rfl, by rw [HWS.out], ⟨by have := hj.out; omega⟩, HN, HS5⟩
     | false =>
      obtain ⟨hc1, hc2⟩ := HCH.out i hiN HOI.out
      obtain ⟨PI, hPI⟩ : ∃ v : Int, v = ((p ||| 2 ^ i : Nat) : Int) := ⟨_, rfl⟩
      obtain ⟨QI, hQI⟩ : ∃ v : Int, v = ((q ||| 2 ^ i : Nat) : Int) := ⟨_, rfl⟩
      rw [← hPI] at hc1
      rw [← hQI] at hc2
      have h2i : (2 : Nat) ^ i < 9223372036854775808 := pow_lt63 i (by have := HI7.out; omega)
      have hi63 : i < 63 := by have := HI7.out; omega
      obtain ⟨sx, hsx⟩ : ∃ v : Int, v = ((2 ^ i : Nat) : Int) := ⟨_, rfl⟩
      have hshl : shl .i64 1 (i : Int) = sx := by rw [hsx]; exact shl_one i hi63
      obtain ⟨g1_, g2_, g3_, g4_, g5_, g6_, g7_, g8_⟩ := shl_ways hshl (by omega)
      rw [Int.toNat_natCast] at g1_ g2_ g3_ g4_ g5_ g6_ g7_ g8_
      have o2 : Go.bits .or .i64 (p : Int) sx = PI := by rw [hsx, hPI]; exact bits_or _ _ (by have := HPQ7.out; omega) h2i
      have o3 : Go.bits .or .i64 (q : Int) sx = QI := by rw [hsx, hQI]; exact bits_or _ _ (by have := HPQ7.out; omega) h2i
      have HAB := asd (And.intro (valW_bounds 7 (hasF i L)) (And.intro (valW_bounds 7 (hasntF i L)) (And.intro (valT_bounds 7 (hasF i L)) (And.intro (valT_bounds 7 (hasntF i L)) (has_hasnt i L)))))
      obtain ⟨av, hav⟩ : ∃ v, v = vW L i := ⟨_, rfl⟩
      obtain ⟨tv, htv⟩ : ∃ v, v = vT L i := ⟨_, rfl⟩
      have HAV := asd hav
      have HTV := asd htv
      unfold vW at hav
      unfold vT at htv
      have HC1 := asd hc1
      have HC2 := asd hc2
      clear hc1 hc2 hPI hQI h2i hi63 hsx hshl
      generalize valV cW 7 (hasF i L) = x1 at *
      generalize valV cW 7 (hasntF i L) = x2 at *
      generalize valV cT 7 (hasF i L) = y1 at *
      generalize valV cT 7 (hasntF i L) = y2 at *
      unfold cW at hav
      unfold cT at htv
      obtain ⟨mx, hmx⟩ : ∃ v, v = if x1 > x2 then x1 else x2 := ⟨_, rfl⟩
      have HMX : Aside0 (spec_l1Most.f x1 x2 = some mx) := ⟨by
       unfold spec_l1Most.f
       rw [hmx]
       split <;> rfl⟩
      have hav2 : 1 + mx = av := by
       rw [hmx, hav]
       split <;> split <;> omega
      have HX8 : Aside0 (0 ≤ av ∧ av ≤ 8) := ⟨by rw [HAV.out]; exact vW_bounds L i⟩
      have HT8 : Aside0 (0 ≤ tv ∧ tv ≤ 1024) := ⟨by rw [HTV.out]; exact vT_bounds HLN.out i⟩
      clear hmx hav
      have z1 : IntKind.i64.wrap (1 + mx) = av := by rw [hav2, i64_w]; exact wrap_in (by have := HX8.out; omega) (by have := HX8.out; omega)
      obtain ⟨ls, hls⟩ : ∃ v, v = (L.length : Int) + y1 := ⟨_, rfl⟩
      have z2 : IntKind.i64.wrap ((L.length : Int) + y1) = ls := by rw [hls, i64_w]; exact wrap_in (by have := HAB.out; omega) (by have := HAB.out; have := HT8.out; omega)
      have z3 : IntKind.i64.wrap (ls + y2) = tv := by rw [hls, ← htv, i64_w]; exact wrap_in (by have := HT8.out; omega) (by have := HT8.out; omega)
      clear hls htv hav2
      have z4 : wrap64 (1 + mx) = av := (i64_w _).symm.trans z1
      have z5 : wrap64 ((L.length : Int) + y1) = ls := (i64_w _).symm.trans z2
      have z6 : wrap64 (ls + y2) = tv := (i64_w _).symm.trans z3
      have HS1 : Aside0 (spec_l1Least.f b1_ av = some (stepS (vW L) (openS L) i b1_)) := ⟨by
       unfold spec_l1Least.f stepS
       rw [HOI.out, if_pos (show (!false) = true from rfl), ← HAV.out]
       split <;> split <;> first | rfl | (congr 1; omega)⟩
      have HS2 : Aside0 (spec_l1Least.f b2_ tv = some (stepS (vT L) (openS L) i b2_)) := ⟨by
       unfold spec_l1Least.f stepS
       rw [HOI.out, if_pos (show (!false) = true from rfl), ← HTV.out]
       split <;> split <;> first | rfl | (congr 1; omega)⟩
      have HN : Aside0 (foldS (vW L) (openS L) kn (i + 1) (stepS (vW L) (openS L) i b1_) = VW ∧ foldS (vT L) (openS L) kn (i + 1) (stepS (vT L) (openS L) i b2_) = VT) := HA
      generalize stepS (vW L) (openS L) i b1_ = n1 at *
      generalize stepS (vT L) (openS L) i b2_ = n2 at *
      clear HA HAB
      go_wp2_with (first | (go_at_call 59; (with_reducible refine (spec_spIn.calls PQ (i : Int) false _ HIN.out).mono ?_); rintro e w' ⟨rfl, ⟨nd, rfl⟩⟩; have HS5 := asd (HSr.out.drewN nd); generalize World.drewN wr nd = W5 at *) | (go_at_call 45; (first | ((with_reducible refine (HC1.out _ _ _ HS5.out).mono ?_); rintro e W6 ⟨rfl, W2_, T2_, hS6⟩; have HS6 := asd hS6; clear hS6) | ((with_reducible refine (HC2.out _ _ _ HS6.out).mono ?_); rintro e W7 ⟨rfl, W3_, T3_, hS7⟩; have HS7 := asd hS7; clear hS7))) | (go_at_call 99; (with_reducible refine (spec_l1Most.calls x1 x2 mx _ HMX.out).mono ?_); rintro e w' ⟨rfl, ⟨nd8, rfl⟩⟩; have HS8 := asd (HS7.out.drewN nd8); generalize World.drewN W7 nd8 = W8 at *) | (go_at_call 98; (first | ((with_reducible refine (spec_l1Least.calls b1_ av n1 _ HS1.out).mono ?_); rintro e w' ⟨rfl, ⟨nd9, rfl⟩⟩; have HS9 := asd (HS8.out.drewN nd9); generalize World.drewN W8 nd9 = W9 at *) | ((with_reducible refine (spec_l1Least.calls b2_ tv n2 _ HS2.out).mono ?_); rintro e w' ⟨rfl, ⟨nd10, rfl⟩⟩; have HS10 := asd (HS9.out.drewN nd10); generalize World.drewN W9 nd10 = W10 at *))))
      go_roundg kn
      case measure => exact Nat.le_refl _
      case rel => exact ⟨i + 1, n1, n2, W3_, T3_, rfl, rfl, by rw [HWS.out], ⟨by have := hj.out; omega⟩, HN, HS10⟩
  ·
   obtain ⟨uW, huW⟩ : ∃ v, v = VW + 1 := ⟨_, rfl⟩
   obtain ⟨uT, huT⟩ : ∃ v, v = VT + 1 := ⟨_, rfl⟩
   have HU := asd (hu1.trans huW.symm)
   have HU2 := asd (hu2_.trans huT.symm)
   have d1 : decide (uW > 0) = true := decide_eq_true (by have := HVB.out.1.1; omega)
   have d2 : decide (0 < uW) = true := d1
   have r1 : IntKind.i64.wrap (uW - 1) = VW := by rw [huW, i64_w, Int.add_sub_cancel]; exact wrap_in (by have := HVB.out.1.1; omega) (by have := HVB.out.1.2; omega)
   have r2 : IntKind.i64.wrap (uT - 1) = VT := by rw [huT, i64_w, Int.add_sub_cancel]; exact wrap_in (by have := HVB.out.2.1; omega) (by have := HVB.out.2.2; omega)
   have r3 : wrap64 (uW - 1) = VW := (i64_w _).symm.trans r1
   have r4 : wrap64 (uT - 1) = VT := (i64_w _).symm.trans r2
   clear huW huT hu1 hu2_
   go_enter Try.func45, Try.ntmps45
   go_wp2_with (first | (go_at_call 97; (with_reducible refine (HCL.out _ HS.out).mono ?_); rintro e W4 ⟨A1, c1, rfl, hb4⟩; have HS4 := asd (HS.out.below hb4); clear hb4; have q0 := HS4.out.cells.1; have q2 := HS4.out.cells.2.2.1; have q3 := HS4.out.cells.2.2.2; obtain ⟨hcw, hfw⟩ := Kd.R_celln 0 HS4.out.rw AT a0 a1; obtain ⟨hct, hft⟩ := Kd.R_celln 0 HS4.out.rt AT a0 a1; rw [HU.out] at hcw; rw [HU2.out] at hct))
   go_quiet (fail)
   go_wp2
   go_ret2
   exact ⟨rfl, W, T, by first | exact HS4.out | exact HS4.out.drewN _⟩

/-! ### spec_l1In: function 58 -/
def spec_l1In.f (a0 : Int) (a1 : Int) (a2 : Int) : Option (Bool) := if a0 ≥ a1 then (some (decide (a0 ≤ a2))) else (some false)
set_option maxHeartbeats 8000000 in
set_option maxRecDepth 100000 in
theorem spec_l1In.calls (a0 : Int) (a1 : Int) (a2 : Int) (r : Bool) (w : World) (h : spec_l1In.f a0 a1 a2 = some r) :
    Calls Try.prog 58 #[.int .i64 a0, .int .i64 a1, .int .i64 a2] w fun e w' => e = .returned (.bool r) ∧ Drawn0 w w' := by
  have H : (if a0 ≥ a1 then (some (decide (a0 ≤ a2))) else (some false)) = some r := h
  clear h
  by_cases c4 : a0 ≥ a1
  · rw [if_pos c4] at H
    have c4b0 : decide (a1 ≤ a0) = true := decide_eq_true c4
    clear c4
    obtain rfl := Option.some.inj H
    go_enter Try.func58, Try.ntmps58
    go_wp2
    go_ret
    exact ⟨by first | rfl | (simp; done) | (simp [*]; done), by repeat (first | exact Drawn0.refl _ | apply Drawn0.step)⟩
  · rw [if_neg c4] at H
    have c4b0 : decide (a1 ≤ a0) = false := decide_eq_false c4
    clear c4
    obtain rfl := Option.some.inj H
    go_enter Try.func58, Try.ntmps58
    go_wp2
    go_ret
    exact ⟨by first | rfl | (simp; done) | (simp [*]; done), by repeat (first | exact Drawn0.refl _ | apply Drawn0.step)⟩

-- HAND with spec.l1In
theorem l1In_ok (x a b : Int) : spec_l1In.f x a b = some (decide (a ≤ x) && decide (x ≤ b)) := by
  unfold spec_l1In.f
  by_cases h : a ≤ x
  · rw [if_pos h]; simp [h]
  · rw [if_neg h]; simp [h]

/-! ### spec_spItems: function 93 -/
def spec_spItems.f (a0 : Int) : Option (Bool) := (spec_l1In.f a0 1 7).bind fun t101 => (some t101)
set_option maxHeartbeats 8000000 in
set_option maxRecDepth 100000 in
theorem spec_spItems.calls (a0 : Int) (r : Bool) (w : World) (h : spec_spItems.f a0 = some r) :
    Calls Try.prog 93 #[.int .i64 a0] w fun e w' => e = .returned (.bool r) ∧ Drawn0 w w' := by
  have H : ((spec_l1In.f a0 1 7).bind fun t101 => (some t101)) = some r := h
  clear h
  replace H := Option.bind_eq_some_iff.mp H
  obtain ⟨t101, A20, H⟩ := H
  replace H : (some t101) = some r := H
  have A2 := Aside0.mk A20
  clear A20
  obtain rfl := Option.some.inj H
  go_enter Try.func93, Try.ntmps93
  go_wp2_with (first | ((with_reducible refine gate_callee (f := 58) rfl ?_); refine goesL_ (some 4) rfl rfl Try.func58 (by kernel_rfl) rfl #[.int .i64 a0, .int .i64 1, .int .i64 7] rfl (by (try simp only [List.map_toArray, List.map_cons, List.map_nil]); first | done | rfl | (simp only [List.length_drop, List.length_take]; rfl)) ?_; (with_reducible refine (spec_l1In.calls a0 1 7 t101 _ A2.out).mono ?_); rintro e w' ⟨rfl, ⟨nd, rfl⟩⟩; refine ⟨_, rfl, ?_⟩))
  go_ret
  exact ⟨by first | rfl | (simp; done) | (simp [*]; done), by repeat (first | exact Drawn0.refl _ | apply Drawn0.step)⟩

-- HAND with spec.spItems
theorem spItems_ok (n : Int) : spec_spItems.f n = some (decide (1 ≤ n) && decide (n ≤ 7)) := by
  unfold spec_spItems.f
  rw [l1In_ok]
  rfl

end Go.Proofs.Ytkepeflplmkcmaa.Q
