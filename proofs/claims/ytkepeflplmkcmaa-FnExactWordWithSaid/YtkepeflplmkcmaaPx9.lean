/- Contracts of functions that the laws reach: a call returns what the plain Lean function of the same name tells. Conditions: those of each theorem. Made by gen.py, a program of this session, over the print of the translation. -/
import Derived.Test.YtkepeflplmkcmaaPx0
import Derived.Test.YtkepeflplmkcmaaPx1
import Derived.Test.YtkepeflplmkcmaaPx2
import Derived.Test.YtkepeflplmkcmaaPx6
import Derived.Test.YtkepeflplmkcmaaPx8
namespace Go.Proofs.Ytkepeflplmkcmaa.Q
open Go.RowKit Go.Proofs.YtkepeflplmkcmaaW.PrintWords Go.Proofs.YtkepeflplmkcmaaW.PrintLast Go.Proofs.YtkepeflplmkcmaaW.PrintMore
attribute [local go_sem] max2_int min2_int max_two min_two max_three min_three max_four min_four   -- for this text's walks alone
set_option linter.unusedVariables false
set_option linter.unusedSimpArgs false

/-! ### laws_FnExactWordWith: function 6 -/
mutual
def laws_FnExactWordWith.j0 : Nat → Int → List Int → Bool → List Int → Bool → Bool → Int → List Int → Int → List Int → Option (Bool)
 | 0, _, _, _, _, _, _, _, _, _, _ => none
 | k + 1, x1, x6, x7, x9, x10, x44, x102000, x102001, x116000, x116001 => if x44 = true then (some false) else ((laws_toSpace.f k x102000 x102001).bind fun bt121 => ((laws_eqSpace.f k x116000 x116001 bt121.1 bt121.2).bind fun t125 => (if t125 = true then ((laws_markSpace.f k x116000 x116001 1).bind fun bt126 => (if bt126.1 < 0 then (laws_FnExactWordWith.j1 k x1 x6 x7 x9 true x102000 x102001) else ((laws_eqIntS.f k x9 x6).bind fun t128 => (if t128 = true then (laws_FnExactWordWith.j1 k x1 x6 x7 x9 (x10 != x7) x102000 x102001) else (laws_FnExactWordWith.j1 k x1 x6 x7 x9 true x102000 x102001))))) else (some false))))
def laws_FnExactWordWith.j1 : Nat → Int → List Int → Bool → List Int → Bool → Int → List Int → Option (Bool)
 | 0, _, _, _, _, _, _, _ => none
 | k + 1, x1, x6, x7, x9, x65, x102000, x102001 => if x65 = true then (some false) else ((laws_markIntS.f k x9 1).bind fun bt129 => ((laws_heldIntS.f k bt129.2 1).bind fun t131 => (if t131 < 0 then (some false) else (if t131 = bt129.1 then ((laws_toSpace.f k x102000 x102001).bind fun bt132 => ((impl_WordWith.f k bt132.1 bt132.2 x1).bind fun bt136 => ((laws_eqIntS.f k bt136.1 x6).bind fun t140 => (if t140 = true then (laws_FnExactWordWith.j2 k bt129.2 bt129.1 (bt136.2 != x7)) else (laws_FnExactWordWith.j2 k bt129.2 bt129.1 true))))) else (some false)))))
def laws_FnExactWordWith.j2 : Nat → List Int → Int → Bool → Option (Bool)
 | 0, _, _, _ => none
 | k + 1, x9, x12, x92 => if x92 = true then (some false) else ((laws_heldIntS.f k x9 1).bind fun t141 => (if t141 < 0 then (some false) else (if t141 = x12 then (some true) else (some false))))
end
def laws_FnExactWordWith.f (k : Nat) (a0_0 : Int) (l0_1 : List Int) (a1 : Int) : Option (Bool) := (laws_szSpace.f a0_0 l0_1 1048576).bind fun t102 => (if t102 < 0 then (some true) else ((laws_toSpace.f k a0_0 l0_1).bind fun bt103 => ((spec_WordWith.f k bt103.1 bt103.2 a1).bind fun bt107 => ((laws_toSpace.f k a0_0 l0_1).bind fun bt111 => ((impl_WordWith.f k bt111.1 bt111.2 a1).bind fun bt116 => ((laws_eqIntS.f k bt116.1 bt107.1).bind fun t120 => (if t120 = true then (laws_FnExactWordWith.j0 k a1 bt107.1 bt107.2 bt116.1 bt116.2 (bt116.2 != bt107.2) a0_0 l0_1 bt111.1 bt111.2) else (laws_FnExactWordWith.j0 k a1 bt107.1 bt107.2 bt116.1 bt116.2 true a0_0 l0_1 bt111.1 bt111.2))))))))
theorem laws_FnExactWordWith.mono_l : ∀ k, (∀ y0 y1 y2 y3 y4 y5 y6 y7 y8 y9, LeO (laws_FnExactWordWith.j0 k y0 y1 y2 y3 y4 y5 y6 y7 y8 y9) (laws_FnExactWordWith.j0 (k + 1) y0 y1 y2 y3 y4 y5 y6 y7 y8 y9)) ∧ (∀ y0 y1 y2 y3 y4 y5 y6, LeO (laws_FnExactWordWith.j1 k y0 y1 y2 y3 y4 y5 y6) (laws_FnExactWordWith.j1 (k + 1) y0 y1 y2 y3 y4 y5 y6)) ∧ (∀ y0 y1 y2, LeO (laws_FnExactWordWith.j2 k y0 y1 y2) (laws_FnExactWordWith.j2 (k + 1) y0 y1 y2))
 | 0 => ⟨fun _ _ _ _ _ _ _ _ _ _ r h => by simp [laws_FnExactWordWith.j0] at h, fun _ _ _ _ _ _ _ r h => by simp [laws_FnExactWordWith.j1] at h, fun _ _ _ r h => by simp [laws_FnExactWordWith.j2] at h⟩
 | k + 1 => by
  obtain ⟨ih0, ih1, ih2⟩ := laws_FnExactWordWith.mono_l k
  refine ⟨?_, ?_, ?_⟩
  ·
   intro y0 y1 y2 y3 y4 y5 y6 y7 y8 y9
   unfold laws_FnExactWordWith.j0
   repeat' first
   | (with_reducible exact ih0 _ _ _ _ _ _ _ _ _ _)
   | (with_reducible exact ih1 _ _ _ _ _ _ _)
   | (with_reducible exact ih2 _ _ _)
   | (with_reducible exact impl_WordWith.mono _ _ _ _)
   | (with_reducible exact laws_eqIntS.mono _ _ _)
   | (with_reducible exact laws_eqSpace.mono _ _ _ _ _)
   | (with_reducible exact laws_heldIntS.mono _ _ _)
   | (with_reducible exact laws_markIntS.mono _ _ _)
   | (with_reducible exact laws_markSpace.mono _ _ _ _)
   | (with_reducible exact laws_toSpace.mono _ _ _)
   | (with_reducible exact spec_WordWith.mono _ _ _ _)
   | (with_reducible exact LeO.refl _)
   | (with_reducible exact LeO.none _)
   | (with_reducible refine LeO.ite ?_ ?_)
   | (with_reducible refine LeO.bind ?_ (fun _ => ?_))
   | exact ih0 _ _ _ _ _ _ _ _ _ _
   | exact ih1 _ _ _ _ _ _ _
   | exact ih2 _ _ _
   | exact impl_WordWith.mono _ _ _ _
   | exact laws_eqIntS.mono _ _ _
   | exact laws_eqSpace.mono _ _ _ _ _
   | exact laws_heldIntS.mono _ _ _
   | exact laws_markIntS.mono _ _ _
   | exact laws_markSpace.mono _ _ _ _
   | exact laws_toSpace.mono _ _ _
   | exact spec_WordWith.mono _ _ _ _
   | exact LeO.none _
   | refine LeO.ite ?_ ?_
   | refine LeO.bind ?_ (fun _ => ?_)
  ·
   intro y0 y1 y2 y3 y4 y5 y6
   unfold laws_FnExactWordWith.j1
   repeat' first
   | (with_reducible exact ih0 _ _ _ _ _ _ _ _ _ _)
   | (with_reducible exact ih1 _ _ _ _ _ _ _)
   | (with_reducible exact ih2 _ _ _)
   | (with_reducible exact impl_WordWith.mono _ _ _ _)
   | (with_reducible exact laws_eqIntS.mono _ _ _)
   | (with_reducible exact laws_eqSpace.mono _ _ _ _ _)
   | (with_reducible exact laws_heldIntS.mono _ _ _)
   | (with_reducible exact laws_markIntS.mono _ _ _)
   | (with_reducible exact laws_markSpace.mono _ _ _ _)
   | (with_reducible exact laws_toSpace.mono _ _ _)
   | (with_reducible exact spec_WordWith.mono _ _ _ _)
   | (with_reducible exact LeO.refl _)
   | (with_reducible exact LeO.none _)
   | (with_reducible refine LeO.ite ?_ ?_)
   | (with_reducible refine LeO.bind ?_ (fun _ => ?_))
   | exact ih0 _ _ _ _ _ _ _ _ _ _
   | exact ih1 _ _ _ _ _ _ _
   | exact ih2 _ _ _
   | exact impl_WordWith.mono _ _ _ _
   | exact laws_eqIntS.mono _ _ _
   | exact laws_eqSpace.mono _ _ _ _ _
   | exact laws_heldIntS.mono _ _ _
   | exact laws_markIntS.mono _ _ _
   | exact laws_markSpace.mono _ _ _ _
   | exact laws_toSpace.mono _ _ _
   | exact spec_WordWith.mono _ _ _ _
   | exact LeO.none _
   | refine LeO.ite ?_ ?_
   | refine LeO.bind ?_ (fun _ => ?_)
  ·
   intro y0 y1 y2
   unfold laws_FnExactWordWith.j2
   repeat' first
   | (with_reducible exact ih0 _ _ _ _ _ _ _ _ _ _)
   | (with_reducible exact ih1 _ _ _ _ _ _ _)
   | (with_reducible exact ih2 _ _ _)
   | (with_reducible exact impl_WordWith.mono _ _ _ _)
   | (with_reducible exact laws_eqIntS.mono _ _ _)
   | (with_reducible exact laws_eqSpace.mono _ _ _ _ _)
   | (with_reducible exact laws_heldIntS.mono _ _ _)
   | (with_reducible exact laws_markIntS.mono _ _ _)
   | (with_reducible exact laws_markSpace.mono _ _ _ _)
   | (with_reducible exact laws_toSpace.mono _ _ _)
   | (with_reducible exact spec_WordWith.mono _ _ _ _)
   | (with_reducible exact LeO.refl _)
   | (with_reducible exact LeO.none _)
   | (with_reducible refine LeO.ite ?_ ?_)
   | (with_reducible refine LeO.bind ?_ (fun _ => ?_))
   | exact ih0 _ _ _ _ _ _ _ _ _ _
   | exact ih1 _ _ _ _ _ _ _
   | exact ih2 _ _ _
   | exact impl_WordWith.mono _ _ _ _
   | exact laws_eqIntS.mono _ _ _
   | exact laws_eqSpace.mono _ _ _ _ _
   | exact laws_heldIntS.mono _ _ _
   | exact laws_markIntS.mono _ _ _
   | exact laws_markSpace.mono _ _ _ _
   | exact laws_toSpace.mono _ _ _
   | exact spec_WordWith.mono _ _ _ _
   | exact LeO.none _
   | refine LeO.ite ?_ ?_
   | refine LeO.bind ?_ (fun _ => ?_)
theorem laws_FnExactWordWith.mono : ∀ a0 a1 a2 k, LeO (laws_FnExactWordWith.f k a0 a1 a2) (laws_FnExactWordWith.f (k + 1) a0 a1 a2) := by
 intro a0 a1 a2 k
 obtain ⟨ih0, ih1, ih2⟩ := laws_FnExactWordWith.mono_l k
 unfold laws_FnExactWordWith.f
 repeat' first
   | (with_reducible exact ih0 _ _ _ _ _ _ _ _ _ _)
   | (with_reducible exact ih1 _ _ _ _ _ _ _)
   | (with_reducible exact ih2 _ _ _)
   | (with_reducible exact impl_WordWith.mono _ _ _ _)
   | (with_reducible exact laws_eqIntS.mono _ _ _)
   | (with_reducible exact laws_eqSpace.mono _ _ _ _ _)
   | (with_reducible exact laws_heldIntS.mono _ _ _)
   | (with_reducible exact laws_markIntS.mono _ _ _)
   | (with_reducible exact laws_markSpace.mono _ _ _ _)
   | (with_reducible exact laws_toSpace.mono _ _ _)
   | (with_reducible exact spec_WordWith.mono _ _ _ _)
   | (with_reducible exact LeO.refl _)
   | (with_reducible exact LeO.none _)
   | (with_reducible refine LeO.ite ?_ ?_)
   | (with_reducible refine LeO.bind ?_ (fun _ => ?_))
   | exact ih0 _ _ _ _ _ _ _ _ _ _
   | exact ih1 _ _ _ _ _ _ _
   | exact ih2 _ _ _
   | exact impl_WordWith.mono _ _ _ _
   | exact laws_eqIntS.mono _ _ _
   | exact laws_eqSpace.mono _ _ _ _ _
   | exact laws_heldIntS.mono _ _ _
   | exact laws_markIntS.mono _ _ _
   | exact laws_markSpace.mono _ _ _ _
   | exact laws_toSpace.mono _ _ _
   | exact spec_WordWith.mono _ _ _ _
   | exact LeO.none _
   | refine LeO.ite ?_ ?_
   | refine LeO.bind ?_ (fun _ => ?_)
set_option maxHeartbeats 8000000 in
set_option maxRecDepth 100000 in
theorem laws_FnExactWordWith.calls (k : Nat) (a0_0 : Int) (A0_1 : Option Addr) (c0_1 : Nat) (l0_1 : List Int) (a1 : Int) (r : Bool) (w : World) (hr0_1 : Kd.C (Kd.int .i64) w A0_1 l0_1.length l0_1) (hc0_1 : l0_1.length ≤ c0_1) (h : laws_FnExactWordWith.f k a0_0 l0_1 a1 = some r) (hT_ : Aside0 (r = true)) :
  Calls Try.prog 6 #[.agg #[.int .i64 a0_0, .slice A0_1 l0_1.length c0_1], .int .i64 a1] w fun e w' => e = .returned (.bool r) ∧ Below w.heap.size w w' := by
 have hu24 := Try.underlying24
 have hu28 := Try.underlying28
 have HR0_1 := asd hr0_1
 have HC0_1 := asd hc0_1
 clear hr0_1 hc0_1
 have HB := asd (Below.refl w.heap.size w)
 have H : ((laws_szSpace.f a0_0 l0_1 1048576).bind fun t102 => (if t102 < 0 then (some true) else ((laws_toSpace.f k a0_0 l0_1).bind fun bt103 => ((spec_WordWith.f k bt103.1 bt103.2 a1).bind fun bt107 => ((laws_toSpace.f k a0_0 l0_1).bind fun bt111 => ((impl_WordWith.f k bt111.1 bt111.2 a1).bind fun bt116 => ((laws_eqIntS.f k bt116.1 bt107.1).bind fun t120 => (if t120 = true then (laws_FnExactWordWith.j0 k a1 bt107.1 bt107.2 bt116.1 bt116.2 (bt116.2 != bt107.2) a0_0 l0_1 bt111.1 bt111.2) else (laws_FnExactWordWith.j0 k a1 bt107.1 bt107.2 bt116.1 bt116.2 true a0_0 l0_1 bt111.1 bt111.2))))))))) = some r := h
 clear h
 replace H := Option.bind_eq_some_iff.mp H
 obtain ⟨t102, A30, H⟩ := H
 replace H : (if t102 < 0 then (some true) else ((laws_toSpace.f k a0_0 l0_1).bind fun bt103 => ((spec_WordWith.f k bt103.1 bt103.2 a1).bind fun bt107 => ((laws_toSpace.f k a0_0 l0_1).bind fun bt111 => ((impl_WordWith.f k bt111.1 bt111.2 a1).bind fun bt116 => ((laws_eqIntS.f k bt116.1 bt107.1).bind fun t120 => (if t120 = true then (laws_FnExactWordWith.j0 k a1 bt107.1 bt107.2 bt116.1 bt116.2 (bt116.2 != bt107.2) a0_0 l0_1 bt111.1 bt111.2) else (laws_FnExactWordWith.j0 k a1 bt107.1 bt107.2 bt116.1 bt116.2 true a0_0 l0_1 bt111.1 bt111.2)))))))) = some r := H
 have A3 := asd A30
 clear A30
 by_cases c4 : t102 < 0
 ·
  rw [if_pos c4] at H
  have c4b0 : decide (t102 < 0) = true := decide_eq_true c4
  clear c4
  obtain rfl := Option.some.inj H
  go_enter Try.func6, Try.ntmps6
  go_wp2_with (first | ((with_reducible refine gate_dst (N := 2) rfl ?_); refine box_event ?hg (N := 2) ?hd (cs := #[.int .i64 a0_0, .slice A0_1 l0_1.length c0_1]) (t := 24) ?hr ?_; (case hd => rfl); (case hg => rfl); (case hr => first | (go_simp; done) | (go_simp; rfl)); intro gb101 hg w5 hbox hb; have n0_ := asd (below_step (by repeat (first | (with_reducible first | exact HB.out | apply below_alloc | apply pw_below_drewN | apply below_drew1) | exact HB.out)) hb); have n1_ := asd (hbox); have n2_ := asd ((by rw [hg]; exact (below_size (by repeat (first | (with_reducible first | exact HB.out | apply below_alloc | apply pw_below_drewN | apply below_drew1) | exact HB.out))) : w.heap.size ≤ gb101)); have n3_ := asd ((by rw [hg]; exact (below_size (by repeat (first | (with_reducible first | exact HB.out | apply below_alloc | apply pw_below_drewN | apply below_drew1) | exact HB.out))) : w.heap.size ≤ gb101)); clear HB; have HB := n0_; have BK101 := n1_; have GW101 := n2_; have GE101 := n3_; clear n0_ n1_ n2_ n3_; clear hb hbox hg; have hcz6_0 : w5.cell? ⟨gb101, 0, none⟩ = some (.int .i64 a0_0) := (blk_cell BK101.out 0).trans rfl; have hcz6_1 : w5.cell? ⟨gb101, 1, none⟩ = some (.slice A0_1 l0_1.length c0_1) := (blk_cell BK101.out 1).trans rfl; have hfz6_0 := blk_frozen BK101.out 0; have hfz6_1 := blk_frozen BK101.out 1) | ((with_reducible refine gate_callee (f := 11) rfl ?_); refine goesL_ (some 18) rfl rfl Try.func11 (by kernel_rfl) rfl #[.agg #[.int .i64 a0_0, .slice A0_1 l0_1.length c0_1], .int .i64 1048576] rfl (by (try simp only [List.map_toArray, List.map_cons, List.map_nil]); first | done | rfl | (simp only [List.length_drop, List.length_take]; rfl)) ?_; (with_reducible refine (laws_szSpace.calls a0_0 _ _ l0_1 1048576 t102 _ ?side1 ?side2 A3.out).mono ?_); (case side1 => repeat (first | exact (Kd.C_below HR0_1.out HB.out) | (with_reducible refine Kd.C_alloc ?_ _) | (with_reducible refine Kd.C_drewN ?_ _) | (with_reducible refine Kd.C_drew ?_))); (case side2 => exact HC0_1.out); rintro e w7 ⟨rfl, hb⟩; refine ⟨_, rfl, ?_⟩; have n0_ := asd (blk_below (upB BK101.out) hb); have n1_ := asd (below_step (by repeat (first | (with_reducible first | exact HB.out | apply below_alloc | apply pw_below_drewN | apply below_drew1 | refine below_set ?_ GE101.out) | exact HB.out)) hb); clear BK101; clear HB; have BK101 := n0_; have HB := n1_; clear n0_ n1_; (try clear hb); (try clear hb2); (try clear hk); (try clear hi)))
  go_ret
  exact ⟨by first | rfl | (simp [errW_none, errW_some] <;> rfl) | (simp [*, errW_none, errW_some] <;> rfl), by repeat (first | (with_reducible first | exact HB.out | apply below_alloc | apply pw_below_drewN | apply below_drew1 | refine below_set ?_ GE101.out) | exact HB.out)⟩
 ·
  rw [if_neg c4] at H
  have c4b0 : decide (t102 < 0) = false := decide_eq_false c4
  clear c4
  replace H := Option.bind_eq_some_iff.mp H
  obtain ⟨⟨t103, t104⟩, A80, H⟩ := H
  replace H : ((spec_WordWith.f k t103 t104 a1).bind fun bt107 => ((laws_toSpace.f k a0_0 l0_1).bind fun bt111 => ((impl_WordWith.f k bt111.1 bt111.2 a1).bind fun bt116 => ((laws_eqIntS.f k bt116.1 bt107.1).bind fun t120 => (if t120 = true then (laws_FnExactWordWith.j0 k a1 bt107.1 bt107.2 bt116.1 bt116.2 (bt116.2 != bt107.2) a0_0 l0_1 bt111.1 bt111.2) else (laws_FnExactWordWith.j0 k a1 bt107.1 bt107.2 bt116.1 bt116.2 true a0_0 l0_1 bt111.1 bt111.2)))))) = some r := H
  have A8 := asd A80
  clear A80
  replace H := Option.bind_eq_some_iff.mp H
  obtain ⟨⟨t107, t110⟩, A90, H⟩ := H
  replace H : ((laws_toSpace.f k a0_0 l0_1).bind fun bt111 => ((impl_WordWith.f k bt111.1 bt111.2 a1).bind fun bt116 => ((laws_eqIntS.f k bt116.1 t107).bind fun t120 => (if t120 = true then (laws_FnExactWordWith.j0 k a1 t107 t110 bt116.1 bt116.2 (bt116.2 != t110) a0_0 l0_1 bt111.1 bt111.2) else (laws_FnExactWordWith.j0 k a1 t107 t110 bt116.1 bt116.2 true a0_0 l0_1 bt111.1 bt111.2))))) = some r := H
  have A9 := asd A90
  clear A90
  replace H := Option.bind_eq_some_iff.mp H
  obtain ⟨⟨t111, t112⟩, A100, H⟩ := H
  replace H : ((impl_WordWith.f k t111 t112 a1).bind fun bt116 => ((laws_eqIntS.f k bt116.1 t107).bind fun t120 => (if t120 = true then (laws_FnExactWordWith.j0 k a1 t107 t110 bt116.1 bt116.2 (bt116.2 != t110) a0_0 l0_1 t111 t112) else (laws_FnExactWordWith.j0 k a1 t107 t110 bt116.1 bt116.2 true a0_0 l0_1 t111 t112)))) = some r := H
  have A10 := asd A100
  clear A100
  replace H := Option.bind_eq_some_iff.mp H
  obtain ⟨⟨t116, t119⟩, A110, H⟩ := H
  replace H : ((laws_eqIntS.f k t116 t107).bind fun t120 => (if t120 = true then (laws_FnExactWordWith.j0 k a1 t107 t110 t116 t119 (t119 != t110) a0_0 l0_1 t111 t112) else (laws_FnExactWordWith.j0 k a1 t107 t110 t116 t119 true a0_0 l0_1 t111 t112))) = some r := H
  have A11 := asd A110
  clear A110
  have HC12 := asd H
  clear H
  go_enter Try.func6, Try.ntmps6
  go_upto_region 8 with (first | ((with_reducible refine gate_dst (N := 2) rfl ?_); refine box_event ?hg (N := 2) ?hd (cs := #[.int .i64 a0_0, .slice A0_1 l0_1.length c0_1]) (t := 24) ?hr ?_; (case hd => rfl); (case hg => rfl); (case hr => first | (go_simp; done) | (go_simp; rfl)); intro gb101 hg w13 hbox hb; have n0_ := asd (below_step (by repeat (first | (with_reducible first | exact HB.out | apply below_alloc | apply pw_below_drewN | apply below_drew1) | exact HB.out)) hb); have n1_ := asd (hbox); have n2_ := asd ((by rw [hg]; exact (below_size (by repeat (first | (with_reducible first | exact HB.out | apply below_alloc | apply pw_below_drewN | apply below_drew1) | exact HB.out))) : w.heap.size ≤ gb101)); have n3_ := asd ((by rw [hg]; exact (below_size (by repeat (first | (with_reducible first | exact HB.out | apply below_alloc | apply pw_below_drewN | apply below_drew1) | exact HB.out))) : w.heap.size ≤ gb101)); clear HB; have HB := n0_; have BK101 := n1_; have GW101 := n2_; have GE101 := n3_; clear n0_ n1_ n2_ n3_; clear hb hbox hg; have hcz14_0 : w13.cell? ⟨gb101, 0, none⟩ = some (.int .i64 a0_0) := (blk_cell BK101.out 0).trans rfl; have hcz14_1 : w13.cell? ⟨gb101, 1, none⟩ = some (.slice A0_1 l0_1.length c0_1) := (blk_cell BK101.out 1).trans rfl; have hfz14_0 := blk_frozen BK101.out 0; have hfz14_1 := blk_frozen BK101.out 1) | ((with_reducible refine gate_callee (f := 11) rfl ?_); refine goesL_ (some 18) rfl rfl Try.func11 (by kernel_rfl) rfl #[.agg #[.int .i64 a0_0, .slice A0_1 l0_1.length c0_1], .int .i64 1048576] rfl (by (try simp only [List.map_toArray, List.map_cons, List.map_nil]); first | done | rfl | (simp only [List.length_drop, List.length_take]; rfl)) ?_; (with_reducible refine (laws_szSpace.calls a0_0 _ _ l0_1 1048576 t102 _ ?side1 ?side2 A3.out).mono ?_); (case side1 => repeat (first | exact (Kd.C_below HR0_1.out HB.out) | (with_reducible refine Kd.C_alloc ?_ _) | (with_reducible refine Kd.C_drewN ?_ _) | (with_reducible refine Kd.C_drew ?_))); (case side2 => exact HC0_1.out); rintro e w15 ⟨rfl, hb⟩; refine ⟨_, rfl, ?_⟩; have n0_ := asd (blk_below (upB BK101.out) hb); have n1_ := asd (below_step (by repeat (first | (with_reducible first | exact HB.out | apply below_alloc | apply pw_below_drewN | apply below_drew1 | refine below_set ?_ GE101.out) | exact HB.out)) hb); clear BK101; clear HB; have BK101 := n0_; have HB := n1_; clear n0_ n1_; (try clear hb); (try clear hb2); (try clear hk); (try clear hi); have hcz16_0 : w15.cell? ⟨gb101, 0, none⟩ = some (.int .i64 a0_0) := (blk_cell BK101.out 0).trans rfl; have hcz16_1 : w15.cell? ⟨gb101, 1, none⟩ = some (.slice A0_1 l0_1.length c0_1) := (blk_cell BK101.out 1).trans rfl; have hfz16_0 := blk_frozen BK101.out 0; have hfz16_1 := blk_frozen BK101.out 1) | ((with_reducible refine gate_callee (f := 13) rfl ?_); refine goesL_ (some 23) rfl rfl Try.func13 (by kernel_rfl) rfl #[.agg #[.int .i64 a0_0, .slice A0_1 l0_1.length c0_1]] rfl (by (try simp only [List.map_toArray, List.map_cons, List.map_nil]); first | done | rfl | (simp only [List.length_drop, List.length_take]; rfl)) ?_; (with_reducible refine (laws_toSpace.calls k a0_0 _ _ l0_1 t103 t104 _ ?side1 ?side2 A8.out).mono ?_); (case side1 => repeat (first | exact (Kd.C_below HR0_1.out HB.out) | (with_reducible refine Kd.C_alloc ?_ _) | (with_reducible refine Kd.C_drewN ?_ _) | (with_reducible refine Kd.C_drew ?_))); (case side2 => exact HC0_1.out); rintro e w17 ⟨v105, rfl, ho0, hb⟩; refine ⟨_, rfl, ?_⟩; have n0_ := asd (Kd.R_lower ho0 (below_size (by repeat (first | (with_reducible first | exact HB.out | apply below_alloc | apply pw_below_drewN | apply below_drew1 | refine below_set ?_ GE101.out) | exact HB.out)))); have n1_ := asd (blk_below (upB BK101.out) hb); have n2_ := asd (below_step (by repeat (first | (with_reducible first | exact HB.out | apply below_alloc | apply pw_below_drewN | apply below_drew1 | refine below_set ?_ GE101.out) | exact HB.out)) hb); clear BK101; clear HB; have HO106 := n0_; have BK101 := n1_; have HB := n2_; clear n0_ n1_ n2_; (try clear hb); (try clear hb2); (try clear hk); (try clear hi); (try clear ho0); obtain ⟨Ao18, co18, eo18⟩ := Kd.R_slice HO106.out; subst eo18) | ((with_reducible refine gate_callee (f := 20) rfl ?_); refine goesL_ (some 25) rfl rfl Try.func20 (by kernel_rfl) rfl #[.agg #[.int .i64 t103, .slice Ao18 t104.length co18], .int .i64 a1] rfl (by (try simp only [List.map_toArray, List.map_cons, List.map_nil]); first | done | rfl | (simp only [List.length_drop, List.length_take]; rfl)) ?_; (with_reducible refine (spec_WordWith.calls k t103 _ _ t104 a1 t107 t110 _ ?side1 ?side2 A9.out).mono ?_); (case side1 => repeat (first | exact (Kd.R_reads' HO106.out).2.2 | (with_reducible refine Kd.C_alloc ?_ _) | (with_reducible refine Kd.C_drewN ?_ _) | (with_reducible refine Kd.C_drew ?_))); (case side2 => exact (Kd.R_reads' HO106.out).2.1); rintro e w19 ⟨v108, rfl, ho0, hb⟩; refine ⟨_, rfl, ?_⟩; have n0_ := asd (Kd.R_elder' (upR <| HO106.out) (Kd.R_base ho0) hb); have n1_ := asd (Kd.R_lower (Kd.R_new' ho0 (Kd.R_lt (upR <| HO106.out))) (below_size (by repeat (first | (with_reducible first | exact HB.out | apply below_alloc | apply pw_below_drewN | apply below_drew1 | refine below_set ?_ GE101.out) | exact HB.out)))); have n2_ := asd (blk_below (upB BK101.out) hb); have n3_ := asd (below_step (by repeat (first | (with_reducible first | exact HB.out | apply below_alloc | apply pw_below_drewN | apply below_drew1 | refine below_set ?_ GE101.out) | exact HB.out)) hb); clear HO106; clear BK101; clear HB; have HO106 := n0_; have HO109 := n1_; have BK101 := n2_; have HB := n3_; clear n0_ n1_ n2_ n3_; (try clear hb); (try clear hb2); (try clear hk); (try clear hi); (try clear ho0); have hcz20_0 : w19.cell? ⟨gb101, 0, none⟩ = some (.int .i64 a0_0) := (blk_cell BK101.out 0).trans rfl; have hcz20_1 : w19.cell? ⟨gb101, 1, none⟩ = some (.slice A0_1 l0_1.length c0_1) := (blk_cell BK101.out 1).trans rfl; have hfz20_0 := blk_frozen BK101.out 0; have hfz20_1 := blk_frozen BK101.out 1) | ((with_reducible refine gate_callee (f := 13) rfl ?_); refine goesL_ (some 29) rfl rfl Try.func13 (by kernel_rfl) rfl #[.agg #[.int .i64 a0_0, .slice A0_1 l0_1.length c0_1]] rfl (by (try simp only [List.map_toArray, List.map_cons, List.map_nil]); first | done | rfl | (simp only [List.length_drop, List.length_take]; rfl)) ?_; (with_reducible refine (laws_toSpace.calls k a0_0 _ _ l0_1 t111 t112 _ ?side1 ?side2 A10.out).mono ?_); (case side1 => repeat (first | exact (Kd.C_below HR0_1.out HB.out) | (with_reducible refine Kd.C_alloc ?_ _) | (with_reducible refine Kd.C_drewN ?_ _) | (with_reducible refine Kd.C_drew ?_))); (case side2 => exact HC0_1.out); rintro e w21 ⟨v113, rfl, ho0, hb⟩; refine ⟨_, rfl, ?_⟩; have n0_ := asd (Kd.R_elder' (upR <| HO106.out) (Kd.R_base ho0) hb); have n1_ := asd (Kd.R_elder' (upR <| HO109.out) (Kd.R_base ho0) hb); have n2_ := asd (Kd.R_lower (Kd.R_new' (Kd.R_new' ho0 (Kd.R_lt (upR <| HO106.out))) (Kd.R_lt (upR <| HO109.out))) (below_size (by repeat (first | (with_reducible first | exact HB.out | apply below_alloc | apply pw_below_drewN | apply below_drew1 | refine below_set ?_ GE101.out) | exact HB.out)))); have n3_ := asd (blk_below (upB BK101.out) hb); have n4_ := asd (below_step (by repeat (first | (with_reducible first | exact HB.out | apply below_alloc | apply pw_below_drewN | apply below_drew1 | refine below_set ?_ GE101.out) | exact HB.out)) hb); clear HO106; clear HO109; clear BK101; clear HB; have HO106 := n0_; have HO109 := n1_; have HO114 := n2_; have BK101 := n3_; have HB := n4_; clear n0_ n1_ n2_ n3_ n4_; (try clear hb); (try clear hb2); (try clear hk); (try clear hi); (try clear ho0)) | ((with_reducible refine gate_dst (N := 8) rfl ?_); refine box_event ?hg (N := 8) ?hd (cs := #[.int .i64 0, .slice none 0 0]) (t := 28) ?hr ?_; (case hd => rfl); (case hg => rfl); (case hr => first | (go_simp; done) | (go_simp; rfl)); intro gb115 hg w22 hbox hb; have n0_ := asd (Kd.R_below (upR <| HO106.out) hb); have n1_ := asd (Kd.R_below (upR <| HO109.out) hb); have n2_ := asd (Kd.R_below (upR <| HO114.out) hb); have n3_ := asd (blk_below (upB BK101.out) hb); have n4_ := asd (below_step (by repeat (first | (with_reducible first | exact HB.out | apply below_alloc | apply pw_below_drewN | apply below_drew1 | refine below_set ?_ GE101.out) | exact HB.out)) hb); have n5_ := asd (hbox); have n6_ := asd ((by rw [hg]; exact (below_size (by repeat (first | (with_reducible first | exact HB.out | apply below_alloc | apply pw_below_drewN | apply below_drew1 | refine below_set ?_ GE101.out) | exact HB.out))) : w.heap.size ≤ gb115)); have n7_ := asd ((by rw [hg]; exact (below_size (by repeat (first | (with_reducible first | exact HB.out | apply below_alloc | apply pw_below_drewN | apply below_drew1 | refine below_set ?_ GE101.out) | exact HB.out))) : w.heap.size ≤ gb115)); have n8_ := asd ((by rw [hg]; exact Nat.ne_of_lt (blk_lt (upB BK101.out)) : gb101 ≠ gb115)); have n9_ := asd ((by rw [hg]; exact Nat.ne_of_gt (blk_lt (upB BK101.out)) : gb115 ≠ gb101)); clear HO106; clear HO109; clear HO114; clear BK101; clear HB; have HO106 := n0_; have HO109 := n1_; have HO114 := n2_; have BK101 := n3_; have HB := n4_; have BK115 := n5_; have GW115 := n6_; have GE115 := n7_; have NB101_115 := n8_; have NB115_101 := n9_; clear n0_ n1_ n2_ n3_ n4_ n5_ n6_ n7_ n8_ n9_; clear hb hbox hg; have hnb23 := NB115_101.out; have hnc23 := NB101_115.out; have hcz24_0 : w22.cell? ⟨gb115, 0, none⟩ = some (.int .i64 0) := (blk_cell BK115.out 0).trans rfl; have hcz24_1 : w22.cell? ⟨gb115, 1, none⟩ = some (.slice none 0 0) := (blk_cell BK115.out 1).trans rfl; have hfz24_0 := blk_frozen BK115.out 0; have hfz24_1 := blk_frozen BK115.out 1; obtain ⟨Ao25, co25, eo25⟩ := Kd.R_slice HO114.out; subst eo25) | ((with_reducible refine gate_callee (f := 21) rfl ?_); refine goesL_ (some 33) rfl rfl Try.func21 (by kernel_rfl) rfl #[.agg #[.int .i64 t111, .slice Ao25 t112.length co25], .int .i64 a1] rfl (by (try simp only [List.map_toArray, List.map_cons, List.map_nil]); first | done | rfl | (simp only [List.length_drop, List.length_take]; rfl)) ?_; (with_reducible refine (impl_WordWith.calls k t111 _ _ t112 a1 t116 t119 _ ?side1 ?side2 A11.out).mono ?_); (case side1 => refine (Kd.R_reads' (e := 3) (base := w.heap.size) (ok := fun k_ => ((True ∧ some k_ ≠ (.slice Ao18 t104.length co18 : Value).ownBlock) ∧ some k_ ≠ (v108 : Value).ownBlock)) (n := t112.length) (c := co25) ?_).2.2; exact (upR <| (Kd.R_mono (Kd.R_far (p := ⟨gb115, 1, none⟩) (Kd.R_far (p := ⟨gb115, 0, none⟩) (Kd.R_types HO114.out BK115.out (by decide)) (fun _ hk => hk.2) (.int .i64 t111)) (fun _ hk => hk.2) (.slice Ao25 t112.length co25)) (fun _ h_ => h_.1)))); (case side2 => exact (Kd.R_reads' HO114.out).2.1); rintro e w26 ⟨v117, rfl, ho0, hb⟩; refine ⟨_, rfl, ?_⟩; have n0_ := asd (Kd.R_elder' (upR <| (Kd.R_mono (Kd.R_far (p := ⟨gb115, 1, none⟩) (Kd.R_far (p := ⟨gb115, 0, none⟩) (Kd.R_types HO106.out BK115.out (by decide)) (fun _ hk => hk.2) (.int .i64 t111)) (fun _ hk => hk.2) (.slice Ao25 t112.length co25)) (fun _ h_ => h_.1))) (Kd.R_base ho0) hb); have n1_ := asd (Kd.R_elder' (upR <| (Kd.R_mono (Kd.R_far (p := ⟨gb115, 1, none⟩) (Kd.R_far (p := ⟨gb115, 0, none⟩) (Kd.R_types HO109.out BK115.out (by decide)) (fun _ hk => hk.2) (.int .i64 t111)) (fun _ hk => hk.2) (.slice Ao25 t112.length co25)) (fun _ h_ => h_.1))) (Kd.R_base ho0) hb); have n2_ := asd (Kd.R_elder' (upR <| (Kd.R_mono (Kd.R_far (p := ⟨gb115, 1, none⟩) (Kd.R_far (p := ⟨gb115, 0, none⟩) (Kd.R_types HO114.out BK115.out (by decide)) (fun _ hk => hk.2) (.int .i64 t111)) (fun _ hk => hk.2) (.slice Ao25 t112.length co25)) (fun _ h_ => h_.1))) (Kd.R_base ho0) hb); have n3_ := asd (Kd.R_lower (Kd.R_new' (Kd.R_new' (Kd.R_new' ho0 (Kd.R_lt (upR <| (Kd.R_mono (Kd.R_far (p := ⟨gb115, 1, none⟩) (Kd.R_far (p := ⟨gb115, 0, none⟩) (Kd.R_types HO106.out BK115.out (by decide)) (fun _ hk => hk.2) (.int .i64 t111)) (fun _ hk => hk.2) (.slice Ao25 t112.length co25)) (fun _ h_ => h_.1))))) (Kd.R_lt (upR <| (Kd.R_mono (Kd.R_far (p := ⟨gb115, 1, none⟩) (Kd.R_far (p := ⟨gb115, 0, none⟩) (Kd.R_types HO109.out BK115.out (by decide)) (fun _ hk => hk.2) (.int .i64 t111)) (fun _ hk => hk.2) (.slice Ao25 t112.length co25)) (fun _ h_ => h_.1))))) (Kd.R_lt (upR <| (Kd.R_mono (Kd.R_far (p := ⟨gb115, 1, none⟩) (Kd.R_far (p := ⟨gb115, 0, none⟩) (Kd.R_types HO114.out BK115.out (by decide)) (fun _ hk => hk.2) (.int .i64 t111)) (fun _ hk => hk.2) (.slice Ao25 t112.length co25)) (fun _ h_ => h_.1))))) (below_size (by repeat (first | (with_reducible first | exact HB.out | apply below_alloc | apply pw_below_drewN | apply below_drew1 | refine below_set ?_ GE101.out | refine below_set ?_ GE115.out) | exact HB.out)))); have n4_ := asd (blk_below (g := gb101) (o := .cells #[.int .i64 a0_0, .slice A0_1 l0_1.length c0_1] 24 (0, 0)) (by (with_reducible repeat (first | refine blk_drewN ?_ _ | refine blk_drew ?_ | refine blk_alloc ?_ _)); refine blk_far ?_ NB101_115.out _; (with_reducible repeat (first | refine blk_drewN ?_ _ | refine blk_drew ?_ | refine blk_alloc ?_ _)); refine blk_far ?_ NB101_115.out _; (with_reducible repeat (first | refine blk_drewN ?_ _ | refine blk_drew ?_ | refine blk_alloc ?_ _)); exact BK101.out) hb); have n5_ := asd (blk_below (g := gb115) (o := .cells #[.int .i64 t111, .slice Ao25 t112.length co25] 28 (0, 0)) (by (with_reducible repeat (first | refine blk_drewN ?_ _ | refine blk_drew ?_ | refine blk_alloc ?_ _)); refine blk_put (cs := #[.int .i64 t111, .slice none 0 0]) ?_ 1 _ rfl; (with_reducible repeat (first | refine blk_drewN ?_ _ | refine blk_drew ?_ | refine blk_alloc ?_ _)); refine blk_put (cs := #[.int .i64 0, .slice none 0 0]) ?_ 0 _ rfl; (with_reducible repeat (first | refine blk_drewN ?_ _ | refine blk_drew ?_ | refine blk_alloc ?_ _)); exact BK115.out) hb); have n6_ := asd (below_step (by repeat (first | (with_reducible first | exact HB.out | apply below_alloc | apply pw_below_drewN | apply below_drew1 | refine below_set ?_ GE101.out | refine below_set ?_ GE115.out) | exact HB.out)) hb); clear HO106; clear HO109; clear HO114; clear BK101; clear BK115; clear HB; have HO106 := n0_; have HO109 := n1_; have HO114 := n2_; have HO118 := n3_; have BK101 := n4_; have BK115 := n5_; have HB := n6_; clear n0_ n1_ n2_ n3_ n4_ n5_ n6_; (try clear hb); (try clear hb2); (try clear hk); (try clear hi); (try clear ho0)))
  (try simp only [Act.put, List.setIfInBounds_toArray, List.set_cons_zero, List.set_cons_succ])
  go_cut [44] (fun v44 wc => ∃ (kq : Nat) (x44_11 : Bool), v44 = .bool x44_11 ∧ Aside0 (laws_FnExactWordWith.j0 kq a1 t107 t110 t116 t119 x44_11 a0_0 l0_1 t111 t112 = some r) ∧ Aside0 (kq ≤ k) ∧ Aside0 (Kd.R (Kd.int .i64) 3 wc w.heap.size (fun k_ => some k_ ≠ (v117 : Value).ownBlock ∧ some k_ ≠ ((.slice Ao25 t112.length co25) : Value).ownBlock) v108 t107) ∧ Aside0 (Kd.R (Kd.int .i64) 3 wc w.heap.size (fun k_ => some k_ ≠ (v108 : Value).ownBlock ∧ some k_ ≠ ((.slice Ao25 t112.length co25) : Value).ownBlock) v117 t116) ∧ Aside0 (Kd.R (Kd.int .i64) 3 wc w.heap.size (fun k_ => some k_ ≠ (v108 : Value).ownBlock ∧ some k_ ≠ (v117 : Value).ownBlock) (.slice Ao25 t112.length co25) t112) ∧ Aside0 (wc.heap[gb101]? = some (.cells #[.int .i64 a0_0, (.slice A0_1 l0_1.length c0_1)] 24 (0, 0))) ∧ Aside0 (wc.heap[gb115]? = some (.cells #[.int .i64 t111, (.slice Ao25 t112.length co25)] 28 (0, 0))) ∧ Aside0 (Below w.heap.size w wc))
  case first =>
   have H := HC12.out
   clear HC12
   replace H := Option.bind_eq_some_iff.mp H
   obtain ⟨t120, A270, H⟩ := H
   replace H : (if t120 = true then (laws_FnExactWordWith.j0 k a1 t107 t110 t116 t119 (t119 != t110) a0_0 l0_1 t111 t112) else (laws_FnExactWordWith.j0 k a1 t107 t110 t116 t119 true a0_0 l0_1 t111 t112)) = some r := H
   have A27 := asd A270
   clear A270
   by_cases c28 : t120 = true
   ·
    subst c28
    have H1 : (laws_FnExactWordWith.j0 k a1 t107 t110 t116 t119 (t119 != t110) a0_0 l0_1 t111 t112) = some r := by rw [if_pos rfl] at H; exact H
    clear H
    have H := H1
    clear H1
    have H' := asd H
    clear H
    obtain ⟨Ao29, co29, eo29⟩ := Kd.R_slice HO118.out
    subst eo29
    obtain ⟨Ao30, co30, eo30⟩ := Kd.R_slice HO109.out
    subst eo30
    go_wp2_with (first | ((with_reducible refine gate_callee (f := 22) rfl ?_); refine goesL_ (some 38) rfl rfl Try.func22 (by kernel_rfl) rfl #[.slice Ao29 t116.length co29, .slice Ao30 t107.length co30] rfl (by (try simp only [List.map_toArray, List.map_cons, List.map_nil]); first | done | rfl | (simp only [List.length_drop, List.length_take]; rfl)) ?_; (with_reducible refine (laws_eqIntS.calls k _ _ t116 _ _ t107 true _ ?side1 ?side2 ?side3 ?side4 A27.out).mono ?_); (case side1 => repeat (first | exact (Kd.R_reads' HO118.out).2.2 | (with_reducible refine Kd.C_alloc ?_ _) | (with_reducible refine Kd.C_drewN ?_ _) | (with_reducible refine Kd.C_drew ?_))); (case side2 => exact (Kd.R_reads' HO118.out).2.1); (case side3 => repeat (first | exact (Kd.R_reads' HO109.out).2.2 | (with_reducible refine Kd.C_alloc ?_ _) | (with_reducible refine Kd.C_drewN ?_ _) | (with_reducible refine Kd.C_drew ?_))); (case side4 => exact (Kd.R_reads' HO109.out).2.1); rintro e w' ⟨rfl, ⟨nd, rfl⟩⟩; refine ⟨_, rfl, ?_⟩))
    go_meet
    case rel => exact ⟨_, ((t119 != t110)), (by first | rfl | (simp; done) | (simp [*]; done)), H', ⟨by first | omega | exact Nat.le_refl _⟩, ⟨by (with_reducible repeat (first | apply Kd.R_alloc | apply Kd.R_drewN | apply Kd.R_drew)); exact Kd.R_mono HO109.out (fun _ hk => ⟨hk.2, hk.1.2⟩)⟩, ⟨by (with_reducible repeat (first | apply Kd.R_alloc | apply Kd.R_drewN | apply Kd.R_drew)); exact Kd.R_mono HO118.out (fun _ hk => ⟨hk.1.2, hk.2⟩)⟩, ⟨by (with_reducible repeat (first | apply Kd.R_alloc | apply Kd.R_drewN | apply Kd.R_drew)); exact Kd.R_mono HO114.out (fun _ hk => ⟨hk.1.2, hk.2⟩)⟩, ⟨by (with_reducible repeat (first | refine blk_drewN ?_ _ | refine blk_drew ?_ | refine blk_alloc ?_ _)); exact BK101.out⟩, ⟨by (with_reducible repeat (first | refine blk_drewN ?_ _ | refine blk_drew ?_ | refine blk_alloc ?_ _)); exact BK115.out⟩, ⟨by repeat (first | (with_reducible first | exact HB.out | apply below_alloc | apply pw_below_drewN | apply below_drew1 | refine below_set ?_ GE101.out | refine below_set ?_ GE115.out) | exact HB.out)⟩⟩
   ·
    replace c28 := Bool.eq_false_iff.mpr c28
    subst c28
    have H1 : (laws_FnExactWordWith.j0 k a1 t107 t110 t116 t119 true a0_0 l0_1 t111 t112) = some r := by rw [if_neg (show ¬ (false = true) by decide)] at H; exact H
    clear H
    have H := H1
    clear H1
    rcases k with _ | kk_
    ·
     exact absurd H (by simp [laws_FnExactWordWith.j0])
    ·
     simp only [laws_FnExactWordWith.j0] at H
     rw [if_pos trivial] at H
     exact absurd ((Option.some.inj H).trans hT_.out) (by decide)
  case rest =>
   clear HC12
   try clear c1
   try clear c2
   try clear p2
   try clear c4
   try clear c4b0
   try clear c6
   try clear c11
   try clear c13
   try clear c20
   try clear c21
   try clear c22
   try clear c23
   try clear c28
   try clear hcz14_0
   try clear hcz14_1
   try clear hcz16_0
   try clear hcz16_1
   try clear hcz20_0
   try clear hcz20_1
   try clear hcz24_0
   try clear hcz24_1
   try clear hcz6_0
   try clear hcz6_1
   try clear hfz14_0
   try clear hfz14_1
   try clear hfz16_0
   try clear hfz16_1
   try clear hfz20_0
   try clear hfz20_1
   try clear hfz24_0
   try clear hfz24_1
   try clear hfz6_0
   try clear hfz6_1
   obtain ⟨kq, x44_11, rfl, HA, HJ11, HO_6, HO_9, HO_116001, BK101, BK115, HB⟩ := hcut
   cases kq with
   | zero => exact absurd HA.out (by simp [laws_FnExactWordWith.j0])
   | succ kj11 =>
    have H := HA.out
    clear HA
    simp only [laws_FnExactWordWith.j0] at H
    by_cases c31 : x44_11 = true
    ·
     subst c31
     have H1 : (some false) = some r := by rw [if_pos rfl] at H; exact H
     clear H
     have H := H1
     clear H1
     exact absurd ((Option.some.inj H).trans hT_.out) (by decide)
    ·
     replace c31 := Bool.eq_false_iff.mpr c31
     subst c31
     have H1 : ((laws_toSpace.f kj11 a0_0 l0_1).bind fun bt121 => ((laws_eqSpace.f kj11 t111 t112 bt121.1 bt121.2).bind fun t125 => (if t125 = true then ((laws_markSpace.f kj11 t111 t112 1).bind fun bt126 => (if bt126.1 < 0 then (laws_FnExactWordWith.j1 kj11 a1 t107 t110 t116 true a0_0 l0_1) else ((laws_eqIntS.f kj11 t116 t107).bind fun t128 => (if t128 = true then (laws_FnExactWordWith.j1 kj11 a1 t107 t110 t116 (t119 != t110) a0_0 l0_1) else (laws_FnExactWordWith.j1 kj11 a1 t107 t110 t116 true a0_0 l0_1))))) else (some false)))) = some r := by rw [if_neg (show ¬ (false = true) by decide)] at H; exact H
     clear H
     have H := H1
     clear H1
     replace H := Option.bind_eq_some_iff.mp H
     obtain ⟨⟨t121, t122⟩, A320, H⟩ := H
     replace H : ((laws_eqSpace.f kj11 t111 t112 t121 t122).bind fun t125 => (if t125 = true then ((laws_markSpace.f kj11 t111 t112 1).bind fun bt126 => (if bt126.1 < 0 then (laws_FnExactWordWith.j1 kj11 a1 t107 t110 t116 true a0_0 l0_1) else ((laws_eqIntS.f kj11 t116 t107).bind fun t128 => (if t128 = true then (laws_FnExactWordWith.j1 kj11 a1 t107 t110 t116 (t119 != t110) a0_0 l0_1) else (laws_FnExactWordWith.j1 kj11 a1 t107 t110 t116 true a0_0 l0_1))))) else (some false))) = some r := H
     have A32 := asd A320
     clear A320
     replace H := Option.bind_eq_some_iff.mp H
     obtain ⟨t125, A330, H⟩ := H
     replace H : (if t125 = true then ((laws_markSpace.f kj11 t111 t112 1).bind fun bt126 => (if bt126.1 < 0 then (laws_FnExactWordWith.j1 kj11 a1 t107 t110 t116 true a0_0 l0_1) else ((laws_eqIntS.f kj11 t116 t107).bind fun t128 => (if t128 = true then (laws_FnExactWordWith.j1 kj11 a1 t107 t110 t116 (t119 != t110) a0_0 l0_1) else (laws_FnExactWordWith.j1 kj11 a1 t107 t110 t116 true a0_0 l0_1))))) else (some false)) = some r := H
     have A33 := asd A330
     clear A330
     by_cases c34 : t125 = true
     ·
      subst c34
      have H1 : ((laws_markSpace.f kj11 t111 t112 1).bind fun bt126 => (if bt126.1 < 0 then (laws_FnExactWordWith.j1 kj11 a1 t107 t110 t116 true a0_0 l0_1) else ((laws_eqIntS.f kj11 t116 t107).bind fun t128 => (if t128 = true then (laws_FnExactWordWith.j1 kj11 a1 t107 t110 t116 (t119 != t110) a0_0 l0_1) else (laws_FnExactWordWith.j1 kj11 a1 t107 t110 t116 true a0_0 l0_1))))) = some r := by rw [if_pos rfl] at H; exact H
      clear H
      have H := H1
      clear H1
      replace H := Option.bind_eq_some_iff.mp H
      obtain ⟨⟨t126, t127⟩, A350, H⟩ := H
      replace H : (if t126 < 0 then (laws_FnExactWordWith.j1 kj11 a1 t107 t110 t116 true a0_0 l0_1) else ((laws_eqIntS.f kj11 t116 t107).bind fun t128 => (if t128 = true then (laws_FnExactWordWith.j1 kj11 a1 t107 t110 t116 (t119 != t110) a0_0 l0_1) else (laws_FnExactWordWith.j1 kj11 a1 t107 t110 t116 true a0_0 l0_1)))) = some r := H
      have A35 := asd A350
      clear A350
      have HC36 := asd H
      clear H
      try go_wp2
      have n0_ := asd (Kd.R_drew HO_6.out)
      have n1_ := asd (Kd.R_drew HO_9.out)
      have n2_ := asd (Kd.R_drew HO_116001.out)
      have n3_ := asd (blk_drew BK101.out)
      have n4_ := asd (blk_drew BK115.out)
      have n5_ := asd (below_drew1 HB.out)
      clear HO_6
      clear HO_9
      clear HO_116001
      clear BK101
      clear BK115
      clear HB
      have HO_6 := n0_
      have HO_9 := n1_
      have HO_116001 := n2_
      have BK101 := n3_
      have BK115 := n4_
      have HB := n5_
      clear n0_ n1_ n2_ n3_ n4_ n5_
      refine start_ (n := 5) (S := fun w' => w'.cell? ⟨gb115, 0, none⟩ = some (.int .i64 t111) ∧ w'.cell? ⟨gb115, 1, none⟩ = some (.slice Ao25 t112.length co25) ∧ w'.cell? ⟨gb101, 0, none⟩ = some (.int .i64 a0_0) ∧ w'.cell? ⟨gb101, 1, none⟩ = some (.slice A0_1 l0_1.length c0_1)) (ds := []) #[false, false, false, false, false] (by kernel_rfl) rfl rfl ⟨(blk_cell BK115.out 0).trans rfl, (blk_cell BK115.out 1).trans rfl, (blk_cell BK101.out 0).trans rfl, (blk_cell BK101.out 1).trans rfl⟩ (fun hHeld => ?_)
      generalize wc.drew = w37 at HO_6 HO_9 HO_116001 BK101 BK115 HB hHeld ⊢
      refine take_ (i := 0) (N := some 45) (v := ?_) (a' := ?_) #[true, false, false, false, false] rfl rfl (by kernel_rfl) (fun _ _ _ h => h) (Or.inl ⟨by rfl, ?_⟩) hHeld ?_ ?_
      rotate_left
      ·
       rintro w' ⟨s0, s1, s2, s3⟩
       go_simp
       with_reducible rfl
      rotate_left
      ·
       simp only [Act.put, List.setIfInBounds_toArray, List.set_cons_zero, List.set_cons_succ, i64_w, i32_w]
       rfl
      refine take_ (i := 1) (N := some 46) (v := ?_) (a' := ?_) #[true, true, false, false, false] rfl rfl (by kernel_rfl) (fun _ _ _ h => h) (Or.inl ⟨by rfl, ?_⟩) hHeld ?_ ?_
      rotate_left
      ·
       rintro w' ⟨s0, s1, s2, s3⟩
       go_simp
       with_reducible rfl
      rotate_left
      ·
       simp only [Act.put, List.setIfInBounds_toArray, List.set_cons_zero, List.set_cons_succ, i64_w, i32_w]
       rfl
      refine one_ (i := 2) (N := some 47) #[true, true, true, false, false] rfl rfl (by kernel_rfl) (by decide) (fun K hK => ?_)
      refine goes_ Try.func13 (by kernel_rfl) rfl #[.agg #[.int .i64 a0_0, .slice A0_1 l0_1.length c0_1]] (by rfl) rfl rfl (by (try simp only [List.map_toArray, List.map_cons, List.map_nil]); first | done | rfl | (simp only [List.length_drop, List.length_take]; rfl)) ?_
      with_reducible refine (laws_toSpace.calls kj11 a0_0 _ _ l0_1 t121 t122 _ ?side1 ?side2 A32.out).mono ?_
      (case side1 => repeat (first | exact (Kd.C_below HR0_1.out HB.out) | (with_reducible refine Kd.C_alloc ?_ _) | (with_reducible refine Kd.C_drewN ?_ _) | (with_reducible refine Kd.C_drew ?_)))
      (case side2 => exact HC0_1.out)
      rintro e w38 ⟨v123, rfl, ho0, hb⟩
      refine ⟨_, rfl, ?_⟩
      have n0_ := asd (Kd.R_elder' (upR <| HO_6.out) (Kd.R_base ho0) hb)
      have n1_ := asd (Kd.R_elder' (upR <| HO_9.out) (Kd.R_base ho0) hb)
      have n2_ := asd (Kd.R_elder' (upR <| HO_116001.out) (Kd.R_base ho0) hb)
      have n3_ := asd (Kd.R_lower (Kd.R_new' (Kd.R_new' (Kd.R_new' ho0 (Kd.R_lt (upR <| HO_6.out))) (Kd.R_lt (upR <| HO_9.out))) (Kd.R_lt (upR <| HO_116001.out))) (below_size (by repeat (first | (with_reducible first | exact HB.out | apply below_alloc | apply pw_below_drewN | apply below_drew1 | refine below_set ?_ GE101.out | refine below_set ?_ GE115.out) | exact HB.out))))
      have n4_ := asd (blk_below (upB BK101.out) hb)
      have n5_ := asd (blk_below (upB BK115.out) hb)
      have n6_ := asd (below_step (by repeat (first | (with_reducible first | exact HB.out | apply below_alloc | apply pw_below_drewN | apply below_drew1 | refine below_set ?_ GE101.out | refine below_set ?_ GE115.out) | exact HB.out)) hb)
      clear HO_6
      clear HO_9
      clear HO_116001
      clear BK101
      clear BK115
      clear HB
      have HO_6 := n0_
      have HO_9 := n1_
      have HO_116001 := n2_
      have HO124 := n3_
      have BK101 := n4_
      have BK115 := n5_
      have HB := n6_
      clear n0_ n1_ n2_ n3_ n4_ n5_ n6_
      (try clear hb)
      (try clear hb2)
      (try clear hk)
      (try clear hi)
      (try clear ho0)
      obtain ⟨Ao39, co39, eo39⟩ := Kd.R_slice HO124.out
      (first | subst eo39 | (injection eo39 with f1_ f2_ f3_; have f4_ := f1_.symm; have f5_ := f3_.symm; clear f1_ f2_ f3_; subst f4_; subst f5_))
      refine hK.out _ _ ⟨(blk_cell BK115.out 0).trans rfl, (blk_cell BK115.out 1).trans rfl, (blk_cell BK101.out 0).trans rfl, (blk_cell BK101.out 1).trans rfl⟩ (fun hHeld => ?_)
      clear hK K
      refine norm_ (a' := ?_) ?_ ?_
      rotate_left
      ·
       show Act.put _ (some 47) _ = _
       simp only [Act.put, List.setIfInBounds_toArray, List.set_cons_zero, List.set_cons_succ, i64_w, i32_w]
       rfl
      refine one_ (i := 3) (N := some 48) #[true, true, true, true, false] rfl rfl (by kernel_rfl) (by decide) (fun K hK => ?_)
      refine goes_ Try.func15 (by kernel_rfl) rfl #[.agg #[.int .i64 t111, .slice Ao25 t112.length co25], .agg #[.int .i64 t121, .slice Ao39 t122.length co39]] (by rfl) rfl rfl (by (try simp only [List.map_toArray, List.map_cons, List.map_nil]); first | done | rfl | (simp only [List.length_drop, List.length_take]; rfl)) ?_
      with_reducible refine (laws_eqSpace.calls kj11 t111 _ _ t112 t121 _ _ t122 true _ ?side1 ?side2 ?side3 ?side4 A33.out).mono ?_
      (case side1 => repeat (first | exact (Kd.R_reads' HO_116001.out).2.2 | (with_reducible refine Kd.C_alloc ?_ _) | (with_reducible refine Kd.C_drewN ?_ _) | (with_reducible refine Kd.C_drew ?_)))
      (case side2 => exact (Kd.R_reads' HO_116001.out).2.1)
      (case side3 => repeat (first | exact (Kd.R_reads' HO124.out).2.2 | (with_reducible refine Kd.C_alloc ?_ _) | (with_reducible refine Kd.C_drewN ?_ _) | (with_reducible refine Kd.C_drew ?_)))
      (case side4 => exact (Kd.R_reads' HO124.out).2.1)
      rintro e w40 ⟨rfl, hb⟩
      refine ⟨_, rfl, ?_⟩
      have n0_ := asd (Kd.R_below (upR <| HO_6.out) hb)
      have n1_ := asd (Kd.R_below (upR <| HO_9.out) hb)
      have n2_ := asd (Kd.R_below (upR <| HO_116001.out) hb)
      have n3_ := asd (Kd.R_below (upR <| HO124.out) hb)
      have n4_ := asd (blk_below (upB BK101.out) hb)
      have n5_ := asd (blk_below (upB BK115.out) hb)
      have n6_ := asd (below_step (by repeat (first | (with_reducible first | exact HB.out | apply below_alloc | apply pw_below_drewN | apply below_drew1 | refine below_set ?_ GE101.out | refine below_set ?_ GE115.out) | exact HB.out)) hb)
      clear HO_6
      clear HO_9
      clear HO_116001
      clear HO124
      clear BK101
      clear BK115
      clear HB
      have HO_6 := n0_
      have HO_9 := n1_
      have HO_116001 := n2_
      have HO124 := n3_
      have BK101 := n4_
      have BK115 := n5_
      have HB := n6_
      clear n0_ n1_ n2_ n3_ n4_ n5_ n6_
      (try clear hb)
      (try clear hb2)
      (try clear hk)
      (try clear hi)
      refine hK.out _ _ ⟨(blk_cell BK115.out 0).trans rfl, (blk_cell BK115.out 1).trans rfl, (blk_cell BK101.out 0).trans rfl, (blk_cell BK101.out 1).trans rfl⟩ (fun hHeld => ?_)
      clear hK K
      refine norm_ (a' := ?_) ?_ ?_
      rotate_left
      ·
       show Act.put _ (some 48) _ = _
       simp only [Act.put, List.setIfInBounds_toArray, List.set_cons_zero, List.set_cons_succ, i64_w, i32_w]
       rfl
      refine pure_ (i := 4) (N := some 49) (v := ?_) (a' := ?_) #[true, true, true, true, true] rfl rfl (by kernel_rfl) (fun _ _ _ h => h) (Or.inl ⟨by rfl, ?_⟩) ?_ ?_
      rotate_left
      ·
       intro w'
       go_simp
       with_reducible rfl
      rotate_left
      ·
       simp only [Act.put, List.setIfInBounds_toArray, List.set_cons_zero, List.set_cons_succ, i64_w, i32_w]
       rfl
      refine done_ (by kernel_rfl) ?_
      have hnb41 := NB115_101.out
      have hnc41 := NB101_115.out
      have hcz42_0 : w40.cell? ⟨gb115, 0, none⟩ = some (.int .i64 t111) := (blk_cell BK115.out 0).trans rfl
      have hcz42_1 : w40.cell? ⟨gb115, 1, none⟩ = some (.slice Ao25 t112.length co25) := (blk_cell BK115.out 1).trans rfl
      have hfz42_0 := blk_frozen BK115.out 0
      have hfz42_1 := blk_frozen BK115.out 1
      go_upto_region 14 with (first | ((with_reducible refine gate_callee (f := 23) rfl ?_); refine goesL_ (some 52) rfl rfl Try.func23 (by kernel_rfl) rfl #[.agg #[.int .i64 t111, .slice Ao25 t112.length co25], .int .i64 1] rfl (by (try simp only [List.map_toArray, List.map_cons, List.map_nil]); first | done | rfl | (simp only [List.length_drop, List.length_take]; rfl)) ?_; (with_reducible refine (laws_markSpace.calls kj11 t111 (fun k_ => some k_ = (.slice Ao25 t112.length co25 : Value).ownBlock) (.slice Ao25 t112.length co25) t112 1 t126 t127 w _ ?side1 ?side2 A35.out).mono ?_); (case side1 => repeat (first | (with_reducible first | exact HB.out | apply below_alloc | apply pw_below_drewN | apply below_drew1 | refine below_set ?_ GE101.out | refine below_set ?_ GE115.out) | exact HB.out)); (case side2 => exact Kd.R_tight rfl HO_116001.out); rintro e w43 ⟨rfl, hy0, hb, hkp⟩; refine ⟨_, rfl, ?_⟩; have n0_ := asd (Kd.R_mono (ok' := fun k_ => some k_ ≠ (v117 : Value).ownBlock ∧ some k_ ≠ (.slice Ao25 t112.length co25 : Value).ownBlock ∧ some k_ ≠ (.slice Ao39 t122.length co39 : Value).ownBlock) (Kd.R_keptB (HO_6.out) hkp (fun k_ hk_ hs_ => (hk_.1.2) hs_)) (fun k_ hk_ => ⟨hk_.1.1.1, hk_.1.1.2, hk_.1.2⟩)); have n1_ := asd (Kd.R_mono (ok' := fun k_ => some k_ ≠ (v108 : Value).ownBlock ∧ some k_ ≠ (.slice Ao25 t112.length co25 : Value).ownBlock ∧ some k_ ≠ (.slice Ao39 t122.length co39 : Value).ownBlock) (Kd.R_keptB (HO_9.out) hkp (fun k_ hk_ hs_ => (hk_.1.2) hs_)) (fun k_ hk_ => ⟨hk_.1.1.1, hk_.1.1.2, hk_.1.2⟩)); have n2_ := asd (Kd.R_reok rfl hy0 (fun k_ e_ => HO_116001.out.1 k_ e_)); have n3_ := asd (blk_kept (upB BK101.out) hkp (fun hs_ => (fun e_ => (Kd.R_ne HO_116001.out BK101.out (by decide)) e_) hs_)); have n4_ := asd (blk_kept (upB BK115.out) hkp (fun hs_ => (fun e_ => (Kd.R_ne HO_116001.out BK115.out (by decide)) e_) hs_)); have n5_ := asd (Kd.R_mono (ok' := fun k_ => some k_ ≠ (v108 : Value).ownBlock ∧ some k_ ≠ (v117 : Value).ownBlock ∧ some k_ ≠ (.slice Ao25 t112.length co25 : Value).ownBlock) (Kd.R_keptB (HO124.out) hkp (fun k_ hk_ hs_ => (hk_.2) hs_)) (fun k_ hk_ => ⟨hk_.1.1.1.2, hk_.1.1.2, hk_.1.2⟩)); have n6_ := asd (hb); clear HO_6; clear HO_9; clear HO_116001; clear BK101; clear BK115; clear HO124; clear HB; have HO_6 := n0_; have HO_9 := n1_; have HO_116001 := n2_; have BK101 := n3_; have BK115 := n4_; have HO124 := n5_; have HB := n6_; clear n0_ n1_ n2_ n3_ n4_ n5_ n6_; (try clear hb); (try clear hkp); (try clear hy0)))
      (try simp only [Act.put, List.setIfInBounds_toArray, List.set_cons_zero, List.set_cons_succ])
      go_cut [65] (fun v65 wc => ∃ (kq : Nat) (x65_35 : Bool), v65 = .bool x65_35 ∧ Aside0 (laws_FnExactWordWith.j1 kq a1 t107 t110 t116 x65_35 a0_0 l0_1 = some r) ∧ Aside0 (kq ≤ kj11) ∧ Aside0 (Kd.R (Kd.int .i64) 3 wc w.heap.size (fun k_ => some k_ ≠ (v117 : Value).ownBlock) v108 t107) ∧ Aside0 (Kd.R (Kd.int .i64) 3 wc w.heap.size (fun k_ => some k_ ≠ (v108 : Value).ownBlock) v117 t116) ∧ Aside0 (wc.heap[gb101]? = some (.cells #[.int .i64 a0_0, (.slice A0_1 l0_1.length c0_1)] 24 (0, 0))) ∧ Aside0 (Below w.heap.size w wc))
      case first =>
       have H := HC36.out
       clear HC36
       by_cases c44 : t126 < 0
       ·
        rw [if_pos c44] at H
        have c44b0 : decide (t126 < 0) = true := decide_eq_true c44
        clear c44
        (first | rw [c44b0] | (simp only [i64_w, i32_w]; rw [c44b0]) | skip)
        rcases kj11 with _ | kk_
        ·
         exact absurd H (by simp [laws_FnExactWordWith.j1])
        ·
         simp only [laws_FnExactWordWith.j1] at H
         rw [if_pos trivial] at H
         exact absurd ((Option.some.inj H).trans hT_.out) (by decide)
       ·
        rw [if_neg c44] at H
        have c44b0 : decide (t126 < 0) = false := decide_eq_false c44
        clear c44
        (first | rw [c44b0] | (simp only [i64_w, i32_w]; rw [c44b0]) | skip)
        replace H := Option.bind_eq_some_iff.mp H
        obtain ⟨t128, A450, H⟩ := H
        replace H : (if t128 = true then (laws_FnExactWordWith.j1 kj11 a1 t107 t110 t116 (t119 != t110) a0_0 l0_1) else (laws_FnExactWordWith.j1 kj11 a1 t107 t110 t116 true a0_0 l0_1)) = some r := H
        have A45 := asd A450
        clear A450
        by_cases c46 : t128 = true
        ·
         subst c46
         have H1 : (laws_FnExactWordWith.j1 kj11 a1 t107 t110 t116 (t119 != t110) a0_0 l0_1) = some r := by rw [if_pos rfl] at H; exact H
         clear H
         have H := H1
         clear H1
         have H' := asd H
         clear H
         obtain ⟨Ao47, co47, eo47⟩ := Kd.R_slice HO_9.out
         subst eo47
         obtain ⟨Ao48, co48, eo48⟩ := Kd.R_slice HO_6.out
         subst eo48
         go_wp2_with (first | (go_at_call 22; (with_reducible refine (laws_eqIntS.calls kj11 _ _ t116 _ _ t107 true _ ?side1 ?side2 ?side3 ?side4 A45.out).mono ?_); (case side1 => repeat (first | exact (Kd.R_reads' HO_9.out).2.2 | (with_reducible refine Kd.C_alloc ?_ _) | (with_reducible refine Kd.C_drewN ?_ _) | (with_reducible refine Kd.C_drew ?_))); (case side2 => exact (Kd.R_reads' HO_9.out).2.1); (case side3 => repeat (first | exact (Kd.R_reads' HO_6.out).2.2 | (with_reducible refine Kd.C_alloc ?_ _) | (with_reducible refine Kd.C_drewN ?_ _) | (with_reducible refine Kd.C_drew ?_))); (case side4 => exact (Kd.R_reads' HO_6.out).2.1); rintro e w' ⟨rfl, ⟨nd, rfl⟩⟩))
         go_meet
         case rel => exact ⟨_, ((t119 != t110)), (by first | rfl | (simp; done) | (simp [*]; done)), H', ⟨by have := HJ11.out; first | omega | exact Nat.le_refl _⟩, ⟨by (with_reducible repeat (first | apply Kd.R_alloc | apply Kd.R_drewN | apply Kd.R_drew)); exact Kd.R_mono HO_6.out (fun _ hk => hk.1)⟩, ⟨by (with_reducible repeat (first | apply Kd.R_alloc | apply Kd.R_drewN | apply Kd.R_drew)); exact Kd.R_mono HO_9.out (fun _ hk => hk.1)⟩, ⟨by (with_reducible repeat (first | refine blk_drewN ?_ _ | refine blk_drew ?_ | refine blk_alloc ?_ _)); exact BK101.out⟩, ⟨by repeat (first | (with_reducible first | exact HB.out | apply below_alloc | apply pw_below_drewN | apply below_drew1 | refine below_set ?_ GE101.out | refine below_set ?_ GE115.out) | exact HB.out)⟩⟩
        ·
         replace c46 := Bool.eq_false_iff.mpr c46
         subst c46
         have H1 : (laws_FnExactWordWith.j1 kj11 a1 t107 t110 t116 true a0_0 l0_1) = some r := by rw [if_neg (show ¬ (false = true) by decide)] at H; exact H
         clear H
         have H := H1
         clear H1
         rcases kj11 with _ | kk_
         ·
          exact absurd H (by simp [laws_FnExactWordWith.j1])
         ·
          simp only [laws_FnExactWordWith.j1] at H
          rw [if_pos trivial] at H
          exact absurd ((Option.some.inj H).trans hT_.out) (by decide)
      case rest =>
       clear HC36
       try clear c1
       try clear c2
       try clear p2
       try clear c3
       try clear c4
       try clear c4b0
       try clear c6
       try clear c11
       try clear c13
       try clear c15
       try clear c20
       try clear c21
       try clear c22
       try clear c23
       try clear c28
       try clear c31
       try clear c34
       try clear c41
       try clear c44
       try clear c44b0
       try clear c46
       try clear hcz14_0
       try clear hcz14_1
       try clear hcz16_0
       try clear hcz16_1
       try clear hcz20_0
       try clear hcz20_1
       try clear hcz24_0
       try clear hcz24_1
       try clear hcz42_0
       try clear hcz42_1
       try clear hcz6_0
       try clear hcz6_1
       try clear hfz14_0
       try clear hfz14_1
       try clear hfz16_0
       try clear hfz16_1
       try clear hfz20_0
       try clear hfz20_1
       try clear hfz24_0
       try clear hfz24_1
       try clear hfz42_0
       try clear hfz42_1
       try clear hfz6_0
       try clear hfz6_1
       try clear p2
       obtain ⟨kq, x65_35, rfl, HA, HJ35, HO_6, HO_9, BK101, HB⟩ := hcut
       cases kq with
       | zero => exact absurd HA.out (by simp [laws_FnExactWordWith.j1])
       | succ kj35 =>
        have H := HA.out
        clear HA
        simp only [laws_FnExactWordWith.j1] at H
        by_cases c49 : x65_35 = true
        ·
         subst c49
         have H1 : (some false) = some r := by rw [if_pos rfl] at H; exact H
         clear H
         have H := H1
         clear H1
         exact absurd ((Option.some.inj H).trans hT_.out) (by decide)
        ·
         replace c49 := Bool.eq_false_iff.mpr c49
         subst c49
         have H1 : ((laws_markIntS.f kj35 t116 1).bind fun bt129 => ((laws_heldIntS.f kj35 bt129.2 1).bind fun t131 => (if t131 < 0 then (some false) else (if t131 = bt129.1 then ((laws_toSpace.f kj35 a0_0 l0_1).bind fun bt132 => ((impl_WordWith.f kj35 bt132.1 bt132.2 a1).bind fun bt136 => ((laws_eqIntS.f kj35 bt136.1 t107).bind fun t140 => (if t140 = true then (laws_FnExactWordWith.j2 kj35 bt129.2 bt129.1 (bt136.2 != t110)) else (laws_FnExactWordWith.j2 kj35 bt129.2 bt129.1 true))))) else (some false))))) = some r := by rw [if_neg (show ¬ (false = true) by decide)] at H; exact H
         clear H
         have H := H1
         clear H1
         replace H := Option.bind_eq_some_iff.mp H
         obtain ⟨⟨t129, t130⟩, A500, H⟩ := H
         replace H : ((laws_heldIntS.f kj35 t130 1).bind fun t131 => (if t131 < 0 then (some false) else (if t131 = t129 then ((laws_toSpace.f kj35 a0_0 l0_1).bind fun bt132 => ((impl_WordWith.f kj35 bt132.1 bt132.2 a1).bind fun bt136 => ((laws_eqIntS.f kj35 bt136.1 t107).bind fun t140 => (if t140 = true then (laws_FnExactWordWith.j2 kj35 t130 t129 (bt136.2 != t110)) else (laws_FnExactWordWith.j2 kj35 t130 t129 true))))) else (some false)))) = some r := H
         have A50 := asd A500
         clear A500
         replace H := Option.bind_eq_some_iff.mp H
         obtain ⟨t131, A510, H⟩ := H
         replace H : (if t131 < 0 then (some false) else (if t131 = t129 then ((laws_toSpace.f kj35 a0_0 l0_1).bind fun bt132 => ((impl_WordWith.f kj35 bt132.1 bt132.2 a1).bind fun bt136 => ((laws_eqIntS.f kj35 bt136.1 t107).bind fun t140 => (if t140 = true then (laws_FnExactWordWith.j2 kj35 t130 t129 (bt136.2 != t110)) else (laws_FnExactWordWith.j2 kj35 t130 t129 true))))) else (some false))) = some r := H
         have A51 := asd A510
         clear A510
         by_cases c52 : t131 < 0
         ·
          rw [if_pos c52] at H
          have c52b0 : decide (t131 < 0) = true := decide_eq_true c52
          clear c52
          exact absurd ((Option.some.inj H).trans hT_.out) (by decide)
         ·
          rw [if_neg c52] at H
          have c52b0 : decide (t131 < 0) = false := decide_eq_false c52
          clear c52
          by_cases c53 : t131 = t129
          ·
           rw [if_pos c53] at H
           have c53b0 : (t131 == t129) = true := beq_iff_eq.mpr c53
           have c53b1 : (t131 != t129) = false := bne_eq_false_iff_eq.mpr c53
           clear c53
           replace H := Option.bind_eq_some_iff.mp H
           obtain ⟨⟨t132, t133⟩, A540, H⟩ := H
           replace H : ((impl_WordWith.f kj35 t132 t133 a1).bind fun bt136 => ((laws_eqIntS.f kj35 bt136.1 t107).bind fun t140 => (if t140 = true then (laws_FnExactWordWith.j2 kj35 t130 t129 (bt136.2 != t110)) else (laws_FnExactWordWith.j2 kj35 t130 t129 true)))) = some r := H
           have A54 := asd A540
           clear A540
           replace H := Option.bind_eq_some_iff.mp H
           obtain ⟨⟨t136, t139⟩, A550, H⟩ := H
           replace H : ((laws_eqIntS.f kj35 t136 t107).bind fun t140 => (if t140 = true then (laws_FnExactWordWith.j2 kj35 t130 t129 (t139 != t110)) else (laws_FnExactWordWith.j2 kj35 t130 t129 true))) = some r := H
           have A55 := asd A550
           clear A550
           have HC56 := asd H
           clear H
           obtain ⟨Ao57, co57, eo57⟩ := Kd.R_slice HO_9.out
           subst eo57
           go_upto_region 25 with (first | ((with_reducible refine gate_callee (f := 24) rfl ?_); refine goesL_ (some 68) rfl rfl Try.func24 (by kernel_rfl) rfl #[.slice Ao57 t116.length co57, .int .i64 1] rfl (by (try simp only [List.map_toArray, List.map_cons, List.map_nil]); first | done | rfl | (simp only [List.length_drop, List.length_take]; rfl)) ?_; (with_reducible refine (laws_markIntS.calls kj35 (fun k_ => some k_ = (.slice Ao57 t116.length co57 : Value).ownBlock) (.slice Ao57 t116.length co57) t116 1 t129 t130 w _ ?side1 ?side2 A50.out).mono ?_); (case side1 => repeat (first | (with_reducible first | exact HB.out | apply below_alloc | apply pw_below_drewN | apply below_drew1 | refine below_set ?_ GE101.out) | exact HB.out)); (case side2 => exact Kd.R_tight rfl HO_9.out); rintro e w58 ⟨rfl, hy0, hb, hkp⟩; refine ⟨_, rfl, ?_⟩; have n0_ := asd (Kd.R_mono (ok' := fun k_ => some k_ ≠ (.slice Ao57 t116.length co57 : Value).ownBlock) (Kd.R_keptB (HO_6.out) hkp (fun k_ hk_ hs_ => (hk_) hs_)) (fun k_ hk_ => hk_.1)); have n1_ := asd (Kd.R_reok rfl hy0 (fun k_ e_ => HO_9.out.1 k_ e_)); have n2_ := asd (blk_kept (upB BK101.out) hkp (fun hs_ => (fun e_ => (Kd.R_ne HO_9.out BK101.out (by decide)) e_) hs_)); have n3_ := asd (hb); clear HO_6; clear HO_9; clear BK101; clear HB; have HO_6 := n0_; have HO_9 := n1_; have BK101 := n2_; have HB := n3_; clear n0_ n1_ n2_ n3_; (try clear hb); (try clear hkp); (try clear hy0)) | ((with_reducible refine gate_callee (f := 25) rfl ?_); refine goesL_ (some 71) rfl rfl Try.func25 (by kernel_rfl) rfl #[.slice Ao57 t130.length co57, .int .i64 1] rfl (by (try simp only [List.map_toArray, List.map_cons, List.map_nil]); first | done | (rw [show t130.length = t116.length from (Kd.R_reads' HO_9.out).1.symm] <;> rfl) | rfl | (simp only [List.length_drop, List.length_take]; rfl)) ?_; (with_reducible refine (laws_heldIntS.calls kj35 _ _ t130 1 t131 _ ?side1 ?side2 A51.out).mono ?_); (case side1 => repeat (first | exact (Kd.R_reads' HO_9.out).2.2 | (with_reducible refine Kd.C_alloc ?_ _) | (with_reducible refine Kd.C_drewN ?_ _) | (with_reducible refine Kd.C_drew ?_))); (case side2 => rw [show t130.length = t116.length from (Kd.R_reads' HO_9.out).1.symm]; exact (Kd.R_reads' HO_9.out).2.1); rintro e w' ⟨rfl, ⟨nd, rfl⟩⟩; refine ⟨_, rfl, ?_⟩; have hcz59_0 : w58.cell? ⟨gb101, 0, none⟩ = some (.int .i64 a0_0) := (blk_cell BK101.out 0).trans rfl; have hcz59_1 : w58.cell? ⟨gb101, 1, none⟩ = some (.slice A0_1 l0_1.length c0_1) := (blk_cell BK101.out 1).trans rfl; have hfz59_0 := blk_frozen BK101.out 0; have hfz59_1 := blk_frozen BK101.out 1) | ((with_reducible refine gate_callee (f := 13) rfl ?_); refine goesL_ (some 79) rfl rfl Try.func13 (by kernel_rfl) rfl #[.agg #[.int .i64 a0_0, .slice A0_1 l0_1.length c0_1]] rfl (by (try simp only [List.map_toArray, List.map_cons, List.map_nil]); first | done | rfl | (simp only [List.length_drop, List.length_take]; rfl)) ?_; (with_reducible refine (laws_toSpace.calls kj35 a0_0 _ _ l0_1 t132 t133 _ ?side1 ?side2 A54.out).mono ?_); (case side1 => repeat (first | exact (Kd.C_below HR0_1.out (by repeat (first | (with_reducible first | exact HB.out | apply below_alloc | apply pw_below_drewN | apply below_drew1 | refine below_set ?_ GE101.out) | exact HB.out))) | (with_reducible refine Kd.C_alloc ?_ _) | (with_reducible refine Kd.C_drewN ?_ _) | (with_reducible refine Kd.C_drew ?_))); (case side2 => exact HC0_1.out); rintro e w60 ⟨v134, rfl, ho0, hb⟩; refine ⟨_, rfl, ?_⟩; have n0_ := asd (Kd.R_elder' (upR <| HO_6.out) (Kd.R_base ho0) hb); have n1_ := asd (Kd.R_elder' (upR <| HO_9.out) (Kd.R_base ho0) hb); have n2_ := asd (Kd.R_lower (Kd.R_new' (Kd.R_new' ho0 (Kd.R_lt (upR <| HO_6.out))) (Kd.R_lt (upR <| HO_9.out))) (below_size (by repeat (first | (with_reducible first | exact HB.out | apply below_alloc | apply pw_below_drewN | apply below_drew1 | refine below_set ?_ GE101.out) | exact HB.out)))); have n3_ := asd (blk_below (upB BK101.out) hb); have n4_ := asd (below_step (by repeat (first | (with_reducible first | exact HB.out | apply below_alloc | apply pw_below_drewN | apply below_drew1 | refine below_set ?_ GE101.out) | exact HB.out)) hb); clear HO_6; clear HO_9; clear BK101; clear HB; have HO_6 := n0_; have HO_9 := n1_; have HO135 := n2_; have BK101 := n3_; have HB := n4_; clear n0_ n1_ n2_ n3_ n4_; (try clear hb); (try clear hb2); (try clear hk); (try clear hi); (try clear ho0); obtain ⟨Ao61, co61, eo61⟩ := Kd.R_slice HO135.out; subst eo61) | ((with_reducible refine gate_callee (f := 21) rfl ?_); refine goesL_ (some 81) rfl rfl Try.func21 (by kernel_rfl) rfl #[.agg #[.int .i64 t132, .slice Ao61 t133.length co61], .int .i64 a1] rfl (by (try simp only [List.map_toArray, List.map_cons, List.map_nil]); first | done | rfl | (simp only [List.length_drop, List.length_take]; rfl)) ?_; (with_reducible refine (impl_WordWith.calls kj35 t132 _ _ t133 a1 t136 t139 _ ?side1 ?side2 A55.out).mono ?_); (case side1 => repeat (first | exact (Kd.R_reads' HO135.out).2.2 | (with_reducible refine Kd.C_alloc ?_ _) | (with_reducible refine Kd.C_drewN ?_ _) | (with_reducible refine Kd.C_drew ?_))); (case side2 => exact (Kd.R_reads' HO135.out).2.1); rintro e w62 ⟨v137, rfl, ho0, hb⟩; refine ⟨_, rfl, ?_⟩; have n0_ := asd (Kd.R_elder' (upR <| HO_6.out) (Kd.R_base ho0) hb); have n1_ := asd (Kd.R_elder' (upR <| HO_9.out) (Kd.R_base ho0) hb); have n2_ := asd (Kd.R_elder' (upR <| HO135.out) (Kd.R_base ho0) hb); have n3_ := asd (Kd.R_lower (Kd.R_new' (Kd.R_new' (Kd.R_new' ho0 (Kd.R_lt (upR <| HO_6.out))) (Kd.R_lt (upR <| HO_9.out))) (Kd.R_lt (upR <| HO135.out))) (below_size (by repeat (first | (with_reducible first | exact HB.out | apply below_alloc | apply pw_below_drewN | apply below_drew1 | refine below_set ?_ GE101.out) | exact HB.out)))); have n4_ := asd (blk_below (upB BK101.out) hb); have n5_ := asd (below_step (by repeat (first | (with_reducible first | exact HB.out | apply below_alloc | apply pw_below_drewN | apply below_drew1 | refine below_set ?_ GE101.out) | exact HB.out)) hb); clear HO_6; clear HO_9; clear HO135; clear BK101; clear HB; have HO_6 := n0_; have HO_9 := n1_; have HO135 := n2_; have HO138 := n3_; have BK101 := n4_; have HB := n5_; clear n0_ n1_ n2_ n3_ n4_ n5_; (try clear hb); (try clear hb2); (try clear hk); (try clear hi); (try clear ho0)))
           (try simp only [Act.put, List.setIfInBounds_toArray, List.set_cons_zero, List.set_cons_succ])
           go_cut [92] (fun v92 wc => ∃ (kq : Nat) (x92_55 : Bool), v92 = .bool x92_55 ∧ Aside0 (laws_FnExactWordWith.j2 kq t130 t129 x92_55 = some r) ∧ Aside0 (kq ≤ kj35) ∧ Aside0 (Kd.R (Kd.int .i64) 3 wc w.heap.size (fun _ => True) (.slice Ao57 t116.length co57) t130) ∧ Aside0 (Below w.heap.size w wc))
           case first =>
            have H := HC56.out
            clear HC56
            replace H := Option.bind_eq_some_iff.mp H
            obtain ⟨t140, A630, H⟩ := H
            replace H : (if t140 = true then (laws_FnExactWordWith.j2 kj35 t130 t129 (t139 != t110)) else (laws_FnExactWordWith.j2 kj35 t130 t129 true)) = some r := H
            have A63 := asd A630
            clear A630
            by_cases c64 : t140 = true
            ·
             subst c64
             have H1 : (laws_FnExactWordWith.j2 kj35 t130 t129 (t139 != t110)) = some r := by rw [if_pos rfl] at H; exact H
             clear H
             have H := H1
             clear H1
             have H' := asd H
             clear H
             obtain ⟨Ao65, co65, eo65⟩ := Kd.R_slice HO138.out
             subst eo65
             obtain ⟨Ao66, co66, eo66⟩ := Kd.R_slice HO_6.out
             subst eo66
             go_wp2_with (first | ((with_reducible refine gate_callee (f := 22) rfl ?_); refine goesL_ (some 86) rfl rfl Try.func22 (by kernel_rfl) rfl #[.slice Ao65 t136.length co65, .slice Ao66 t107.length co66] rfl (by (try simp only [List.map_toArray, List.map_cons, List.map_nil]); first | done | rfl | (simp only [List.length_drop, List.length_take]; rfl)) ?_; (with_reducible refine (laws_eqIntS.calls kj35 _ _ t136 _ _ t107 true _ ?side1 ?side2 ?side3 ?side4 A63.out).mono ?_); (case side1 => repeat (first | exact (Kd.R_reads' HO138.out).2.2 | (with_reducible refine Kd.C_alloc ?_ _) | (with_reducible refine Kd.C_drewN ?_ _) | (with_reducible refine Kd.C_drew ?_))); (case side2 => exact (Kd.R_reads' HO138.out).2.1); (case side3 => repeat (first | exact (Kd.R_reads' HO_6.out).2.2 | (with_reducible refine Kd.C_alloc ?_ _) | (with_reducible refine Kd.C_drewN ?_ _) | (with_reducible refine Kd.C_drew ?_))); (case side4 => exact (Kd.R_reads' HO_6.out).2.1); rintro e w' ⟨rfl, ⟨nd, rfl⟩⟩; refine ⟨_, rfl, ?_⟩))
             go_meet
             case rel => exact ⟨_, ((t139 != t110)), (by first | rfl | (simp; done) | (simp [*]; done)), H', ⟨by have := HJ11.out; have := HJ35.out; first | omega | exact Nat.le_refl _⟩, ⟨by (with_reducible repeat (first | apply Kd.R_alloc | apply Kd.R_drewN | apply Kd.R_drew)); exact Kd.R_mono HO_9.out (fun _ hk => trivial)⟩, ⟨by repeat (first | (with_reducible first | exact HB.out | apply below_alloc | apply pw_below_drewN | apply below_drew1 | refine below_set ?_ GE101.out) | exact HB.out)⟩⟩
            ·
             replace c64 := Bool.eq_false_iff.mpr c64
             subst c64
             have H1 : (laws_FnExactWordWith.j2 kj35 t130 t129 true) = some r := by rw [if_neg (show ¬ (false = true) by decide)] at H; exact H
             clear H
             have H := H1
             clear H1
             rcases kj35 with _ | kk_
             ·
              exact absurd H (by simp [laws_FnExactWordWith.j2])
             ·
              simp only [laws_FnExactWordWith.j2] at H
              rw [if_pos trivial] at H
              exact absurd ((Option.some.inj H).trans hT_.out) (by decide)
           case rest =>
            clear HC56
            try clear c1
            try clear c2
            try clear p2
            try clear c3
            try clear c4
            try clear c4b0
            try clear c5
            try clear c6
            try clear c11
            try clear c13
            try clear c15
            try clear c20
            try clear c21
            try clear c22
            try clear c23
            try clear c24
            try clear c25
            try clear c28
            try clear c31
            try clear c34
            try clear c41
            try clear c44
            try clear c44b0
            try clear c46
            try clear c49
            try clear c52
            try clear c52b0
            try clear c53
            try clear c53b0
            try clear c53b1
            try clear c64
            try clear hcz14_0
            try clear hcz14_1
            try clear hcz16_0
            try clear hcz16_1
            try clear hcz20_0
            try clear hcz20_1
            try clear hcz24_0
            try clear hcz24_1
            try clear hcz42_0
            try clear hcz42_1
            try clear hcz59_0
            try clear hcz59_1
            try clear hcz6_0
            try clear hcz6_1
            try clear hfz14_0
            try clear hfz14_1
            try clear hfz16_0
            try clear hfz16_1
            try clear hfz20_0
            try clear hfz20_1
            try clear hfz24_0
            try clear hfz24_1
            try clear hfz42_0
            try clear hfz42_1
            try clear hfz59_0
            try clear hfz59_1
            try clear hfz6_0
            try clear hfz6_1
            try clear p2
            obtain ⟨kq, x92_55, rfl, HA, HJ55, HO_9, HB⟩ := hcut
            have hl9_55 := (Kd.R_reads' HO_9.out).1
            rw [hl9_55] at HO_9
            (try simp only [hl9_55])
            cases kq with
            | zero => exact absurd HA.out (by simp [laws_FnExactWordWith.j2])
            | succ kj55 =>
             have H := HA.out
             clear HA
             simp only [laws_FnExactWordWith.j2] at H
             by_cases c67 : x92_55 = true
             ·
              subst c67
              have H1 : (some false) = some r := by rw [if_pos rfl] at H; exact H
              clear H
              have H := H1
              clear H1
              exact absurd ((Option.some.inj H).trans hT_.out) (by decide)
             ·
              replace c67 := Bool.eq_false_iff.mpr c67
              subst c67
              have H1 : ((laws_heldIntS.f kj55 t130 1).bind fun t141 => (if t141 < 0 then (some false) else (if t141 = t129 then (some true) else (some false)))) = some r := by rw [if_neg (show ¬ (false = true) by decide)] at H; exact H
              clear H
              have H := H1
              clear H1
              replace H := Option.bind_eq_some_iff.mp H
              obtain ⟨t141, A680, H⟩ := H
              replace H : (if t141 < 0 then (some false) else (if t141 = t129 then (some true) else (some false))) = some r := H
              have A68 := asd A680
              clear A680
              by_cases c69 : t141 < 0
              ·
               rw [if_pos c69] at H
               have c69b0 : decide (t141 < 0) = true := decide_eq_true c69
               clear c69
               exact absurd ((Option.some.inj H).trans hT_.out) (by decide)
              ·
               rw [if_neg c69] at H
               have c69b0 : decide (t141 < 0) = false := decide_eq_false c69
               clear c69
               by_cases c70 : t141 = t129
               ·
                rw [if_pos c70] at H
                have c70b0 : (t141 == t129) = true := beq_iff_eq.mpr c70
                have c70b1 : (t141 != t129) = false := bne_eq_false_iff_eq.mpr c70
                clear c70
                obtain rfl := Option.some.inj H
                go_wp2_with (first | ((with_reducible refine gate_callee (f := 25) rfl ?_); refine goesL_ (some 95) rfl rfl Try.func25 (by kernel_rfl) rfl #[.slice Ao57 t130.length co57, .int .i64 1] rfl (by (try simp only [List.map_toArray, List.map_cons, List.map_nil]); first | done | rfl | (simp only [List.length_drop, List.length_take]; rfl)) ?_; (with_reducible refine (laws_heldIntS.calls kj55 _ _ t130 1 t141 _ ?side1 ?side2 A68.out).mono ?_); (case side1 => repeat (first | exact (Kd.R_reads' HO_9.out).2.2 | (with_reducible refine Kd.C_alloc ?_ _) | (with_reducible refine Kd.C_drewN ?_ _) | (with_reducible refine Kd.C_drew ?_))); (case side2 => exact (Kd.R_reads' HO_9.out).2.1); rintro e w' ⟨rfl, ⟨nd, rfl⟩⟩; refine ⟨_, rfl, ?_⟩))
                go_ret
                exact ⟨by first | rfl | (simp [errW_none, errW_some] <;> rfl) | (simp [*, errW_none, errW_some] <;> rfl), by repeat (first | (with_reducible first | exact HB.out | apply below_alloc | apply pw_below_drewN | apply below_drew1) | exact HB.out)⟩
               ·
                rw [if_neg c70] at H
                have c70b0 : (t141 == t129) = false := beq_eq_false_iff_ne.mpr c70
                have c70b1 : (t141 != t129) = true := bne_iff_ne.mpr c70
                exact absurd ((Option.some.inj H).trans hT_.out) (by decide)
          ·
           rw [if_neg c53] at H
           have c53b0 : (t131 == t129) = false := beq_eq_false_iff_ne.mpr c53
           have c53b1 : (t131 != t129) = true := bne_iff_ne.mpr c53
           exact absurd ((Option.some.inj H).trans hT_.out) (by decide)
     ·
      replace c34 := Bool.eq_false_iff.mpr c34
      subst c34
      have H1 : (some false) = some r := by rw [if_neg (show ¬ (false = true) by decide)] at H; exact H
      clear H
      have H := H1
      clear H1
      exact absurd ((Option.some.inj H).trans hT_.out) (by decide)

end Go.Proofs.Ytkepeflplmkcmaa.Q
