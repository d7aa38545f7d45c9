/- Contracts of functions that the laws reach: a call returns what the plain Lean function of the same name tells. Conditions: those of each theorem. Made by gen.py, a program of this session, over the print of the translation. -/
import Derived.Test.YtpilnkaiepdemaaPx0
import Derived.Test.YtpilnkaiepdemaaPx1
import Derived.Test.YtpilnkaiepdemaaPx4
import Derived.Test.YtpilnkaiepdemaaPx5
import Derived.Test.YtpilnkaiepdemaaPx6
namespace Go.Proofs.Ytpilnkaiepdemaa.Q
open Go.RowKit Go.Proofs.YtpilnkaiepdemaaW.PrintWords Go.Proofs.YtpilnkaiepdemaaW.PrintLast Go.Proofs.YtpilnkaiepdemaaW.PrintMore
attribute [local go_sem] max2_int min2_int max_two min_two max_three min_three max_four min_four   -- for this text's walks alone
set_option linter.unusedVariables false
set_option linter.unusedSimpArgs false

/-! ### laws_FnExactMeetOfSpaces: function 3 -/
mutual
def laws_FnExactMeetOfSpaces.j0 : Nat → Bool → Bool → Bool → Int → List Int → Int → List Int → Int → List Int → Int → List Int → Int → List Int → Int → List Int → Option (Bool)
 | 0, _, _, _, _, _, _, _, _, _, _, _, _, _, _, _ => none
 | k + 1, x7, x11, x53, x102000, x102001, x103000, x103001, x119000, x119001, x124000, x124001, x129000, x129001, x135000, x135001 => if x53 = true then (some false) else ((laws_toSpace.f k x102000 x102001).bind fun bt136 => ((laws_eqSpace.f k x124000 x124001 bt136.1 bt136.2).bind fun t140 => (if t140 = true then ((laws_toSpace.f k x103000 x103001).bind fun bt141 => ((laws_eqSpace.f k x129000 x129001 bt141.1 bt141.2).bind fun t145 => (if t145 = true then ((laws_markSpace.f k x124000 x124001 1).bind fun bt146 => ((laws_markSpace.f k x129000 x129001 bt146.1).bind fun bt148 => (if bt148.1 < 0 then (laws_FnExactMeetOfSpaces.j1 k x7 true x102000 x102001 x103000 x103001 x119000 x119001 x135000 x135001) else ((laws_eqSpace.f k x135000 x135001 x119000 x119001).bind fun t150 => (if t150 = true then (laws_FnExactMeetOfSpaces.j1 k x7 (x11 != x7) x102000 x102001 x103000 x103001 x119000 x119001 x135000 x135001) else (laws_FnExactMeetOfSpaces.j1 k x7 true x102000 x102001 x103000 x103001 x119000 x119001 x135000 x135001)))))) else (some false)))) else (some false))))
def laws_FnExactMeetOfSpaces.j1 : Nat → Bool → Bool → Int → List Int → Int → List Int → Int → List Int → Int → List Int → Option (Bool)
 | 0, _, _, _, _, _, _, _, _, _, _ => none
 | k + 1, x7, x82, x102000, x102001, x103000, x103001, x119000, x119001, x135000, x135001 => if x82 = true then (some false) else ((laws_markSpace.f k x135000 x135001 1).bind fun bt151 => ((laws_heldSpace.f k x135000 bt151.2 1).bind fun t153 => (if t153 < 0 then (some false) else (if t153 = bt151.1 then ((laws_toSpace.f k x102000 x102001).bind fun bt154 => ((laws_toSpace.f k x103000 x103001).bind fun bt158 => ((impl_MeetOfSpaces.f bt154.1 bt154.2 bt158.1 bt158.2).bind fun bt162 => ((laws_eqSpace.f k bt162.1 bt162.2.1 x119000 x119001).bind fun t168 => (if t168 = true then (laws_FnExactMeetOfSpaces.j2 k bt151.1 (bt162.2.2 != x7) x135000 bt151.2) else (laws_FnExactMeetOfSpaces.j2 k bt151.1 true x135000 bt151.2)))))) else (some false)))))
def laws_FnExactMeetOfSpaces.j2 : Nat → Int → Bool → Int → List Int → Option (Bool)
 | 0, _, _, _, _ => none
 | k + 1, x13, x110, x135000, x135001 => if x110 = true then (some false) else ((laws_heldSpace.f k x135000 x135001 1).bind fun t169 => (if t169 < 0 then (some false) else (if t169 = x13 then (some true) else (some false))))
end
def laws_FnExactMeetOfSpaces.f (k : Nat) (a0_0 : Int) (l0_1 : List Int) (a1_0 : Int) (l1_1 : List Int) : Option (Bool) := (laws_szSpace.f a0_0 l0_1 1048576).bind fun t103 => (if t103 < 0 then (some true) else ((laws_szSpace.f a1_0 l1_1 t103).bind fun t104 => (if t104 < 0 then (some true) else ((laws_toSpace.f k a0_0 l0_1).bind fun bt105 => ((laws_toSpace.f k a1_0 l1_1).bind fun bt109 => ((spec_MeetOfSpaces.f k bt105.1 bt105.2 bt109.1 bt109.2).bind fun bt113 => ((laws_toSpace.f k a0_0 l0_1).bind fun bt119 => ((laws_toSpace.f k a1_0 l1_1).bind fun bt124 => ((impl_MeetOfSpaces.f bt119.1 bt119.2 bt124.1 bt124.2).bind fun bt129 => ((laws_eqSpace.f k bt129.1 bt129.2.1 bt113.1 bt113.2.1).bind fun t135 => (if t135 = true then (laws_FnExactMeetOfSpaces.j0 k bt113.2.2 bt129.2.2 (bt129.2.2 != bt113.2.2) a0_0 l0_1 a1_0 l1_1 bt113.1 bt113.2.1 bt119.1 bt119.2 bt124.1 bt124.2 bt129.1 bt129.2.1) else (laws_FnExactMeetOfSpaces.j0 k bt113.2.2 bt129.2.2 true a0_0 l0_1 a1_0 l1_1 bt113.1 bt113.2.1 bt119.1 bt119.2 bt124.1 bt124.2 bt129.1 bt129.2.1))))))))))))
theorem laws_FnExactMeetOfSpaces.mono_l : ∀ k, (∀ y0 y1 y2 y3 y4 y5 y6 y7 y8 y9 y10 y11 y12 y13 y14, LeO (laws_FnExactMeetOfSpaces.j0 k y0 y1 y2 y3 y4 y5 y6 y7 y8 y9 y10 y11 y12 y13 y14) (laws_FnExactMeetOfSpaces.j0 (k + 1) y0 y1 y2 y3 y4 y5 y6 y7 y8 y9 y10 y11 y12 y13 y14)) ∧ (∀ y0 y1 y2 y3 y4 y5 y6 y7 y8 y9, LeO (laws_FnExactMeetOfSpaces.j1 k y0 y1 y2 y3 y4 y5 y6 y7 y8 y9) (laws_FnExactMeetOfSpaces.j1 (k + 1) y0 y1 y2 y3 y4 y5 y6 y7 y8 y9)) ∧ (∀ y0 y1 y2 y3, LeO (laws_FnExactMeetOfSpaces.j2 k y0 y1 y2 y3) (laws_FnExactMeetOfSpaces.j2 (k + 1) y0 y1 y2 y3))
 | 0 => ⟨fun _ _ _ _ _ _ _ _ _ _ _ _ _ _ _ r h => by simp [laws_FnExactMeetOfSpaces.j0] at h, fun _ _ _ _ _ _ _ _ _ _ r h => by simp [laws_FnExactMeetOfSpaces.j1] at h, fun _ _ _ _ r h => by simp [laws_FnExactMeetOfSpaces.j2] at h⟩
 | k + 1 => by
  obtain ⟨ih0, ih1, ih2⟩ := laws_FnExactMeetOfSpaces.mono_l k
  refine ⟨?_, ?_, ?_⟩
  ·
   intro y0 y1 y2 y3 y4 y5 y6 y7 y8 y9 y10 y11 y12 y13 y14
   unfold laws_FnExactMeetOfSpaces.j0
   repeat' first
   | (with_reducible exact ih0 _ _ _ _ _ _ _ _ _ _ _ _ _ _ _)
   | (with_reducible exact ih1 _ _ _ _ _ _ _ _ _ _)
   | (with_reducible exact ih2 _ _ _ _)
   | (with_reducible exact laws_eqSpace.mono _ _ _ _ _)
   | (with_reducible exact laws_heldSpace.mono _ _ _ _)
   | (with_reducible exact laws_markSpace.mono _ _ _ _)
   | (with_reducible exact laws_toSpace.mono _ _ _)
   | (with_reducible exact spec_MeetOfSpaces.mono _ _ _ _ _)
   | (with_reducible exact LeO.refl _)
   | (with_reducible exact LeO.none _)
   | (with_reducible refine LeO.ite ?_ ?_)
   | (with_reducible refine LeO.bind ?_ (fun _ => ?_))
   | exact ih0 _ _ _ _ _ _ _ _ _ _ _ _ _ _ _
   | exact ih1 _ _ _ _ _ _ _ _ _ _
   | exact ih2 _ _ _ _
   | exact laws_eqSpace.mono _ _ _ _ _
   | exact laws_heldSpace.mono _ _ _ _
   | exact laws_markSpace.mono _ _ _ _
   | exact laws_toSpace.mono _ _ _
   | exact spec_MeetOfSpaces.mono _ _ _ _ _
   | exact LeO.none _
   | refine LeO.ite ?_ ?_
   | refine LeO.bind ?_ (fun _ => ?_)
  ·
   intro y0 y1 y2 y3 y4 y5 y6 y7 y8 y9
   unfold laws_FnExactMeetOfSpaces.j1
   repeat' first
   | (with_reducible exact ih0 _ _ _ _ _ _ _ _ _ _ _ _ _ _ _)
   | (with_reducible exact ih1 _ _ _ _ _ _ _ _ _ _)
   | (with_reducible exact ih2 _ _ _ _)
   | (with_reducible exact laws_eqSpace.mono _ _ _ _ _)
   | (with_reducible exact laws_heldSpace.mono _ _ _ _)
   | (with_reducible exact laws_markSpace.mono _ _ _ _)
   | (with_reducible exact laws_toSpace.mono _ _ _)
   | (with_reducible exact spec_MeetOfSpaces.mono _ _ _ _ _)
   | (with_reducible exact LeO.refl _)
   | (with_reducible exact LeO.none _)
   | (with_reducible refine LeO.ite ?_ ?_)
   | (with_reducible refine LeO.bind ?_ (fun _ => ?_))
   | exact ih0 _ _ _ _ _ _ _ _ _ _ _ _ _ _ _
   | exact ih1 _ _ _ _ _ _ _ _ _ _
   | exact ih2 _ _ _ _
   | exact laws_eqSpace.mono _ _ _ _ _
   | exact laws_heldSpace.mono _ _ _ _
   | exact laws_markSpace.mono _ _ _ _
   | exact laws_toSpace.mono _ _ _
   | exact spec_MeetOfSpaces.mono _ _ _ _ _
   | exact LeO.none _
   | refine LeO.ite ?_ ?_
   | refine LeO.bind ?_ (fun _ => ?_)
  ·
   intro y0 y1 y2 y3
   unfold laws_FnExactMeetOfSpaces.j2
   repeat' first
   | (with_reducible exact ih0 _ _ _ _ _ _ _ _ _ _ _ _ _ _ _)
   | (with_reducible exact ih1 _ _ _ _ _ _ _ _ _ _)
   | (with_reducible exact ih2 _ _ _ _)
   | (with_reducible exact laws_eqSpace.mono _ _ _ _ _)
   | (with_reducible exact laws_heldSpace.mono _ _ _ _)
   | (with_reducible exact laws_markSpace.mono _ _ _ _)
   | (with_reducible exact laws_toSpace.mono _ _ _)
   | (with_reducible exact spec_MeetOfSpaces.mono _ _ _ _ _)
   | (with_reducible exact LeO.refl _)
   | (with_reducible exact LeO.none _)
   | (with_reducible refine LeO.ite ?_ ?_)
   | (with_reducible refine LeO.bind ?_ (fun _ => ?_))
   | exact ih0 _ _ _ _ _ _ _ _ _ _ _ _ _ _ _
   | exact ih1 _ _ _ _ _ _ _ _ _ _
   | exact ih2 _ _ _ _
   | exact laws_eqSpace.mono _ _ _ _ _
   | exact laws_heldSpace.mono _ _ _ _
   | exact laws_markSpace.mono _ _ _ _
   | exact laws_toSpace.mono _ _ _
   | exact spec_MeetOfSpaces.mono _ _ _ _ _
   | exact LeO.none _
   | refine LeO.ite ?_ ?_
   | refine LeO.bind ?_ (fun _ => ?_)
theorem laws_FnExactMeetOfSpaces.mono : ∀ a0 a1 a2 a3 k, LeO (laws_FnExactMeetOfSpaces.f k a0 a1 a2 a3) (laws_FnExactMeetOfSpaces.f (k + 1) a0 a1 a2 a3) := by
 intro a0 a1 a2 a3 k
 obtain ⟨ih0, ih1, ih2⟩ := laws_FnExactMeetOfSpaces.mono_l k
 unfold laws_FnExactMeetOfSpaces.f
 repeat' first
   | (with_reducible exact ih0 _ _ _ _ _ _ _ _ _ _ _ _ _ _ _)
   | (with_reducible exact ih1 _ _ _ _ _ _ _ _ _ _)
   | (with_reducible exact ih2 _ _ _ _)
   | (with_reducible exact laws_eqSpace.mono _ _ _ _ _)
   | (with_reducible exact laws_heldSpace.mono _ _ _ _)
   | (with_reducible exact laws_markSpace.mono _ _ _ _)
   | (with_reducible exact laws_toSpace.mono _ _ _)
   | (with_reducible exact spec_MeetOfSpaces.mono _ _ _ _ _)
   | (with_reducible exact LeO.refl _)
   | (with_reducible exact LeO.none _)
   | (with_reducible refine LeO.ite ?_ ?_)
   | (with_reducible refine LeO.bind ?_ (fun _ => ?_))
   | exact ih0 _ _ _ _ _ _ _ _ _ _ _ _ _ _ _
   | exact ih1 _ _ _ _ _ _ _ _ _ _
   | exact ih2 _ _ _ _
   | exact laws_eqSpace.mono _ _ _ _ _
   | exact laws_heldSpace.mono _ _ _ _
   | exact laws_markSpace.mono _ _ _ _
   | exact laws_toSpace.mono _ _ _
   | exact spec_MeetOfSpaces.mono _ _ _ _ _
   | exact LeO.none _
   | refine LeO.ite ?_ ?_
   | refine LeO.bind ?_ (fun _ => ?_)
def laws_FnExactMeetOfSpaces.T8 : Bool × List (List Nat × List Nat) := (true, [([], []), ([0], [0]), ([], []), ([2, 1], [2]), ([1, 3, 3], [1, 3]), ([4], [4]), ([5], [5]), ([5], [5]), ([], []), ([8, 6, 4, 0, 1, 2, 3, 4, 5, 6, 8], [6, 8]), ([7, 9, 0, 1, 2, 3, 4, 5, 6, 7, 8, 9], [7])])
def laws_FnExactMeetOfSpaces.B8 : List Nat := [0, 1, 0, 7, 15, 31, 63, 63, 0, 383, 1023]
theorem laws_FnExactMeetOfSpaces.tab8 : rtab .any (opsOf Try.f3 8) = laws_FnExactMeetOfSpaces.T8 := by kernel_rfl
theorem laws_FnExactMeetOfSpaces.bits8 : waitsOk laws_FnExactMeetOfSpaces.T8.2 laws_FnExactMeetOfSpaces.B8 = true := by kernel_rfl
def laws_FnExactMeetOfSpaces.T31 : Bool × List (List Nat × List Nat) := (true, [([], []), ([0], [0]), ([], []), ([2, 1], [2]), ([1, 3, 3], [1, 3]), ([4], [4]), ([5], [5]), ([5], [5]), ([], []), ([8, 6, 4, 0, 1, 2, 3, 4, 5, 6, 8], [6, 8]), ([7, 9, 0, 1, 2, 3, 4, 5, 6, 7, 8, 9], [7])])
def laws_FnExactMeetOfSpaces.B31 : List Nat := [0, 1, 0, 7, 15, 31, 63, 63, 0, 383, 1023]
theorem laws_FnExactMeetOfSpaces.tab31 : rtab .any (opsOf Try.f3 31) = laws_FnExactMeetOfSpaces.T31 := by kernel_rfl
theorem laws_FnExactMeetOfSpaces.bits31 : waitsOk laws_FnExactMeetOfSpaces.T31.2 laws_FnExactMeetOfSpaces.B31 = true := by kernel_rfl
set_option maxHeartbeats 8000000 in
set_option maxRecDepth 100000 in
theorem laws_FnExactMeetOfSpaces.calls (k : Nat) (a0_0 : Int) (A0_1 : Option Addr) (c0_1 : Nat) (l0_1 : List Int) (a1_0 : Int) (A1_1 : Option Addr) (c1_1 : Nat) (l1_1 : List Int) (r : Bool) (w : World) (hr0_1 : Kd.C (Kd.int .i64) w A0_1 l0_1.length l0_1) (hc0_1 : l0_1.length ≤ c0_1) (hr1_1 : Kd.C (Kd.int .i64) w A1_1 l1_1.length l1_1) (hc1_1 : l1_1.length ≤ c1_1) (h : laws_FnExactMeetOfSpaces.f k a0_0 l0_1 a1_0 l1_1 = some r) (hT_ : Aside0 (r = true)) :
  Calls Try.prog 3 #[.agg #[.int .i64 a0_0, .slice A0_1 l0_1.length c0_1], .agg #[.int .i64 a1_0, .slice A1_1 l1_1.length c1_1]] w fun e w' => e = .returned (.bool r) ∧ Below w.heap.size w w' := by
 have hu24 := Try.underlying24
 have hu26 := Try.underlying26
 have HR0_1 := asd hr0_1
 have HC0_1 := asd hc0_1
 clear hr0_1 hc0_1
 have HR1_1 := asd hr1_1
 have HC1_1 := asd hc1_1
 clear hr1_1 hc1_1
 have HB := asd (Below.refl w.heap.size w)
 have H : ((laws_szSpace.f a0_0 l0_1 1048576).bind fun t103 => (if t103 < 0 then (some true) else ((laws_szSpace.f a1_0 l1_1 t103).bind fun t104 => (if t104 < 0 then (some true) else ((laws_toSpace.f k a0_0 l0_1).bind fun bt105 => ((laws_toSpace.f k a1_0 l1_1).bind fun bt109 => ((spec_MeetOfSpaces.f k bt105.1 bt105.2 bt109.1 bt109.2).bind fun bt113 => ((laws_toSpace.f k a0_0 l0_1).bind fun bt119 => ((laws_toSpace.f k a1_0 l1_1).bind fun bt124 => ((impl_MeetOfSpaces.f bt119.1 bt119.2 bt124.1 bt124.2).bind fun bt129 => ((laws_eqSpace.f k bt129.1 bt129.2.1 bt113.1 bt113.2.1).bind fun t135 => (if t135 = true then (laws_FnExactMeetOfSpaces.j0 k bt113.2.2 bt129.2.2 (bt129.2.2 != bt113.2.2) a0_0 l0_1 a1_0 l1_1 bt113.1 bt113.2.1 bt119.1 bt119.2 bt124.1 bt124.2 bt129.1 bt129.2.1) else (laws_FnExactMeetOfSpaces.j0 k bt113.2.2 bt129.2.2 true a0_0 l0_1 a1_0 l1_1 bt113.1 bt113.2.1 bt119.1 bt119.2 bt124.1 bt124.2 bt129.1 bt129.2.1))))))))))))) = some r := h
 clear h
 replace H := Option.bind_eq_some_iff.mp H
 obtain ⟨t103, A30, H⟩ := H
 replace H : (if t103 < 0 then (some true) else ((laws_szSpace.f a1_0 l1_1 t103).bind fun t104 => (if t104 < 0 then (some true) else ((laws_toSpace.f k a0_0 l0_1).bind fun bt105 => ((laws_toSpace.f k a1_0 l1_1).bind fun bt109 => ((spec_MeetOfSpaces.f k bt105.1 bt105.2 bt109.1 bt109.2).bind fun bt113 => ((laws_toSpace.f k a0_0 l0_1).bind fun bt119 => ((laws_toSpace.f k a1_0 l1_1).bind fun bt124 => ((impl_MeetOfSpaces.f bt119.1 bt119.2 bt124.1 bt124.2).bind fun bt129 => ((laws_eqSpace.f k bt129.1 bt129.2.1 bt113.1 bt113.2.1).bind fun t135 => (if t135 = true then (laws_FnExactMeetOfSpaces.j0 k bt113.2.2 bt129.2.2 (bt129.2.2 != bt113.2.2) a0_0 l0_1 a1_0 l1_1 bt113.1 bt113.2.1 bt119.1 bt119.2 bt124.1 bt124.2 bt129.1 bt129.2.1) else (laws_FnExactMeetOfSpaces.j0 k bt113.2.2 bt129.2.2 true a0_0 l0_1 a1_0 l1_1 bt113.1 bt113.2.1 bt119.1 bt119.2 bt124.1 bt124.2 bt129.1 bt129.2.1)))))))))))) = some r := H
 have A3 := asd A30
 clear A30
 by_cases c4 : t103 < 0
 ·
  rw [if_pos c4] at H
  have c4b0 : decide (t103 < 0) = true := decide_eq_true c4
  clear c4
  obtain rfl := Option.some.inj H
  go_enter Try.func3, Try.ntmps3
  go_wp2_with (first | ((with_reducible refine gate_dst (N := 2) rfl ?_); refine box_event ?hg (N := 2) ?hd (cs := #[.int .i64 a0_0, .slice A0_1 l0_1.length c0_1]) (t := 24) ?hr ?_; (case hd => rfl); (case hg => rfl); (case hr => first | (go_simp; done) | (go_simp; rfl)); intro gb101 hg w5 hbox hb; have n0_ := asd (below_step (by repeat (first | (with_reducible first | exact HB.out | apply below_alloc | apply pw_below_drewN | apply below_drew1) | exact HB.out)) hb); have n1_ := asd (hbox); have n2_ := asd ((by rw [hg]; exact (below_size (by repeat (first | (with_reducible first | exact HB.out | apply below_alloc | apply pw_below_drewN | apply below_drew1) | exact HB.out))) : w.heap.size ≤ gb101)); have n3_ := asd ((by rw [hg]; exact (below_size (by repeat (first | (with_reducible first | exact HB.out | apply below_alloc | apply pw_below_drewN | apply below_drew1) | exact HB.out))) : w.heap.size ≤ gb101)); clear HB; have HB := n0_; have BK101 := n1_; have GW101 := n2_; have GE101 := n3_; clear n0_ n1_ n2_ n3_; clear hb hbox hg) | ((with_reducible refine gate_dst (N := 3) rfl ?_); refine box_event ?hg (N := 3) ?hd (cs := #[.int .i64 a1_0, .slice A1_1 l1_1.length c1_1]) (t := 24) ?hr ?_; (case hd => rfl); (case hg => rfl); (case hr => first | (go_simp; done) | (go_simp; rfl)); intro gb102 hg w6 hbox hb; have n0_ := asd (blk_below (upB BK101.out) hb); have n1_ := asd (below_step (by repeat (first | (with_reducible first | exact HB.out | apply below_alloc | apply pw_below_drewN | apply below_drew1 | refine below_set ?_ GE101.out) | exact HB.out)) hb); have n2_ := asd (hbox); have n3_ := asd ((by rw [hg]; exact (below_size (by repeat (first | (with_reducible first | exact HB.out | apply below_alloc | apply pw_below_drewN | apply below_drew1 | refine below_set ?_ GE101.out) | exact HB.out))) : w.heap.size ≤ gb102)); have n4_ := asd ((by rw [hg]; exact (below_size (by repeat (first | (with_reducible first | exact HB.out | apply below_alloc | apply pw_below_drewN | apply below_drew1 | refine below_set ?_ GE101.out) | exact HB.out))) : w.heap.size ≤ gb102)); have n5_ := asd ((by rw [hg]; exact Nat.ne_of_lt (blk_lt (upB BK101.out)) : gb101 ≠ gb102)); have n6_ := asd ((by rw [hg]; exact Nat.ne_of_gt (blk_lt (upB BK101.out)) : gb102 ≠ gb101)); clear BK101; clear HB; have BK101 := n0_; have HB := n1_; have BK102 := n2_; have GW102 := n3_; have GE102 := n4_; have NB101_102 := n5_; have NB102_101 := n6_; clear n0_ n1_ n2_ n3_ n4_ n5_ n6_; clear hb hbox hg; have hnb7 := NB101_102.out; have hnc7 := NB102_101.out; have hcz8_0 : w6.cell? ⟨gb101, 0, none⟩ = some (.int .i64 a0_0) := (blk_cell BK101.out 0).trans rfl; have hcz8_1 : w6.cell? ⟨gb101, 1, none⟩ = some (.slice A0_1 l0_1.length c0_1) := (blk_cell BK101.out 1).trans rfl; have hfz8_0 := blk_frozen BK101.out 0; have hfz8_1 := blk_frozen BK101.out 1) | ((with_reducible refine gate_callee (f := 13) rfl ?_); refine goesL_ (some 19) rfl rfl Try.func13 (by kernel_rfl) rfl #[.agg #[.int .i64 a0_0, .slice A0_1 l0_1.length c0_1], .int .i64 1048576] rfl (by (try simp only [List.map_toArray, List.map_cons, List.map_nil]); first | done | rfl | (simp only [List.length_drop, List.length_take]; rfl)) ?_; (with_reducible refine (laws_szSpace.calls a0_0 _ _ l0_1 1048576 t103 _ ?side1 ?side2 A3.out).mono ?_); (case side1 => repeat (first | exact (Kd.C_below HR0_1.out HB.out) | (with_reducible refine Kd.C_alloc ?_ _) | (with_reducible refine Kd.C_drewN ?_ _) | (with_reducible refine Kd.C_drew ?_))); (case side2 => exact HC0_1.out); rintro e w9 ⟨rfl, hb⟩; refine ⟨_, rfl, ?_⟩; have n0_ := asd (blk_below (upB BK101.out) hb); have n1_ := asd (blk_below (upB BK102.out) hb); have n2_ := asd (below_step (by repeat (first | (with_reducible first | exact HB.out | apply below_alloc | apply pw_below_drewN | apply below_drew1 | refine below_set ?_ GE101.out | refine below_set ?_ GE102.out) | exact HB.out)) hb); clear BK101; clear BK102; clear HB; have BK101 := n0_; have BK102 := n1_; have HB := n2_; clear n0_ n1_ n2_; (try clear hb); (try clear hb2); (try clear hk); (try clear hi)))
  go_ret
  exact ⟨by first | rfl | (simp [errW_none, errW_some] <;> rfl) | (simp [*, errW_none, errW_some] <;> rfl), by repeat (first | (with_reducible first | exact HB.out | apply below_alloc | apply pw_below_drewN | apply below_drew1 | refine below_set ?_ GE101.out | refine below_set ?_ GE102.out) | exact HB.out)⟩
 ·
  rw [if_neg c4] at H
  have c4b0 : decide (t103 < 0) = false := decide_eq_false c4
  clear c4
  replace H := Option.bind_eq_some_iff.mp H
  obtain ⟨t104, A100, H⟩ := H
  replace H : (if t104 < 0 then (some true) else ((laws_toSpace.f k a0_0 l0_1).bind fun bt105 => ((laws_toSpace.f k a1_0 l1_1).bind fun bt109 => ((spec_MeetOfSpaces.f k bt105.1 bt105.2 bt109.1 bt109.2).bind fun bt113 => ((laws_toSpace.f k a0_0 l0_1).bind fun bt119 => ((laws_toSpace.f k a1_0 l1_1).bind fun bt124 => ((impl_MeetOfSpaces.f bt119.1 bt119.2 bt124.1 bt124.2).bind fun bt129 => ((laws_eqSpace.f k bt129.1 bt129.2.1 bt113.1 bt113.2.1).bind fun t135 => (if t135 = true then (laws_FnExactMeetOfSpaces.j0 k bt113.2.2 bt129.2.2 (bt129.2.2 != bt113.2.2) a0_0 l0_1 a1_0 l1_1 bt113.1 bt113.2.1 bt119.1 bt119.2 bt124.1 bt124.2 bt129.1 bt129.2.1) else (laws_FnExactMeetOfSpaces.j0 k bt113.2.2 bt129.2.2 true a0_0 l0_1 a1_0 l1_1 bt113.1 bt113.2.1 bt119.1 bt119.2 bt124.1 bt124.2 bt129.1 bt129.2.1)))))))))) = some r := H
  have A10 := asd A100
  clear A100
  by_cases c11 : t104 < 0
  ·
   rw [if_pos c11] at H
   have c11b0 : decide (t104 < 0) = true := decide_eq_true c11
   clear c11
   obtain rfl := Option.some.inj H
   go_enter Try.func3, Try.ntmps3
   go_wp2_with (first | ((with_reducible refine gate_dst (N := 2) rfl ?_); refine box_event ?hg (N := 2) ?hd (cs := #[.int .i64 a0_0, .slice A0_1 l0_1.length c0_1]) (t := 24) ?hr ?_; (case hd => rfl); (case hg => rfl); (case hr => first | (go_simp; done) | (go_simp; rfl)); intro gb101 hg w12 hbox hb; have n0_ := asd (below_step (by repeat (first | (with_reducible first | exact HB.out | apply below_alloc | apply pw_below_drewN | apply below_drew1) | exact HB.out)) hb); have n1_ := asd (hbox); have n2_ := asd ((by rw [hg]; exact (below_size (by repeat (first | (with_reducible first | exact HB.out | apply below_alloc | apply pw_below_drewN | apply below_drew1) | exact HB.out))) : w.heap.size ≤ gb101)); have n3_ := asd ((by rw [hg]; exact (below_size (by repeat (first | (with_reducible first | exact HB.out | apply below_alloc | apply pw_below_drewN | apply below_drew1) | exact HB.out))) : w.heap.size ≤ gb101)); clear HB; have HB := n0_; have BK101 := n1_; have GW101 := n2_; have GE101 := n3_; clear n0_ n1_ n2_ n3_; clear hb hbox hg) | ((with_reducible refine gate_dst (N := 3) rfl ?_); refine box_event ?hg (N := 3) ?hd (cs := #[.int .i64 a1_0, .slice A1_1 l1_1.length c1_1]) (t := 24) ?hr ?_; (case hd => rfl); (case hg => rfl); (case hr => first | (go_simp; done) | (go_simp; rfl)); intro gb102 hg w13 hbox hb; have n0_ := asd (blk_below (upB BK101.out) hb); have n1_ := asd (below_step (by repeat (first | (with_reducible first | exact HB.out | apply below_alloc | apply pw_below_drewN | apply below_drew1 | refine below_set ?_ GE101.out) | exact HB.out)) hb); have n2_ := asd (hbox); have n3_ := asd ((by rw [hg]; exact (below_size (by repeat (first | (with_reducible first | exact HB.out | apply below_alloc | apply pw_below_drewN | apply below_drew1 | refine below_set ?_ GE101.out) | exact HB.out))) : w.heap.size ≤ gb102)); have n4_ := asd ((by rw [hg]; exact (below_size (by repeat (first | (with_reducible first | exact HB.out | apply below_alloc | apply pw_below_drewN | apply below_drew1 | refine below_set ?_ GE101.out) | exact HB.out))) : w.heap.size ≤ gb102)); have n5_ := asd ((by rw [hg]; exact Nat.ne_of_lt (blk_lt (upB BK101.out)) : gb101 ≠ gb102)); have n6_ := asd ((by rw [hg]; exact Nat.ne_of_gt (blk_lt (upB BK101.out)) : gb102 ≠ gb101)); clear BK101; clear HB; have BK101 := n0_; have HB := n1_; have BK102 := n2_; have GW102 := n3_; have GE102 := n4_; have NB101_102 := n5_; have NB102_101 := n6_; clear n0_ n1_ n2_ n3_ n4_ n5_ n6_; clear hb hbox hg; have hnb14 := NB101_102.out; have hnc14 := NB102_101.out; have hcz15_0 : w13.cell? ⟨gb101, 0, none⟩ = some (.int .i64 a0_0) := (blk_cell BK101.out 0).trans rfl; have hcz15_1 : w13.cell? ⟨gb101, 1, none⟩ = some (.slice A0_1 l0_1.length c0_1) := (blk_cell BK101.out 1).trans rfl; have hfz15_0 := blk_frozen BK101.out 0; have hfz15_1 := blk_frozen BK101.out 1) | ((with_reducible refine gate_callee (f := 13) rfl ?_); refine goesL_ (some 19) rfl rfl Try.func13 (by kernel_rfl) rfl #[.agg #[.int .i64 a0_0, .slice A0_1 l0_1.length c0_1], .int .i64 1048576] rfl (by (try simp only [List.map_toArray, List.map_cons, List.map_nil]); first | done | rfl | (simp only [List.length_drop, List.length_take]; rfl)) ?_; (with_reducible refine (laws_szSpace.calls a0_0 _ _ l0_1 1048576 t103 _ ?side1 ?side2 A3.out).mono ?_); (case side1 => repeat (first | exact (Kd.C_below HR0_1.out HB.out) | (with_reducible refine Kd.C_alloc ?_ _) | (with_reducible refine Kd.C_drewN ?_ _) | (with_reducible refine Kd.C_drew ?_))); (case side2 => exact HC0_1.out); rintro e w16 ⟨rfl, hb⟩; refine ⟨_, rfl, ?_⟩; have n0_ := asd (blk_below (upB BK101.out) hb); have n1_ := asd (blk_below (upB BK102.out) hb); have n2_ := asd (below_step (by repeat (first | (with_reducible first | exact HB.out | apply below_alloc | apply pw_below_drewN | apply below_drew1 | refine below_set ?_ GE101.out | refine below_set ?_ GE102.out) | exact HB.out)) hb); clear BK101; clear BK102; clear HB; have BK101 := n0_; have BK102 := n1_; have HB := n2_; clear n0_ n1_ n2_; (try clear hb); (try clear hb2); (try clear hk); (try clear hi); have hcz17_0 : w16.cell? ⟨gb102, 0, none⟩ = some (.int .i64 a1_0) := (blk_cell BK102.out 0).trans rfl; have hcz17_1 : w16.cell? ⟨gb102, 1, none⟩ = some (.slice A1_1 l1_1.length c1_1) := (blk_cell BK102.out 1).trans rfl; have hfz17_0 := blk_frozen BK102.out 0; have hfz17_1 := blk_frozen BK102.out 1) | ((with_reducible refine gate_callee (f := 13) rfl ?_); refine goesL_ (some 24) rfl rfl Try.func13 (by kernel_rfl) rfl #[.agg #[.int .i64 a1_0, .slice A1_1 l1_1.length c1_1], .int .i64 t103] rfl (by (try simp only [List.map_toArray, List.map_cons, List.map_nil]); first | done | rfl | (simp only [List.length_drop, List.length_take]; rfl)) ?_; (with_reducible refine (laws_szSpace.calls a1_0 _ _ l1_1 t103 t104 _ ?side1 ?side2 A10.out).mono ?_); (case side1 => repeat (first | exact (Kd.C_below HR1_1.out HB.out) | (with_reducible refine Kd.C_alloc ?_ _) | (with_reducible refine Kd.C_drewN ?_ _) | (with_reducible refine Kd.C_drew ?_))); (case side2 => exact HC1_1.out); rintro e w18 ⟨rfl, hb⟩; refine ⟨_, rfl, ?_⟩; have n0_ := asd (blk_below (upB BK101.out) hb); have n1_ := asd (blk_below (upB BK102.out) hb); have n2_ := asd (below_step (by repeat (first | (with_reducible first | exact HB.out | apply below_alloc | apply pw_below_drewN | apply below_drew1 | refine below_set ?_ GE101.out | refine below_set ?_ GE102.out) | exact HB.out)) hb); clear BK101; clear BK102; clear HB; have BK101 := n0_; have BK102 := n1_; have HB := n2_; clear n0_ n1_ n2_; (try clear hb); (try clear hb2); (try clear hk); (try clear hi)))
   go_ret
   exact ⟨by first | rfl | (simp [errW_none, errW_some] <;> rfl) | (simp [*, errW_none, errW_some] <;> rfl), by repeat (first | (with_reducible first | exact HB.out | apply below_alloc | apply pw_below_drewN | apply below_drew1 | refine below_set ?_ GE101.out | refine below_set ?_ GE102.out) | exact HB.out)⟩
  ·
   rw [if_neg c11] at H
   have c11b0 : decide (t104 < 0) = false := decide_eq_false c11
   clear c11
   replace H := Option.bind_eq_some_iff.mp H
   obtain ⟨⟨t105, t106⟩, A190, H⟩ := H
   replace H : ((laws_toSpace.f k a1_0 l1_1).bind fun bt109 => ((spec_MeetOfSpaces.f k t105 t106 bt109.1 bt109.2).bind fun bt113 => ((laws_toSpace.f k a0_0 l0_1).bind fun bt119 => ((laws_toSpace.f k a1_0 l1_1).bind fun bt124 => ((impl_MeetOfSpaces.f bt119.1 bt119.2 bt124.1 bt124.2).bind fun bt129 => ((laws_eqSpace.f k bt129.1 bt129.2.1 bt113.1 bt113.2.1).bind fun t135 => (if t135 = true then (laws_FnExactMeetOfSpaces.j0 k bt113.2.2 bt129.2.2 (bt129.2.2 != bt113.2.2) a0_0 l0_1 a1_0 l1_1 bt113.1 bt113.2.1 bt119.1 bt119.2 bt124.1 bt124.2 bt129.1 bt129.2.1) else (laws_FnExactMeetOfSpaces.j0 k bt113.2.2 bt129.2.2 true a0_0 l0_1 a1_0 l1_1 bt113.1 bt113.2.1 bt119.1 bt119.2 bt124.1 bt124.2 bt129.1 bt129.2.1)))))))) = some r := H
   have A19 := asd A190
   clear A190
   replace H := Option.bind_eq_some_iff.mp H
   obtain ⟨⟨t109, t110⟩, A200, H⟩ := H
   replace H : ((spec_MeetOfSpaces.f k t105 t106 t109 t110).bind fun bt113 => ((laws_toSpace.f k a0_0 l0_1).bind fun bt119 => ((laws_toSpace.f k a1_0 l1_1).bind fun bt124 => ((impl_MeetOfSpaces.f bt119.1 bt119.2 bt124.1 bt124.2).bind fun bt129 => ((laws_eqSpace.f k bt129.1 bt129.2.1 bt113.1 bt113.2.1).bind fun t135 => (if t135 = true then (laws_FnExactMeetOfSpaces.j0 k bt113.2.2 bt129.2.2 (bt129.2.2 != bt113.2.2) a0_0 l0_1 a1_0 l1_1 bt113.1 bt113.2.1 bt119.1 bt119.2 bt124.1 bt124.2 bt129.1 bt129.2.1) else (laws_FnExactMeetOfSpaces.j0 k bt113.2.2 bt129.2.2 true a0_0 l0_1 a1_0 l1_1 bt113.1 bt113.2.1 bt119.1 bt119.2 bt124.1 bt124.2 bt129.1 bt129.2.1))))))) = some r := H
   have A20 := asd A200
   clear A200
   replace H := Option.bind_eq_some_iff.mp H
   obtain ⟨⟨t113, t114, t117⟩, A210, H⟩ := H
   replace H : ((laws_toSpace.f k a0_0 l0_1).bind fun bt119 => ((laws_toSpace.f k a1_0 l1_1).bind fun bt124 => ((impl_MeetOfSpaces.f bt119.1 bt119.2 bt124.1 bt124.2).bind fun bt129 => ((laws_eqSpace.f k bt129.1 bt129.2.1 t113 t114).bind fun t135 => (if t135 = true then (laws_FnExactMeetOfSpaces.j0 k t117 bt129.2.2 (bt129.2.2 != t117) a0_0 l0_1 a1_0 l1_1 t113 t114 bt119.1 bt119.2 bt124.1 bt124.2 bt129.1 bt129.2.1) else (laws_FnExactMeetOfSpaces.j0 k t117 bt129.2.2 true a0_0 l0_1 a1_0 l1_1 t113 t114 bt119.1 bt119.2 bt124.1 bt124.2 bt129.1 bt129.2.1)))))) = some r := H
   have A21 := asd A210
   clear A210
   replace H := Option.bind_eq_some_iff.mp H
   obtain ⟨⟨t119, t120⟩, A220, H⟩ := H
   replace H : ((laws_toSpace.f k a1_0 l1_1).bind fun bt124 => ((impl_MeetOfSpaces.f t119 t120 bt124.1 bt124.2).bind fun bt129 => ((laws_eqSpace.f k bt129.1 bt129.2.1 t113 t114).bind fun t135 => (if t135 = true then (laws_FnExactMeetOfSpaces.j0 k t117 bt129.2.2 (bt129.2.2 != t117) a0_0 l0_1 a1_0 l1_1 t113 t114 t119 t120 bt124.1 bt124.2 bt129.1 bt129.2.1) else (laws_FnExactMeetOfSpaces.j0 k t117 bt129.2.2 true a0_0 l0_1 a1_0 l1_1 t113 t114 t119 t120 bt124.1 bt124.2 bt129.1 bt129.2.1))))) = some r := H
   have A22 := asd A220
   clear A220
   replace H := Option.bind_eq_some_iff.mp H
   obtain ⟨⟨t124, t125⟩, A230, H⟩ := H
   replace H : ((impl_MeetOfSpaces.f t119 t120 t124 t125).bind fun bt129 => ((laws_eqSpace.f k bt129.1 bt129.2.1 t113 t114).bind fun t135 => (if t135 = true then (laws_FnExactMeetOfSpaces.j0 k t117 bt129.2.2 (bt129.2.2 != t117) a0_0 l0_1 a1_0 l1_1 t113 t114 t119 t120 t124 t125 bt129.1 bt129.2.1) else (laws_FnExactMeetOfSpaces.j0 k t117 bt129.2.2 true a0_0 l0_1 a1_0 l1_1 t113 t114 t119 t120 t124 t125 bt129.1 bt129.2.1)))) = some r := H
   have A23 := asd A230
   clear A230
   replace H := Option.bind_eq_some_iff.mp H
   obtain ⟨⟨t129, t130, t133⟩, A240, H⟩ := H
   replace H : ((laws_eqSpace.f k t129 t130 t113 t114).bind fun t135 => (if t135 = true then (laws_FnExactMeetOfSpaces.j0 k t117 t133 (t133 != t117) a0_0 l0_1 a1_0 l1_1 t113 t114 t119 t120 t124 t125 t129 t130) else (laws_FnExactMeetOfSpaces.j0 k t117 t133 true a0_0 l0_1 a1_0 l1_1 t113 t114 t119 t120 t124 t125 t129 t130))) = some r := H
   have A24 := asd A240
   clear A240
   have HC25 := asd H
   clear H
   go_enter Try.func3, Try.ntmps3
   try go_wp2_with (first | ((with_reducible refine gate_dst (N := 2) rfl ?_); refine box_event ?hg (N := 2) ?hd (cs := #[.int .i64 a0_0, .slice A0_1 l0_1.length c0_1]) (t := 24) ?hr ?_; (case hd => rfl); (case hg => rfl); (case hr => first | (go_simp; done) | (go_simp; rfl)); intro gb101 hg w26 hbox hb; have n0_ := asd (below_step (by repeat (first | (with_reducible first | exact HB.out | apply below_alloc | apply pw_below_drewN | apply below_drew1) | exact HB.out)) hb); have n1_ := asd (hbox); have n2_ := asd ((by rw [hg]; exact (below_size (by repeat (first | (with_reducible first | exact HB.out | apply below_alloc | apply pw_below_drewN | apply below_drew1) | exact HB.out))) : w.heap.size ≤ gb101)); have n3_ := asd ((by rw [hg]; exact (below_size (by repeat (first | (with_reducible first | exact HB.out | apply below_alloc | apply pw_below_drewN | apply below_drew1) | exact HB.out))) : w.heap.size ≤ gb101)); clear HB; have HB := n0_; have BK101 := n1_; have GW101 := n2_; have GE101 := n3_; clear n0_ n1_ n2_ n3_; clear hb hbox hg) | ((with_reducible refine gate_dst (N := 3) rfl ?_); refine box_event ?hg (N := 3) ?hd (cs := #[.int .i64 a1_0, .slice A1_1 l1_1.length c1_1]) (t := 24) ?hr ?_; (case hd => rfl); (case hg => rfl); (case hr => first | (go_simp; done) | (go_simp; rfl)); intro gb102 hg w27 hbox hb; have n0_ := asd (blk_below (upB BK101.out) hb); have n1_ := asd (below_step (by repeat (first | (with_reducible first | exact HB.out | apply below_alloc | apply pw_below_drewN | apply below_drew1 | refine below_set ?_ GE101.out) | exact HB.out)) hb); have n2_ := asd (hbox); have n3_ := asd ((by rw [hg]; exact (below_size (by repeat (first | (with_reducible first | exact HB.out | apply below_alloc | apply pw_below_drewN | apply below_drew1 | refine below_set ?_ GE101.out) | exact HB.out))) : w.heap.size ≤ gb102)); have n4_ := asd ((by rw [hg]; exact (below_size (by repeat (first | (with_reducible first | exact HB.out | apply below_alloc | apply pw_below_drewN | apply below_drew1 | refine below_set ?_ GE101.out) | exact HB.out))) : w.heap.size ≤ gb102)); have n5_ := asd ((by rw [hg]; exact Nat.ne_of_lt (blk_lt (upB BK101.out)) : gb101 ≠ gb102)); have n6_ := asd ((by rw [hg]; exact Nat.ne_of_gt (blk_lt (upB BK101.out)) : gb102 ≠ gb101)); clear BK101; clear HB; have BK101 := n0_; have HB := n1_; have BK102 := n2_; have GW102 := n3_; have GE102 := n4_; have NB101_102 := n5_; have NB102_101 := n6_; clear n0_ n1_ n2_ n3_ n4_ n5_ n6_; clear hb hbox hg; have hnb28 := NB101_102.out; have hnc28 := NB102_101.out; have hcz29_0 : w27.cell? ⟨gb101, 0, none⟩ = some (.int .i64 a0_0) := (blk_cell BK101.out 0).trans rfl; have hcz29_1 : w27.cell? ⟨gb101, 1, none⟩ = some (.slice A0_1 l0_1.length c0_1) := (blk_cell BK101.out 1).trans rfl; have hfz29_0 := blk_frozen BK101.out 0; have hfz29_1 := blk_frozen BK101.out 1) | ((with_reducible refine gate_callee (f := 13) rfl ?_); refine goesL_ (some 19) rfl rfl Try.func13 (by kernel_rfl) rfl #[.agg #[.int .i64 a0_0, .slice A0_1 l0_1.length c0_1], .int .i64 1048576] rfl (by (try simp only [List.map_toArray, List.map_cons, List.map_nil]); first | done | rfl | (simp only [List.length_drop, List.length_take]; rfl)) ?_; (with_reducible refine (laws_szSpace.calls a0_0 _ _ l0_1 1048576 t103 _ ?side1 ?side2 A3.out).mono ?_); (case side1 => repeat (first | exact (Kd.C_below HR0_1.out HB.out) | (with_reducible refine Kd.C_alloc ?_ _) | (with_reducible refine Kd.C_drewN ?_ _) | (with_reducible refine Kd.C_drew ?_))); (case side2 => exact HC0_1.out); rintro e w30 ⟨rfl, hb⟩; refine ⟨_, rfl, ?_⟩; have n0_ := asd (blk_below (upB BK101.out) hb); have n1_ := asd (blk_below (upB BK102.out) hb); have n2_ := asd (below_step (by repeat (first | (with_reducible first | exact HB.out | apply below_alloc | apply pw_below_drewN | apply below_drew1 | refine below_set ?_ GE101.out | refine below_set ?_ GE102.out) | exact HB.out)) hb); clear BK101; clear BK102; clear HB; have BK101 := n0_; have BK102 := n1_; have HB := n2_; clear n0_ n1_ n2_; (try clear hb); (try clear hb2); (try clear hk); (try clear hi); have hcz31_0 : w30.cell? ⟨gb102, 0, none⟩ = some (.int .i64 a1_0) := (blk_cell BK102.out 0).trans rfl; have hcz31_1 : w30.cell? ⟨gb102, 1, none⟩ = some (.slice A1_1 l1_1.length c1_1) := (blk_cell BK102.out 1).trans rfl; have hfz31_0 := blk_frozen BK102.out 0; have hfz31_1 := blk_frozen BK102.out 1) | ((with_reducible refine gate_callee (f := 13) rfl ?_); refine goesL_ (some 24) rfl rfl Try.func13 (by kernel_rfl) rfl #[.agg #[.int .i64 a1_0, .slice A1_1 l1_1.length c1_1], .int .i64 t103] rfl (by (try simp only [List.map_toArray, List.map_cons, List.map_nil]); first | done | rfl | (simp only [List.length_drop, List.length_take]; rfl)) ?_; (with_reducible refine (laws_szSpace.calls a1_0 _ _ l1_1 t103 t104 _ ?side1 ?side2 A10.out).mono ?_); (case side1 => repeat (first | exact (Kd.C_below HR1_1.out HB.out) | (with_reducible refine Kd.C_alloc ?_ _) | (with_reducible refine Kd.C_drewN ?_ _) | (with_reducible refine Kd.C_drew ?_))); (case side2 => exact HC1_1.out); rintro e w32 ⟨rfl, hb⟩; refine ⟨_, rfl, ?_⟩; have n0_ := asd (blk_below (upB BK101.out) hb); have n1_ := asd (blk_below (upB BK102.out) hb); have n2_ := asd (below_step (by repeat (first | (with_reducible first | exact HB.out | apply below_alloc | apply pw_below_drewN | apply below_drew1 | refine below_set ?_ GE101.out | refine below_set ?_ GE102.out) | exact HB.out)) hb); clear BK101; clear BK102; clear HB; have BK101 := n0_; have BK102 := n1_; have HB := n2_; clear n0_ n1_ n2_; (try clear hb); (try clear hb2); (try clear hk); (try clear hi)))
   have n0_ := asd (blk_drew BK101.out)
   have n1_ := asd (blk_drew BK102.out)
   have n2_ := asd (below_drew1 HB.out)
   clear BK101
   clear BK102
   clear HB
   have BK101 := n0_
   have BK102 := n1_
   have HB := n2_
   clear n0_ n1_ n2_
   refine start_ (n := 11) (S := fun w' => w'.cell? ⟨gb101, 0, none⟩ = some (.int .i64 a0_0) ∧ w'.cell? ⟨gb101, 1, none⟩ = some (.slice A0_1 l0_1.length c0_1) ∧ w'.cell? ⟨gb102, 0, none⟩ = some (.int .i64 a1_0) ∧ w'.cell? ⟨gb102, 1, none⟩ = some (.slice A1_1 l1_1.length c1_1)) (ds := []) #[false, false, false, false, false, false, false, false, false, false, false] (by kernel_rfl) rfl rfl ⟨(blk_cell BK101.out 0).trans rfl, (blk_cell BK101.out 1).trans rfl, (blk_cell BK102.out 0).trans rfl, (blk_cell BK102.out 1).trans rfl⟩ (fun hHeld => ?_); refine with_tabW laws_FnExactMeetOfSpaces.tab8 laws_FnExactMeetOfSpaces.bits8 (fun HT_ HW_ => ?_)
   generalize w32.drew = w33 at BK101 BK102 HB hHeld ⊢
   refine take_ (i := 0) (N := some 28) (v := ?_) (a' := ?_) #[true, false, false, false, false, false, false, false, false, false, false] rfl rfl (take_ofW HT_.out HW_.out (by kernel_rfl)) (fun _ _ _ h => h) (Or.inl ⟨by rfl, ?_⟩) hHeld ?_ ?_
   rotate_left
   ·
    rintro w' ⟨s0, s1, s2, s3⟩
    go_simp
    with_reducible rfl
   rotate_left
   ·
    simp only [Act.put, List.setIfInBounds_toArray, List.set_cons_zero, List.set_cons_succ, i64_w, i32_w]
    rfl
   refine take_ (i := 2) (N := some 30) (v := ?_) (a' := ?_) #[true, false, true, false, false, false, false, false, false, false, false] rfl rfl (take_ofW HT_.out HW_.out (by kernel_rfl)) (fun _ _ _ h => h) (Or.inl ⟨by rfl, ?_⟩) hHeld ?_ ?_
   rotate_left
   ·
    rintro w' ⟨s0, s1, s2, s3⟩
    go_simp
    with_reducible rfl
   rotate_left
   ·
    simp only [Act.put, List.setIfInBounds_toArray, List.set_cons_zero, List.set_cons_succ, i64_w, i32_w]
    rfl
   refine join_ (σ := Value × Value × Value × Nat) 2 #[true, true, true, true, true, true, true, true, true, false, false] (fun s_ => [(29, .agg #[.int .i64 t105, s_.1]), (31, .agg #[.int .i64 t109, s_.2.1]), (32, .tuple #[.agg #[.int .i64 t113, s_.2.2.1], .bool t117]), (6, .pointer (some ⟨s_.2.2.2, 0, none⟩)), (27, .tuple #[.agg #[.int .i64 t113, s_.2.2.1], .bool t117]), (33, .agg #[.int .i64 t113, s_.2.2.1]), (34, .bool t117)]) (fun s_ w' => (w'.cell? ⟨gb101, 0, none⟩ = some (.int .i64 a0_0) ∧ w'.cell? ⟨gb101, 1, none⟩ = some (.slice A0_1 l0_1.length c0_1) ∧ w'.cell? ⟨gb102, 0, none⟩ = some (.int .i64 a1_0) ∧ w'.cell? ⟨gb102, 1, none⟩ = some (.slice A1_1 l1_1.length c1_1)) ∧ (Kd.R (Kd.int .i64) 3 w' w.heap.size (fun k_ => some k_ ≠ (s_.2.1 : Value).ownBlock ∧ some k_ ≠ (s_.2.2.1 : Value).ownBlock) s_.1 t106) ∧ (Kd.R (Kd.int .i64) 3 w' w.heap.size (fun k_ => some k_ ≠ (s_.1 : Value).ownBlock ∧ some k_ ≠ (s_.2.2.1 : Value).ownBlock) s_.2.1 t110) ∧ (Kd.R (Kd.int .i64) 3 w' w.heap.size (fun k_ => some k_ ≠ (s_.1 : Value).ownBlock ∧ some k_ ≠ (s_.2.1 : Value).ownBlock) s_.2.2.1 t114) ∧ (w'.heap[gb101]? = some (.cells #[.int .i64 a0_0, .slice A0_1 l0_1.length c0_1] 24 (0, 0))) ∧ (w'.heap[gb102]? = some (.cells #[.int .i64 a1_0, .slice A1_1 l1_1.length c1_1] 24 (0, 0))) ∧ (w'.heap[s_.2.2.2]? = some (.cells #[.int .i64 0, .slice none 0 0] 26 (0, 0))) ∧ (w.heap.size ≤ s_.2.2.2) ∧ (w.heap.size ≤ s_.2.2.2) ∧ (gb101 ≠ s_.2.2.2) ∧ (s_.2.2.2 ≠ gb101) ∧ (gb102 ≠ s_.2.2.2) ∧ (s_.2.2.2 ≠ gb102) ∧ (Below w.heap.size w w')) ?_ ?_
   rotate_left
   ·
    intro hCont
    refine two_ (i := 1) (j := 8) (Ni := some 29) (Nj := some 6) #[true, true, true, false, false, false, false, false, false, false, false] #[true, false, true, false, false, false, false, false, true, false, false] rfl rfl rfl rfl (two_of HT_.out (by kernel_rfl)) (by decide) (by decide) (fun K hK => ?_) (fun K hK => ?_)
    ·
     skip
     refine goes_ Try.func15 (by kernel_rfl) rfl #[.agg #[.int .i64 a0_0, .slice A0_1 l0_1.length c0_1]] (by rfl) rfl rfl (by (try simp only [List.map_toArray, List.map_cons, List.map_nil]); first | done | rfl | (simp only [List.length_drop, List.length_take]; rfl)) ?_
     with_reducible refine (laws_toSpace.calls k a0_0 _ _ l0_1 t105 t106 _ ?side1 ?side2 A19.out).mono ?_
     (case side1 => repeat (first | exact (Kd.C_below HR0_1.out HB.out) | (with_reducible refine Kd.C_alloc ?_ _) | (with_reducible refine Kd.C_drewN ?_ _) | (with_reducible refine Kd.C_drew ?_)))
     (case side2 => exact HC0_1.out)
     rintro e w34 ⟨v107, rfl, ho0, hb⟩
     refine ⟨_, rfl, ?_⟩
     have n0_ := asd (Kd.R_lower ho0 (below_size (by repeat (first | (with_reducible first | exact HB.out | apply below_alloc | apply pw_below_drewN | apply below_drew1 | refine below_set ?_ GE101.out | refine below_set ?_ GE102.out) | exact HB.out))))
     have n1_ := asd (blk_below (upB BK101.out) hb)
     have n2_ := asd (blk_below (upB BK102.out) hb)
     have n3_ := asd (below_step (by repeat (first | (with_reducible first | exact HB.out | apply below_alloc | apply pw_below_drewN | apply below_drew1 | refine below_set ?_ GE101.out | refine below_set ?_ GE102.out) | exact HB.out)) hb)
     clear BK101
     clear BK102
     clear HB
     have HO108 := n0_
     have BK101 := n1_
     have BK102 := n2_
     have HB := n3_
     clear n0_ n1_ n2_ n3_
     (try clear hb)
     (try clear hb2)
     (try clear hk)
     (try clear hi)
     (try clear ho0)
     refine hK.out _ _ ⟨(blk_cell BK101.out 0).trans rfl, (blk_cell BK101.out 1).trans rfl, (blk_cell BK102.out 0).trans rfl, (blk_cell BK102.out 1).trans rfl⟩ (fun hHeld => ?_)
     clear hK K
     refine norm_ (a' := ?_) ?_ ?_
     rotate_left
     ·
      show Act.put _ (some 29) _ = _
      simp only [Act.put, List.setIfInBounds_toArray, List.set_cons_zero, List.set_cons_succ, i64_w, i32_w]
      rfl
     refine two_ (i := 3) (j := 8) (Ni := some 31) (Nj := some 6) #[true, true, true, true, false, false, false, false, false, false, false] #[true, true, true, false, false, false, false, false, true, false, false] rfl rfl rfl rfl (two_of HT_.out (by kernel_rfl)) (by decide) (by decide) (fun K hK => ?_) (fun K hK => ?_)
     ·
      skip
      refine goes_ Try.func15 (by kernel_rfl) rfl #[.agg #[.int .i64 a1_0, .slice A1_1 l1_1.length c1_1]] (by rfl) rfl rfl (by (try simp only [List.map_toArray, List.map_cons, List.map_nil]); first | done | rfl | (simp only [List.length_drop, List.length_take]; rfl)) ?_
      with_reducible refine (laws_toSpace.calls k a1_0 _ _ l1_1 t109 t110 _ ?side1 ?side2 A20.out).mono ?_
      (case side1 => repeat (first | exact (Kd.C_below HR1_1.out HB.out) | (with_reducible refine Kd.C_alloc ?_ _) | (with_reducible refine Kd.C_drewN ?_ _) | (with_reducible refine Kd.C_drew ?_)))
      (case side2 => exact HC1_1.out)
      rintro e w35 ⟨v111, rfl, ho0, hb⟩
      refine ⟨_, rfl, ?_⟩
      have n0_ := asd (Kd.R_elder' (upR <| HO108.out) (Kd.R_base ho0) hb)
      have n1_ := asd (Kd.R_lower (Kd.R_new' ho0 (Kd.R_lt (upR <| HO108.out))) (below_size (by repeat (first | (with_reducible first | exact HB.out | apply below_alloc | apply pw_below_drewN | apply below_drew1 | refine below_set ?_ GE101.out | refine below_set ?_ GE102.out) | exact HB.out))))
      have n2_ := asd (blk_below (upB BK101.out) hb)
      have n3_ := asd (blk_below (upB BK102.out) hb)
      have n4_ := asd (below_step (by repeat (first | (with_reducible first | exact HB.out | apply below_alloc | apply pw_below_drewN | apply below_drew1 | refine below_set ?_ GE101.out | refine below_set ?_ GE102.out) | exact HB.out)) hb)
      clear HO108
      clear BK101
      clear BK102
      clear HB
      have HO108 := n0_
      have HO112 := n1_
      have BK101 := n2_
      have BK102 := n3_
      have HB := n4_
      clear n0_ n1_ n2_ n3_ n4_
      (try clear hb)
      (try clear hb2)
      (try clear hk)
      (try clear hi)
      (try clear ho0)
      obtain ⟨Ao36, co36, eo36⟩ := Kd.R_slice HO108.out
      (first | subst eo36 | (injection eo36 with f1_ f2_ f3_; have f4_ := f1_.symm; have f5_ := f3_.symm; clear f1_ f2_ f3_; subst f4_; subst f5_))
      obtain ⟨Ao37, co37, eo37⟩ := Kd.R_slice HO112.out
      (first | subst eo37 | (injection eo37 with f1_ f2_ f3_; have f4_ := f1_.symm; have f5_ := f3_.symm; clear f1_ f2_ f3_; subst f4_; subst f5_))
      refine hK.out _ _ ⟨(blk_cell BK101.out 0).trans rfl, (blk_cell BK101.out 1).trans rfl, (blk_cell BK102.out 0).trans rfl, (blk_cell BK102.out 1).trans rfl⟩ (fun hHeld => ?_)
      clear hK K
      refine norm_ (a' := ?_) ?_ ?_
      rotate_left
      ·
       show Act.put _ (some 31) _ = _
       simp only [Act.put, List.setIfInBounds_toArray, List.set_cons_zero, List.set_cons_succ, i64_w, i32_w]
       rfl
      refine two_ (i := 4) (j := 8) (Ni := some 32) (Nj := some 6) #[true, true, true, true, true, false, false, false, false, false, false] #[true, true, true, true, false, false, false, false, true, false, false] rfl rfl rfl rfl (two_of HT_.out (by kernel_rfl)) (by decide) (by decide) (fun K hK => ?_) (fun K hK => ?_)
      ·
       skip
       refine goes_ Try.func14 (by kernel_rfl) rfl #[.agg #[.int .i64 t105, .slice Ao36 t106.length co36], .agg #[.int .i64 t109, .slice Ao37 t110.length co37]] (by rfl) rfl rfl (by (try simp only [List.map_toArray, List.map_cons, List.map_nil]); first | done | rfl | (simp only [List.length_drop, List.length_take]; rfl)) ?_
       with_reducible refine (spec_MeetOfSpaces.calls k t105 _ _ t106 t109 _ _ t110 t113 t114 t117 _ ?side1 ?side2 ?side3 ?side4 A21.out).mono ?_
       (case side1 => repeat (first | exact (Kd.R_reads' HO108.out).2.2 | (with_reducible refine Kd.C_alloc ?_ _) | (with_reducible refine Kd.C_drewN ?_ _) | (with_reducible refine Kd.C_drew ?_)))
       (case side2 => exact (Kd.R_reads' HO108.out).2.1)
       (case side3 => repeat (first | exact (Kd.R_reads' HO112.out).2.2 | (with_reducible refine Kd.C_alloc ?_ _) | (with_reducible refine Kd.C_drewN ?_ _) | (with_reducible refine Kd.C_drew ?_)))
       (case side4 => exact (Kd.R_reads' HO112.out).2.1)
       rintro e w38 ⟨v115, rfl, ho0, hb⟩
       refine ⟨_, rfl, ?_⟩
       have n0_ := asd (Kd.R_elder' (upR <| HO108.out) (Kd.R_base ho0) hb)
       have n1_ := asd (Kd.R_elder' (upR <| HO112.out) (Kd.R_base ho0) hb)
       have n2_ := asd (Kd.R_lower (Kd.R_new' (Kd.R_new' ho0 (Kd.R_lt (upR <| HO108.out))) (Kd.R_lt (upR <| HO112.out))) (below_size (by repeat (first | (with_reducible first | exact HB.out | apply below_alloc | apply pw_below_drewN | apply below_drew1 | refine below_set ?_ GE101.out | refine below_set ?_ GE102.out) | exact HB.out))))
       have n3_ := asd (blk_below (upB BK101.out) hb)
       have n4_ := asd (blk_below (upB BK102.out) hb)
       have n5_ := asd (below_step (by repeat (first | (with_reducible first | exact HB.out | apply below_alloc | apply pw_below_drewN | apply below_drew1 | refine below_set ?_ GE101.out | refine below_set ?_ GE102.out) | exact HB.out)) hb)
       clear HO108
       clear HO112
       clear BK101
       clear BK102
       clear HB
       have HO108 := n0_
       have HO112 := n1_
       have HO116 := n2_
       have BK101 := n3_
       have BK102 := n4_
       have HB := n5_
       clear n0_ n1_ n2_ n3_ n4_ n5_
       (try clear hb)
       (try clear hb2)
       (try clear hk)
       (try clear hi)
       (try clear ho0)
       refine hK.out _ _ ⟨(blk_cell BK101.out 0).trans rfl, (blk_cell BK101.out 1).trans rfl, (blk_cell BK102.out 0).trans rfl, (blk_cell BK102.out 1).trans rfl⟩ (fun hHeld => ?_)
       clear hK K
       refine norm_ (a' := ?_) ?_ ?_
       rotate_left
       ·
        show Act.put _ (some 32) _ = _
        simp only [Act.put, List.setIfInBounds_toArray, List.set_cons_zero, List.set_cons_succ, i64_w, i32_w]
        rfl
       refine pure_ (i := 5) (N := some 27) (v := ?_) (a' := ?_) #[true, true, true, true, true, true, false, false, false, false, false] rfl rfl (any_of HT_.out (by kernel_rfl)) (fun _ _ _ h => h) (Or.inl ⟨by rfl, ?_⟩) ?_ ?_
       rotate_left
       ·
        intro w'
        go_simp
        with_reducible rfl
       rotate_left
       ·
        simp only [Act.put, List.setIfInBounds_toArray, List.set_cons_zero, List.set_cons_succ, i64_w, i32_w]
        rfl
       refine pure_ (i := 6) (N := some 33) (v := ?_) (a' := ?_) #[true, true, true, true, true, true, true, false, false, false, false] rfl rfl (any_of HT_.out (by kernel_rfl)) (fun _ _ _ h => h) (Or.inl ⟨by rfl, ?_⟩) ?_ ?_
       rotate_left
       ·
        intro w'
        go_simp
        with_reducible rfl
       rotate_left
       ·
        simp only [Act.put, List.setIfInBounds_toArray, List.set_cons_zero, List.set_cons_succ, i64_w, i32_w]
        rfl
       refine pure_ (i := 7) (N := some 34) (v := ?_) (a' := ?_) #[true, true, true, true, true, true, true, true, false, false, false] rfl rfl (any_of HT_.out (by kernel_rfl)) (fun _ _ _ h => h) (Or.inl ⟨by rfl, ?_⟩) ?_ ?_
       rotate_left
       ·
        intro w'
        go_simp
        with_reducible rfl
       rotate_left
       ·
        simp only [Act.put, List.setIfInBounds_toArray, List.set_cons_zero, List.set_cons_succ, i64_w, i32_w]
        rfl
       refine one_ (i := 8) (N := some 6) #[true, true, true, true, true, true, true, true, true, false, false] rfl rfl (one_of HT_.out (by kernel_rfl)) (by decide) (fun K hK => ?_)
       refine box_step ?hg (N := 6) ?hd (cs := #[.int .i64 0, .slice none 0 0]) (t := 26) ?hr ?_; (case hd => rfl); (case hg => rfl); (case hr => first | (go_simp; done) | (go_simp; rfl))
       intro gb118 hg w39 hbox hb
       have n0_ := asd (Kd.R_below (upR <| HO108.out) hb)
       have n1_ := asd (Kd.R_below (upR <| HO112.out) hb)
       have n2_ := asd (Kd.R_below (upR <| HO116.out) hb)
       have n3_ := asd (blk_below (upB BK101.out) hb)
       have n4_ := asd (blk_below (upB BK102.out) hb)
       have n5_ := asd (below_step (by repeat (first | (with_reducible first | exact HB.out | apply below_alloc | apply pw_below_drewN | apply below_drew1 | refine below_set ?_ GE101.out | refine below_set ?_ GE102.out) | exact HB.out)) hb)
       have n6_ := asd (hbox)
       have n7_ := asd ((by rw [hg]; exact (below_size (by repeat (first | (with_reducible first | exact HB.out | apply below_alloc | apply pw_below_drewN | apply below_drew1 | refine below_set ?_ GE101.out | refine below_set ?_ GE102.out) | exact HB.out))) : w.heap.size ≤ gb118))
       have n8_ := asd ((by rw [hg]; exact (below_size (by repeat (first | (with_reducible first | exact HB.out | apply below_alloc | apply pw_below_drewN | apply below_drew1 | refine below_set ?_ GE101.out | refine below_set ?_ GE102.out) | exact HB.out))) : w.heap.size ≤ gb118))
       have n9_ := asd ((by rw [hg]; exact Nat.ne_of_lt (blk_lt (upB BK101.out)) : gb101 ≠ gb118))
       have n10_ := asd ((by rw [hg]; exact Nat.ne_of_gt (blk_lt (upB BK101.out)) : gb118 ≠ gb101))
       have n11_ := asd ((by rw [hg]; exact Nat.ne_of_lt (blk_lt (upB BK102.out)) : gb102 ≠ gb118))
       have n12_ := asd ((by rw [hg]; exact Nat.ne_of_gt (blk_lt (upB BK102.out)) : gb118 ≠ gb102))
       clear HO108
       clear HO112
       clear HO116
       clear BK101
       clear BK102
       clear HB
       have HO108 := n0_
       have HO112 := n1_
       have HO116 := n2_
       have BK101 := n3_
       have BK102 := n4_
       have HB := n5_
       have BK118 := n6_
       have GW118 := n7_
       have GE118 := n8_
       have NB101_118 := n9_
       have NB118_101 := n10_
       have NB102_118 := n11_
       have NB118_102 := n12_
       clear n0_ n1_ n2_ n3_ n4_ n5_ n6_ n7_ n8_ n9_ n10_ n11_ n12_
       clear hb hbox hg
       refine hK.out _ _ ⟨(blk_cell BK101.out 0).trans rfl, (blk_cell BK101.out 1).trans rfl, (blk_cell BK102.out 0).trans rfl, (blk_cell BK102.out 1).trans rfl⟩ (fun hHeld => ?_)
       clear hK K
       refine norm_ (a' := ?_) ?_ ?_
       rotate_left
       ·
        show Act.put _ (some 6) _ = _
        simp only [Act.put, List.setIfInBounds_toArray, List.set_cons_zero, List.set_cons_succ, i64_w, i32_w]
        rfl
       exact norm_ (by simp only [putAll, Act.put, List.setIfInBounds_toArray, List.set_cons_zero, List.set_cons_succ]) (hCont (.slice Ao36 t106.length co36, .slice Ao37 t110.length co37, v115, gb118) _ ⟨hHeld, (upR <| Kd.R_mono HO108.out (fun _ hk => ⟨hk.1.2, hk.2⟩)), (upR <| Kd.R_mono HO112.out (fun _ hk => ⟨hk.1.2, hk.2⟩)), (upR <| Kd.R_mono HO116.out (fun _ hk => ⟨hk.1.2, hk.2⟩)), (upB BK101.out), (upB BK102.out), (upB BK118.out), GW118.out, GE118.out, NB101_118.out, NB118_101.out, NB102_118.out, NB118_102.out, (by repeat (first | (with_reducible first | exact HB.out | apply below_alloc | apply pw_below_drewN | apply below_drew1 | refine below_set ?_ GE101.out | refine below_set ?_ GE102.out | refine below_set ?_ GE118.out) | exact HB.out))⟩)
      ·
       skip
       refine box_step ?hg (N := 6) ?hd (cs := #[.int .i64 0, .slice none 0 0]) (t := 26) ?hr ?_; (case hd => rfl); (case hg => rfl); (case hr => first | (go_simp; done) | (go_simp; rfl))
       intro gb118 hg w36 hbox hb
       have n0_ := asd (Kd.R_below (upR <| HO108.out) hb)
       have n1_ := asd (Kd.R_below (upR <| HO112.out) hb)
       have n2_ := asd (blk_below (upB BK101.out) hb)
       have n3_ := asd (blk_below (upB BK102.out) hb)
       have n4_ := asd (below_step (by repeat (first | (with_reducible first | exact HB.out | apply below_alloc | apply pw_below_drewN | apply below_drew1 | refine below_set ?_ GE101.out | refine below_set ?_ GE102.out) | exact HB.out)) hb)
       have n5_ := asd (hbox)
       have n6_ := asd ((by rw [hg]; exact (below_size (by repeat (first | (with_reducible first | exact HB.out | apply below_alloc | apply pw_below_drewN | apply below_drew1 | refine below_set ?_ GE101.out | refine below_set ?_ GE102.out) | exact HB.out))) : w.heap.size ≤ gb118))
       have n7_ := asd ((by rw [hg]; exact (below_size (by repeat (first | (with_reducible first | exact HB.out | apply below_alloc | apply pw_below_drewN | apply below_drew1 | refine below_set ?_ GE101.out | refine below_set ?_ GE102.out) | exact HB.out))) : w.heap.size ≤ gb118))
       have n8_ := asd ((by rw [hg]; exact Nat.ne_of_lt (blk_lt (upB BK101.out)) : gb101 ≠ gb118))
       have n9_ := asd ((by rw [hg]; exact Nat.ne_of_gt (blk_lt (upB BK101.out)) : gb118 ≠ gb101))
       have n10_ := asd ((by rw [hg]; exact Nat.ne_of_lt (blk_lt (upB BK102.out)) : gb102 ≠ gb118))
       have n11_ := asd ((by rw [hg]; exact Nat.ne_of_gt (blk_lt (upB BK102.out)) : gb118 ≠ gb102))
       clear HO108
       clear HO112
       clear BK101
       clear BK102
       clear HB
       have HO108 := n0_
       have HO112 := n1_
       have BK101 := n2_
       have BK102 := n3_
       have HB := n4_
       have BK118 := n5_
       have GW118 := n6_
       have GE118 := n7_
       have NB101_118 := n8_
       have NB118_101 := n9_
       have NB102_118 := n10_
       have NB118_102 := n11_
       clear n0_ n1_ n2_ n3_ n4_ n5_ n6_ n7_ n8_ n9_ n10_ n11_
       clear hb hbox hg
       obtain ⟨Ao37, co37, eo37⟩ := Kd.R_slice HO108.out
       (first | subst eo37 | (injection eo37 with f1_ f2_ f3_; have f4_ := f1_.symm; have f5_ := f3_.symm; clear f1_ f2_ f3_; subst f4_; subst f5_))
       obtain ⟨Ao38, co38, eo38⟩ := Kd.R_slice HO112.out
       (first | subst eo38 | (injection eo38 with f1_ f2_ f3_; have f4_ := f1_.symm; have f5_ := f3_.symm; clear f1_ f2_ f3_; subst f4_; subst f5_))
       refine hK.out _ _ ⟨(blk_cell BK101.out 0).trans rfl, (blk_cell BK101.out 1).trans rfl, (blk_cell BK102.out 0).trans rfl, (blk_cell BK102.out 1).trans rfl⟩ (fun hHeld => ?_)
       clear hK K
       refine norm_ (a' := ?_) ?_ ?_
       rotate_left
       ·
        show Act.put _ (some 6) _ = _
        simp only [Act.put, List.setIfInBounds_toArray, List.set_cons_zero, List.set_cons_succ, i64_w, i32_w]
        rfl
       refine one_ (i := 4) (N := some 32) #[true, true, true, true, true, false, false, false, true, false, false] rfl rfl (one_of HT_.out (by kernel_rfl)) (by decide) (fun K hK => ?_)
       refine goes_ Try.func14 (by kernel_rfl) rfl #[.agg #[.int .i64 t105, .slice Ao37 t106.length co37], .agg #[.int .i64 t109, .slice Ao38 t110.length co38]] (by rfl) rfl rfl (by (try simp only [List.map_toArray, List.map_cons, List.map_nil]); first | done | rfl | (simp only [List.length_drop, List.length_take]; rfl)) ?_
       with_reducible refine (spec_MeetOfSpaces.calls k t105 _ _ t106 t109 _ _ t110 t113 t114 t117 _ ?side1 ?side2 ?side3 ?side4 A21.out).mono ?_
       (case side1 => repeat (first | exact (Kd.R_reads' HO108.out).2.2 | (with_reducible refine Kd.C_alloc ?_ _) | (with_reducible refine Kd.C_drewN ?_ _) | (with_reducible refine Kd.C_drew ?_)))
       (case side2 => exact (Kd.R_reads' HO108.out).2.1)
       (case side3 => repeat (first | exact (Kd.R_reads' HO112.out).2.2 | (with_reducible refine Kd.C_alloc ?_ _) | (with_reducible refine Kd.C_drewN ?_ _) | (with_reducible refine Kd.C_drew ?_)))
       (case side4 => exact (Kd.R_reads' HO112.out).2.1)
       rintro e w39 ⟨v115, rfl, ho0, hb⟩
       refine ⟨_, rfl, ?_⟩
       have n0_ := asd (Kd.R_elder' (upR <| HO108.out) (Kd.R_base ho0) hb)
       have n1_ := asd (Kd.R_elder' (upR <| HO112.out) (Kd.R_base ho0) hb)
       have n2_ := asd (Kd.R_lower (Kd.R_new' (Kd.R_new' ho0 (Kd.R_lt (upR <| HO108.out))) (Kd.R_lt (upR <| HO112.out))) (below_size (by repeat (first | (with_reducible first | exact HB.out | apply below_alloc | apply pw_below_drewN | apply below_drew1 | refine below_set ?_ GE101.out | refine below_set ?_ GE102.out | refine below_set ?_ GE118.out) | exact HB.out))))
       have n3_ := asd (blk_below (upB BK101.out) hb)
       have n4_ := asd (blk_below (upB BK102.out) hb)
       have n5_ := asd (blk_below (upB BK118.out) hb)
       have n6_ := asd (below_step (by repeat (first | (with_reducible first | exact HB.out | apply below_alloc | apply pw_below_drewN | apply below_drew1 | refine below_set ?_ GE101.out | refine below_set ?_ GE102.out | refine below_set ?_ GE118.out) | exact HB.out)) hb)
       clear HO108
       clear HO112
       clear BK101
       clear BK102
       clear BK118
       clear HB
       have HO108 := n0_
       have HO112 := n1_
       have HO116 := n2_
       have BK101 := n3_
       have BK102 := n4_
       have BK118 := n5_
       have HB := n6_
       clear n0_ n1_ n2_ n3_ n4_ n5_ n6_
       (try clear hb)
       (try clear hb2)
       (try clear hk)
       (try clear hi)
       (try clear ho0)
       refine hK.out _ _ ⟨(blk_cell BK101.out 0).trans rfl, (blk_cell BK101.out 1).trans rfl, (blk_cell BK102.out 0).trans rfl, (blk_cell BK102.out 1).trans rfl⟩ (fun hHeld => ?_)
       clear hK K
       refine norm_ (a' := ?_) ?_ ?_
       rotate_left
       ·
        show Act.put _ (some 32) _ = _
        simp only [Act.put, List.setIfInBounds_toArray, List.set_cons_zero, List.set_cons_succ, i64_w, i32_w]
        rfl
       refine pure_ (i := 5) (N := some 27) (v := ?_) (a' := ?_) #[true, true, true, true, true, true, false, false, true, false, false] rfl rfl (any_of HT_.out (by kernel_rfl)) (fun _ _ _ h => h) (Or.inl ⟨by rfl, ?_⟩) ?_ ?_
       rotate_left
       ·
        intro w'
        go_simp
        with_reducible rfl
       rotate_left
       ·
        simp only [Act.put, List.setIfInBounds_toArray, List.set_cons_zero, List.set_cons_succ, i64_w, i32_w]
        rfl
       refine pure_ (i := 6) (N := some 33) (v := ?_) (a' := ?_) #[true, true, true, true, true, true, true, false, true, false, false] rfl rfl (any_of HT_.out (by kernel_rfl)) (fun _ _ _ h => h) (Or.inl ⟨by rfl, ?_⟩) ?_ ?_
       rotate_left
       ·
        intro w'
        go_simp
        with_reducible rfl
       rotate_left
       ·
        simp only [Act.put, List.setIfInBounds_toArray, List.set_cons_zero, List.set_cons_succ, i64_w, i32_w]
        rfl
       refine pure_ (i := 7) (N := some 34) (v := ?_) (a' := ?_) #[true, true, true, true, true, true, true, true, true, false, false] rfl rfl (any_of HT_.out (by kernel_rfl)) (fun _ _ _ h => h) (Or.inl ⟨by rfl, ?_⟩) ?_ ?_
       rotate_left
       ·
        intro w'
        go_simp
        with_reducible rfl
       rotate_left
       ·
        simp only [Act.put, List.setIfInBounds_toArray, List.set_cons_zero, List.set_cons_succ, i64_w, i32_w]
        rfl
       exact norm_ (by simp only [putAll, Act.put, List.setIfInBounds_toArray, List.set_cons_zero, List.set_cons_succ]) (hCont (.slice Ao37 t106.length co37, .slice Ao38 t110.length co38, v115, gb118) _ ⟨hHeld, (upR <| Kd.R_mono HO108.out (fun _ hk => ⟨hk.1.2, hk.2⟩)), (upR <| Kd.R_mono HO112.out (fun _ hk => ⟨hk.1.2, hk.2⟩)), (upR <| Kd.R_mono HO116.out (fun _ hk => ⟨hk.1.2, hk.2⟩)), (upB BK101.out), (upB BK102.out), (upB BK118.out), GW118.out, GE118.out, NB101_118.out, NB118_101.out, NB102_118.out, NB118_102.out, (by repeat (first | (with_reducible first | exact HB.out | apply below_alloc | apply pw_below_drewN | apply below_drew1 | refine below_set ?_ GE101.out | refine below_set ?_ GE102.out | refine below_set ?_ GE118.out) | exact HB.out))⟩)
     ·
      skip
      refine box_step ?hg (N := 6) ?hd (cs := #[.int .i64 0, .slice none 0 0]) (t := 26) ?hr ?_; (case hd => rfl); (case hg => rfl); (case hr => first | (go_simp; done) | (go_simp; rfl))
      intro gb118 hg w35 hbox hb
      have n0_ := asd (Kd.R_below (upR <| HO108.out) hb)
      have n1_ := asd (blk_below (upB BK101.out) hb)
      have n2_ := asd (blk_below (upB BK102.out) hb)
      have n3_ := asd (below_step (by repeat (first | (with_reducible first | exact HB.out | apply below_alloc | apply pw_below_drewN | apply below_drew1 | refine below_set ?_ GE101.out | refine below_set ?_ GE102.out) | exact HB.out)) hb)
      have n4_ := asd (hbox)
      have n5_ := asd ((by rw [hg]; exact (below_size (by repeat (first | (with_reducible first | exact HB.out | apply below_alloc | apply pw_below_drewN | apply below_drew1 | refine below_set ?_ GE101.out | refine below_set ?_ GE102.out) | exact HB.out))) : w.heap.size ≤ gb118))
      have n6_ := asd ((by rw [hg]; exact (below_size (by repeat (first | (with_reducible first | exact HB.out | apply below_alloc | apply pw_below_drewN | apply below_drew1 | refine below_set ?_ GE101.out | refine below_set ?_ GE102.out) | exact HB.out))) : w.heap.size ≤ gb118))
      have n7_ := asd ((by rw [hg]; exact Nat.ne_of_lt (blk_lt (upB BK101.out)) : gb101 ≠ gb118))
      have n8_ := asd ((by rw [hg]; exact Nat.ne_of_gt (blk_lt (upB BK101.out)) : gb118 ≠ gb101))
      have n9_ := asd ((by rw [hg]; exact Nat.ne_of_lt (blk_lt (upB BK102.out)) : gb102 ≠ gb118))
      have n10_ := asd ((by rw [hg]; exact Nat.ne_of_gt (blk_lt (upB BK102.out)) : gb118 ≠ gb102))
      clear HO108
      clear BK101
      clear BK102
      clear HB
      have HO108 := n0_
      have BK101 := n1_
      have BK102 := n2_
      have HB := n3_
      have BK118 := n4_
      have GW118 := n5_
      have GE118 := n6_
      have NB101_118 := n7_
      have NB118_101 := n8_
      have NB102_118 := n9_
      have NB118_102 := n10_
      clear n0_ n1_ n2_ n3_ n4_ n5_ n6_ n7_ n8_ n9_ n10_
      clear hb hbox hg
      refine hK.out _ _ ⟨(blk_cell BK101.out 0).trans rfl, (blk_cell BK101.out 1).trans rfl, (blk_cell BK102.out 0).trans rfl, (blk_cell BK102.out 1).trans rfl⟩ (fun hHeld => ?_)
      clear hK K
      refine norm_ (a' := ?_) ?_ ?_
      rotate_left
      ·
       show Act.put _ (some 6) _ = _
       simp only [Act.put, List.setIfInBounds_toArray, List.set_cons_zero, List.set_cons_succ, i64_w, i32_w]
       rfl
      refine one_ (i := 3) (N := some 31) #[true, true, true, true, false, false, false, false, true, false, false] rfl rfl (one_of HT_.out (by kernel_rfl)) (by decide) (fun K hK => ?_)
      refine goes_ Try.func15 (by kernel_rfl) rfl #[.agg #[.int .i64 a1_0, .slice A1_1 l1_1.length c1_1]] (by rfl) rfl rfl (by (try simp only [List.map_toArray, List.map_cons, List.map_nil]); first | done | rfl | (simp only [List.length_drop, List.length_take]; rfl)) ?_
      with_reducible refine (laws_toSpace.calls k a1_0 _ _ l1_1 t109 t110 _ ?side1 ?side2 A20.out).mono ?_
      (case side1 => repeat (first | exact (Kd.C_below HR1_1.out HB.out) | (with_reducible refine Kd.C_alloc ?_ _) | (with_reducible refine Kd.C_drewN ?_ _) | (with_reducible refine Kd.C_drew ?_)))
      (case side2 => exact HC1_1.out)
      rintro e w36 ⟨v111, rfl, ho0, hb⟩
      refine ⟨_, rfl, ?_⟩
      have n0_ := asd (Kd.R_elder' (upR <| HO108.out) (Kd.R_base ho0) hb)
      have n1_ := asd (Kd.R_lower (Kd.R_new' ho0 (Kd.R_lt (upR <| HO108.out))) (below_size (by repeat (first | (with_reducible first | exact HB.out | apply below_alloc | apply pw_below_drewN | apply below_drew1 | refine below_set ?_ GE101.out | refine below_set ?_ GE102.out | refine below_set ?_ GE118.out) | exact HB.out))))
      have n2_ := asd (blk_below (upB BK101.out) hb)
      have n3_ := asd (blk_below (upB BK102.out) hb)
      have n4_ := asd (blk_below (upB BK118.out) hb)
      have n5_ := asd (below_step (by repeat (first | (with_reducible first | exact HB.out | apply below_alloc | apply pw_below_drewN | apply below_drew1 | refine below_set ?_ GE101.out | refine below_set ?_ GE102.out | refine below_set ?_ GE118.out) | exact HB.out)) hb)
      clear HO108
      clear BK101
      clear BK102
      clear BK118
      clear HB
      have HO108 := n0_
      have HO112 := n1_
      have BK101 := n2_
      have BK102 := n3_
      have BK118 := n4_
      have HB := n5_
      clear n0_ n1_ n2_ n3_ n4_ n5_
      (try clear hb)
      (try clear hb2)
      (try clear hk)
      (try clear hi)
      (try clear ho0)
      obtain ⟨Ao37, co37, eo37⟩ := Kd.R_slice HO108.out
      (first | subst eo37 | (injection eo37 with f1_ f2_ f3_; have f4_ := f1_.symm; have f5_ := f3_.symm; clear f1_ f2_ f3_; subst f4_; subst f5_))
      obtain ⟨Ao38, co38, eo38⟩ := Kd.R_slice HO112.out
      (first | subst eo38 | (injection eo38 with f1_ f2_ f3_; have f4_ := f1_.symm; have f5_ := f3_.symm; clear f1_ f2_ f3_; subst f4_; subst f5_))
      refine hK.out _ _ ⟨(blk_cell BK101.out 0).trans rfl, (blk_cell BK101.out 1).trans rfl, (blk_cell BK102.out 0).trans rfl, (blk_cell BK102.out 1).trans rfl⟩ (fun hHeld => ?_)
      clear hK K
      refine norm_ (a' := ?_) ?_ ?_
      rotate_left
      ·
       show Act.put _ (some 31) _ = _
       simp only [Act.put, List.setIfInBounds_toArray, List.set_cons_zero, List.set_cons_succ, i64_w, i32_w]
       rfl
      refine one_ (i := 4) (N := some 32) #[true, true, true, true, true, false, false, false, true, false, false] rfl rfl (one_of HT_.out (by kernel_rfl)) (by decide) (fun K hK => ?_)
      refine goes_ Try.func14 (by kernel_rfl) rfl #[.agg #[.int .i64 t105, .slice Ao37 t106.length co37], .agg #[.int .i64 t109, .slice Ao38 t110.length co38]] (by rfl) rfl rfl (by (try simp only [List.map_toArray, List.map_cons, List.map_nil]); first | done | rfl | (simp only [List.length_drop, List.length_take]; rfl)) ?_
      with_reducible refine (spec_MeetOfSpaces.calls k t105 _ _ t106 t109 _ _ t110 t113 t114 t117 _ ?side1 ?side2 ?side3 ?side4 A21.out).mono ?_
      (case side1 => repeat (first | exact (Kd.R_reads' HO108.out).2.2 | (with_reducible refine Kd.C_alloc ?_ _) | (with_reducible refine Kd.C_drewN ?_ _) | (with_reducible refine Kd.C_drew ?_)))
      (case side2 => exact (Kd.R_reads' HO108.out).2.1)
      (case side3 => repeat (first | exact (Kd.R_reads' HO112.out).2.2 | (with_reducible refine Kd.C_alloc ?_ _) | (with_reducible refine Kd.C_drewN ?_ _) | (with_reducible refine Kd.C_drew ?_)))
      (case side4 => exact (Kd.R_reads' HO112.out).2.1)
      rintro e w39 ⟨v115, rfl, ho0, hb⟩
      refine ⟨_, rfl, ?_⟩
      have n0_ := asd (Kd.R_elder' (upR <| HO108.out) (Kd.R_base ho0) hb)
      have n1_ := asd (Kd.R_elder' (upR <| HO112.out) (Kd.R_base ho0) hb)
      have n2_ := asd (Kd.R_lower (Kd.R_new' (Kd.R_new' ho0 (Kd.R_lt (upR <| HO108.out))) (Kd.R_lt (upR <| HO112.out))) (below_size (by repeat (first | (with_reducible first | exact HB.out | apply below_alloc | apply pw_below_drewN | apply below_drew1 | refine below_set ?_ GE101.out | refine below_set ?_ GE102.out | refine below_set ?_ GE118.out) | exact HB.out))))
      have n3_ := asd (blk_below (upB BK101.out) hb)
      have n4_ := asd (blk_below (upB BK102.out) hb)
      have n5_ := asd (blk_below (upB BK118.out) hb)
      have n6_ := asd (below_step (by repeat (first | (with_reducible first | exact HB.out | apply below_alloc | apply pw_below_drewN | apply below_drew1 | refine below_set ?_ GE101.out | refine below_set ?_ GE102.out | refine below_set ?_ GE118.out) | exact HB.out)) hb)
      clear HO108
      clear HO112
      clear BK101
      clear BK102
      clear BK118
      clear HB
      have HO108 := n0_
      have HO112 := n1_
      have HO116 := n2_
      have BK101 := n3_
      have BK102 := n4_
      have BK118 := n5_
      have HB := n6_
      clear n0_ n1_ n2_ n3_ n4_ n5_ n6_
      (try clear hb)
      (try clear hb2)
      (try clear hk)
      (try clear hi)
      (try clear ho0)
      refine hK.out _ _ ⟨(blk_cell BK101.out 0).trans rfl, (blk_cell BK101.out 1).trans rfl, (blk_cell BK102.out 0).trans rfl, (blk_cell BK102.out 1).trans rfl⟩ (fun hHeld => ?_)
      clear hK K
      refine norm_ (a' := ?_) ?_ ?_
      rotate_left
      ·
       show Act.put _ (some 32) _ = _
       simp only [Act.put, List.setIfInBounds_toArray, List.set_cons_zero, List.set_cons_succ, i64_w, i32_w]
       rfl
      refine pure_ (i := 5) (N := some 27) (v := ?_) (a' := ?_) #[true, true, true, true, true, true, false, false, true, false, false] rfl rfl (any_of HT_.out (by kernel_rfl)) (fun _ _ _ h => h) (Or.inl ⟨by rfl, ?_⟩) ?_ ?_
      rotate_left
      ·
       intro w'
       go_simp
       with_reducible rfl
      rotate_left
      ·
       simp only [Act.put, List.setIfInBounds_toArray, List.set_cons_zero, List.set_cons_succ, i64_w, i32_w]
       rfl
      refine pure_ (i := 6) (N := some 33) (v := ?_) (a' := ?_) #[true, true, true, true, true, true, true, false, true, false, false] rfl rfl (any_of HT_.out (by kernel_rfl)) (fun _ _ _ h => h) (Or.inl ⟨by rfl, ?_⟩) ?_ ?_
      rotate_left
      ·
       intro w'
       go_simp
       with_reducible rfl
      rotate_left
      ·
       simp only [Act.put, List.setIfInBounds_toArray, List.set_cons_zero, List.set_cons_succ, i64_w, i32_w]
       rfl
      refine pure_ (i := 7) (N := some 34) (v := ?_) (a' := ?_) #[true, true, true, true, true, true, true, true, true, false, false] rfl rfl (any_of HT_.out (by kernel_rfl)) (fun _ _ _ h => h) (Or.inl ⟨by rfl, ?_⟩) ?_ ?_
      rotate_left
      ·
       intro w'
       go_simp
       with_reducible rfl
      rotate_left
      ·
       simp only [Act.put, List.setIfInBounds_toArray, List.set_cons_zero, List.set_cons_succ, i64_w, i32_w]
       rfl
      exact norm_ (by simp only [putAll, Act.put, List.setIfInBounds_toArray, List.set_cons_zero, List.set_cons_succ]) (hCont (.slice Ao37 t106.length co37, .slice Ao38 t110.length co38, v115, gb118) _ ⟨hHeld, (upR <| Kd.R_mono HO108.out (fun _ hk => ⟨hk.1.2, hk.2⟩)), (upR <| Kd.R_mono HO112.out (fun _ hk => ⟨hk.1.2, hk.2⟩)), (upR <| Kd.R_mono HO116.out (fun _ hk => ⟨hk.1.2, hk.2⟩)), (upB BK101.out), (upB BK102.out), (upB BK118.out), GW118.out, GE118.out, NB101_118.out, NB118_101.out, NB102_118.out, NB118_102.out, (by repeat (first | (with_reducible first | exact HB.out | apply below_alloc | apply pw_below_drewN | apply below_drew1 | refine below_set ?_ GE101.out | refine below_set ?_ GE102.out | refine below_set ?_ GE118.out) | exact HB.out))⟩)
    ·
     skip
     refine box_step ?hg (N := 6) ?hd (cs := #[.int .i64 0, .slice none 0 0]) (t := 26) ?hr ?_; (case hd => rfl); (case hg => rfl); (case hr => first | (go_simp; done) | (go_simp; rfl))
     intro gb118 hg w34 hbox hb
     have n0_ := asd (blk_below (upB BK101.out) hb)
     have n1_ := asd (blk_below (upB BK102.out) hb)
     have n2_ := asd (below_step (by repeat (first | (with_reducible first | exact HB.out | apply below_alloc | apply pw_below_drewN | apply below_drew1 | refine below_set ?_ GE101.out | refine below_set ?_ GE102.out) | exact HB.out)) hb)
     have n3_ := asd (hbox)
     have n4_ := asd ((by rw [hg]; exact (below_size (by repeat (first | (with_reducible first | exact HB.out | apply below_alloc | apply pw_below_drewN | apply below_drew1 | refine below_set ?_ GE101.out | refine below_set ?_ GE102.out) | exact HB.out))) : w.heap.size ≤ gb118))
     have n5_ := asd ((by rw [hg]; exact (below_size (by repeat (first | (with_reducible first | exact HB.out | apply below_alloc | apply pw_below_drewN | apply below_drew1 | refine below_set ?_ GE101.out | refine below_set ?_ GE102.out) | exact HB.out))) : w.heap.size ≤ gb118))
     have n6_ := asd ((by rw [hg]; exact Nat.ne_of_lt (blk_lt (upB BK101.out)) : gb101 ≠ gb118))
     have n7_ := asd ((by rw [hg]; exact Nat.ne_of_gt (blk_lt (upB BK101.out)) : gb118 ≠ gb101))
     have n8_ := asd ((by rw [hg]; exact Nat.ne_of_lt (blk_lt (upB BK102.out)) : gb102 ≠ gb118))
     have n9_ := asd ((by rw [hg]; exact Nat.ne_of_gt (blk_lt (upB BK102.out)) : gb118 ≠ gb102))
     clear BK101
     clear BK102
     clear HB
     have BK101 := n0_
     have BK102 := n1_
     have HB := n2_
     have BK118 := n3_
     have GW118 := n4_
     have GE118 := n5_
     have NB101_118 := n6_
     have NB118_101 := n7_
     have NB102_118 := n8_
     have NB118_102 := n9_
     clear n0_ n1_ n2_ n3_ n4_ n5_ n6_ n7_ n8_ n9_
     clear hb hbox hg
     refine hK.out _ _ ⟨(blk_cell BK101.out 0).trans rfl, (blk_cell BK101.out 1).trans rfl, (blk_cell BK102.out 0).trans rfl, (blk_cell BK102.out 1).trans rfl⟩ (fun hHeld => ?_)
     clear hK K
     refine norm_ (a' := ?_) ?_ ?_
     rotate_left
     ·
      show Act.put _ (some 6) _ = _
      simp only [Act.put, List.setIfInBounds_toArray, List.set_cons_zero, List.set_cons_succ, i64_w, i32_w]
      rfl
     refine one_ (i := 1) (N := some 29) #[true, true, true, false, false, false, false, false, true, false, false] rfl rfl (one_of HT_.out (by kernel_rfl)) (by decide) (fun K hK => ?_)
     refine goes_ Try.func15 (by kernel_rfl) rfl #[.agg #[.int .i64 a0_0, .slice A0_1 l0_1.length c0_1]] (by rfl) rfl rfl (by (try simp only [List.map_toArray, List.map_cons, List.map_nil]); first | done | rfl | (simp only [List.length_drop, List.length_take]; rfl)) ?_
     with_reducible refine (laws_toSpace.calls k a0_0 _ _ l0_1 t105 t106 _ ?side1 ?side2 A19.out).mono ?_
     (case side1 => repeat (first | exact (Kd.C_below HR0_1.out HB.out) | (with_reducible refine Kd.C_alloc ?_ _) | (with_reducible refine Kd.C_drewN ?_ _) | (with_reducible refine Kd.C_drew ?_)))
     (case side2 => exact HC0_1.out)
     rintro e w35 ⟨v107, rfl, ho0, hb⟩
     refine ⟨_, rfl, ?_⟩
     have n0_ := asd (Kd.R_lower ho0 (below_size (by repeat (first | (with_reducible first | exact HB.out | apply below_alloc | apply pw_below_drewN | apply below_drew1 | refine below_set ?_ GE101.out | refine below_set ?_ GE102.out | refine below_set ?_ GE118.out) | exact HB.out))))
     have n1_ := asd (blk_below (upB BK101.out) hb)
     have n2_ := asd (blk_below (upB BK102.out) hb)
     have n3_ := asd (blk_below (upB BK118.out) hb)
     have n4_ := asd (below_step (by repeat (first | (with_reducible first | exact HB.out | apply below_alloc | apply pw_below_drewN | apply below_drew1 | refine below_set ?_ GE101.out | refine below_set ?_ GE102.out | refine below_set ?_ GE118.out) | exact HB.out)) hb)
     clear BK101
     clear BK102
     clear BK118
     clear HB
     have HO108 := n0_
     have BK101 := n1_
     have BK102 := n2_
     have BK118 := n3_
     have HB := n4_
     clear n0_ n1_ n2_ n3_ n4_
     (try clear hb)
     (try clear hb2)
     (try clear hk)
     (try clear hi)
     (try clear ho0)
     refine hK.out _ _ ⟨(blk_cell BK101.out 0).trans rfl, (blk_cell BK101.out 1).trans rfl, (blk_cell BK102.out 0).trans rfl, (blk_cell BK102.out 1).trans rfl⟩ (fun hHeld => ?_)
     clear hK K
     refine norm_ (a' := ?_) ?_ ?_
     rotate_left
     ·
      show Act.put _ (some 29) _ = _
      simp only [Act.put, List.setIfInBounds_toArray, List.set_cons_zero, List.set_cons_succ, i64_w, i32_w]
      rfl
     refine one_ (i := 3) (N := some 31) #[true, true, true, true, false, false, false, false, true, false, false] rfl rfl (one_of HT_.out (by kernel_rfl)) (by decide) (fun K hK => ?_)
     refine goes_ Try.func15 (by kernel_rfl) rfl #[.agg #[.int .i64 a1_0, .slice A1_1 l1_1.length c1_1]] (by rfl) rfl rfl (by (try simp only [List.map_toArray, List.map_cons, List.map_nil]); first | done | rfl | (simp only [List.length_drop, List.length_take]; rfl)) ?_
     with_reducible refine (laws_toSpace.calls k a1_0 _ _ l1_1 t109 t110 _ ?side1 ?side2 A20.out).mono ?_
     (case side1 => repeat (first | exact (Kd.C_below HR1_1.out HB.out) | (with_reducible refine Kd.C_alloc ?_ _) | (with_reducible refine Kd.C_drewN ?_ _) | (with_reducible refine Kd.C_drew ?_)))
     (case side2 => exact HC1_1.out)
     rintro e w36 ⟨v111, rfl, ho0, hb⟩
     refine ⟨_, rfl, ?_⟩
     have n0_ := asd (Kd.R_elder' (upR <| HO108.out) (Kd.R_base ho0) hb)
     have n1_ := asd (Kd.R_lower (Kd.R_new' ho0 (Kd.R_lt (upR <| HO108.out))) (below_size (by repeat (first | (with_reducible first | exact HB.out | apply below_alloc | apply pw_below_drewN | apply below_drew1 | refine below_set ?_ GE101.out | refine below_set ?_ GE102.out | refine below_set ?_ GE118.out) | exact HB.out))))
     have n2_ := asd (blk_below (upB BK101.out) hb)
     have n3_ := asd (blk_below (upB BK102.out) hb)
     have n4_ := asd (blk_below (upB BK118.out) hb)
     have n5_ := asd (below_step (by repeat (first | (with_reducible first | exact HB.out | apply below_alloc | apply pw_below_drewN | apply below_drew1 | refine below_set ?_ GE101.out | refine below_set ?_ GE102.out | refine below_set ?_ GE118.out) | exact HB.out)) hb)
     clear HO108
     clear BK101
     clear BK102
     clear BK118
     clear HB
     have HO108 := n0_
     have HO112 := n1_
     have BK101 := n2_
     have BK102 := n3_
     have BK118 := n4_
     have HB := n5_
     clear n0_ n1_ n2_ n3_ n4_ n5_
     (try clear hb)
     (try clear hb2)
     (try clear hk)
     (try clear hi)
     (try clear ho0)
     obtain ⟨Ao37, co37, eo37⟩ := Kd.R_slice HO108.out
     (first | subst eo37 | (injection eo37 with f1_ f2_ f3_; have f4_ := f1_.symm; have f5_ := f3_.symm; clear f1_ f2_ f3_; subst f4_; subst f5_))
     obtain ⟨Ao38, co38, eo38⟩ := Kd.R_slice HO112.out
     (first | subst eo38 | (injection eo38 with f1_ f2_ f3_; have f4_ := f1_.symm; have f5_ := f3_.symm; clear f1_ f2_ f3_; subst f4_; subst f5_))
     refine hK.out _ _ ⟨(blk_cell BK101.out 0).trans rfl, (blk_cell BK101.out 1).trans rfl, (blk_cell BK102.out 0).trans rfl, (blk_cell BK102.out 1).trans rfl⟩ (fun hHeld => ?_)
     clear hK K
     refine norm_ (a' := ?_) ?_ ?_
     rotate_left
     ·
      show Act.put _ (some 31) _ = _
      simp only [Act.put, List.setIfInBounds_toArray, List.set_cons_zero, List.set_cons_succ, i64_w, i32_w]
      rfl
     refine one_ (i := 4) (N := some 32) #[true, true, true, true, true, false, false, false, true, false, false] rfl rfl (one_of HT_.out (by kernel_rfl)) (by decide) (fun K hK => ?_)
     refine goes_ Try.func14 (by kernel_rfl) rfl #[.agg #[.int .i64 t105, .slice Ao37 t106.length co37], .agg #[.int .i64 t109, .slice Ao38 t110.length co38]] (by rfl) rfl rfl (by (try simp only [List.map_toArray, List.map_cons, List.map_nil]); first | done | rfl | (simp only [List.length_drop, List.length_take]; rfl)) ?_
     with_reducible refine (spec_MeetOfSpaces.calls k t105 _ _ t106 t109 _ _ t110 t113 t114 t117 _ ?side1 ?side2 ?side3 ?side4 A21.out).mono ?_
     (case side1 => repeat (first | exact (Kd.R_reads' HO108.out).2.2 | (with_reducible refine Kd.C_alloc ?_ _) | (with_reducible refine Kd.C_drewN ?_ _) | (with_reducible refine Kd.C_drew ?_)))
     (case side2 => exact (Kd.R_reads' HO108.out).2.1)
     (case side3 => repeat (first | exact (Kd.R_reads' HO112.out).2.2 | (with_reducible refine Kd.C_alloc ?_ _) | (with_reducible refine Kd.C_drewN ?_ _) | (with_reducible refine Kd.C_drew ?_)))
     (case side4 => exact (Kd.R_reads' HO112.out).2.1)
     rintro e w39 ⟨v115, rfl, ho0, hb⟩
     refine ⟨_, rfl, ?_⟩
     have n0_ := asd (Kd.R_elder' (upR <| HO108.out) (Kd.R_base ho0) hb)
     have n1_ := asd (Kd.R_elder' (upR <| HO112.out) (Kd.R_base ho0) hb)
     have n2_ := asd (Kd.R_lower (Kd.R_new' (Kd.R_new' ho0 (Kd.R_lt (upR <| HO108.out))) (Kd.R_lt (upR <| HO112.out))) (below_size (by repeat (first | (with_reducible first | exact HB.out | apply below_alloc | apply pw_below_drewN | apply below_drew1 | refine below_set ?_ GE101.out | refine below_set ?_ GE102.out | refine below_set ?_ GE118.out) | exact HB.out))))
     have n3_ := asd (blk_below (upB BK101.out) hb)
     have n4_ := asd (blk_below (upB BK102.out) hb)
     have n5_ := asd (blk_below (upB BK118.out) hb)
     have n6_ := asd (below_step (by repeat (first | (with_reducible first | exact HB.out | apply below_alloc | apply pw_below_drewN | apply below_drew1 | refine below_set ?_ GE101.out | refine below_set ?_ GE102.out | refine below_set ?_ GE118.out) | exact HB.out)) hb)
     clear HO108
     clear HO112
     clear BK101
     clear BK102
     clear BK118
     clear HB
     have HO108 := n0_
     have HO112 := n1_
     have HO116 := n2_
     have BK101 := n3_
     have BK102 := n4_
     have BK118 := n5_
     have HB := n6_
     clear n0_ n1_ n2_ n3_ n4_ n5_ n6_
     (try clear hb)
     (try clear hb2)
     (try clear hk)
     (try clear hi)
     (try clear ho0)
     refine hK.out _ _ ⟨(blk_cell BK101.out 0).trans rfl, (blk_cell BK101.out 1).trans rfl, (blk_cell BK102.out 0).trans rfl, (blk_cell BK102.out 1).trans rfl⟩ (fun hHeld => ?_)
     clear hK K
     refine norm_ (a' := ?_) ?_ ?_
     rotate_left
     ·
      show Act.put _ (some 32) _ = _
      simp only [Act.put, List.setIfInBounds_toArray, List.set_cons_zero, List.set_cons_succ, i64_w, i32_w]
      rfl
     refine pure_ (i := 5) (N := some 27) (v := ?_) (a' := ?_) #[true, true, true, true, true, true, false, false, true, false, false] rfl rfl (any_of HT_.out (by kernel_rfl)) (fun _ _ _ h => h) (Or.inl ⟨by rfl, ?_⟩) ?_ ?_
     rotate_left
     ·
      intro w'
      go_simp
      with_reducible rfl
     rotate_left
     ·
      simp only [Act.put, List.setIfInBounds_toArray, List.set_cons_zero, List.set_cons_succ, i64_w, i32_w]
      rfl
     refine pure_ (i := 6) (N := some 33) (v := ?_) (a' := ?_) #[true, true, true, true, true, true, true, false, true, false, false] rfl rfl (any_of HT_.out (by kernel_rfl)) (fun _ _ _ h => h) (Or.inl ⟨by rfl, ?_⟩) ?_ ?_
     rotate_left
     ·
      intro w'
      go_simp
      with_reducible rfl
     rotate_left
     ·
      simp only [Act.put, List.setIfInBounds_toArray, List.set_cons_zero, List.set_cons_succ, i64_w, i32_w]
      rfl
     refine pure_ (i := 7) (N := some 34) (v := ?_) (a' := ?_) #[true, true, true, true, true, true, true, true, true, false, false] rfl rfl (any_of HT_.out (by kernel_rfl)) (fun _ _ _ h => h) (Or.inl ⟨by rfl, ?_⟩) ?_ ?_
     rotate_left
     ·
      intro w'
      go_simp
      with_reducible rfl
     rotate_left
     ·
      simp only [Act.put, List.setIfInBounds_toArray, List.set_cons_zero, List.set_cons_succ, i64_w, i32_w]
      rfl
     exact norm_ (by simp only [putAll, Act.put, List.setIfInBounds_toArray, List.set_cons_zero, List.set_cons_succ]) (hCont (.slice Ao37 t106.length co37, .slice Ao38 t110.length co38, v115, gb118) _ ⟨hHeld, (upR <| Kd.R_mono HO108.out (fun _ hk => ⟨hk.1.2, hk.2⟩)), (upR <| Kd.R_mono HO112.out (fun _ hk => ⟨hk.1.2, hk.2⟩)), (upR <| Kd.R_mono HO116.out (fun _ hk => ⟨hk.1.2, hk.2⟩)), (upB BK101.out), (upB BK102.out), (upB BK118.out), GW118.out, GE118.out, NB101_118.out, NB118_101.out, NB102_118.out, NB118_102.out, (by repeat (first | (with_reducible first | exact HB.out | apply below_alloc | apply pw_below_drewN | apply below_drew1 | refine below_set ?_ GE101.out | refine below_set ?_ GE102.out | refine below_set ?_ GE118.out) | exact HB.out))⟩)
   rintro ⟨v107, v111, v115, gb118⟩ w40 ⟨hS_, h0_, h1_, h2_, h3_, h4_, h5_, h6_, h7_, h8_, h9_, h10_, h11_, h12_⟩
   have n0_ : Aside0 (Kd.R (Kd.int .i64) 3 w40 w.heap.size (fun k_ => some k_ ≠ (v111 : Value).ownBlock ∧ some k_ ≠ (v115 : Value).ownBlock) v107 t106) := ⟨h0_⟩
   have n1_ : Aside0 (Kd.R (Kd.int .i64) 3 w40 w.heap.size (fun k_ => some k_ ≠ (v107 : Value).ownBlock ∧ some k_ ≠ (v115 : Value).ownBlock) v111 t110) := ⟨h1_⟩
   have n2_ : Aside0 (Kd.R (Kd.int .i64) 3 w40 w.heap.size (fun k_ => some k_ ≠ (v107 : Value).ownBlock ∧ some k_ ≠ (v111 : Value).ownBlock) v115 t114) := ⟨h2_⟩
   have n3_ : Aside0 (w40.heap[gb101]? = some (.cells #[.int .i64 a0_0, .slice A0_1 l0_1.length c0_1] 24 (0, 0))) := ⟨h3_⟩
   have n4_ : Aside0 (w40.heap[gb102]? = some (.cells #[.int .i64 a1_0, .slice A1_1 l1_1.length c1_1] 24 (0, 0))) := ⟨h4_⟩
   have n5_ : Aside0 (w40.heap[gb118]? = some (.cells #[.int .i64 0, .slice none 0 0] 26 (0, 0))) := ⟨h5_⟩
   have n6_ : Aside0 (w.heap.size ≤ gb118) := ⟨h6_⟩
   have n7_ : Aside0 (w.heap.size ≤ gb118) := ⟨h7_⟩
   have n8_ : Aside0 (gb101 ≠ gb118) := ⟨h8_⟩
   have n9_ : Aside0 (gb118 ≠ gb101) := ⟨h9_⟩
   have n10_ : Aside0 (gb102 ≠ gb118) := ⟨h10_⟩
   have n11_ : Aside0 (gb118 ≠ gb102) := ⟨h11_⟩
   have n12_ : Aside0 (Below w.heap.size w w40) := ⟨h12_⟩
   clear BK101
   clear BK102
   clear HB
   clear h0_ h1_ h2_ h3_ h4_ h5_ h6_ h7_ h8_ h9_ h10_ h11_ h12_
   have HO108 := n0_
   have HO112 := n1_
   have HO116 := n2_
   have BK101 := n3_
   have BK102 := n4_
   have BK118 := n5_
   have GW118 := n6_
   have GE118 := n7_
   have NB101_118 := n8_
   have NB118_101 := n9_
   have NB102_118 := n10_
   have NB118_102 := n11_
   have HB := n12_
   clear n0_ n1_ n2_ n3_ n4_ n5_ n6_ n7_ n8_ n9_ n10_ n11_ n12_
   have hHeld : w40.cell? ⟨gb101, 0, none⟩ = some (.int .i64 a0_0) ∧ w40.cell? ⟨gb101, 1, none⟩ = some (.slice A0_1 l0_1.length c0_1) ∧ w40.cell? ⟨gb102, 0, none⟩ = some (.int .i64 a1_0) ∧ w40.cell? ⟨gb102, 1, none⟩ = some (.slice A1_1 l1_1.length c1_1) := hS_
   obtain ⟨Ao42, co42, eo42⟩ := Kd.R_slice HO116.out
   (first | subst eo42 | (injection eo42 with f1_ f2_ f3_; have f4_ := f1_.symm; have f5_ := f3_.symm; clear f1_ f2_ f3_; subst f4_; subst f5_))
   refine norm_ (a' := ?_) ?_ ?_
   rotate_left
   ·
    simp only [putAll, Act.put, List.setIfInBounds_toArray, List.set_cons_zero, List.set_cons_succ]
    rfl
   refine one_ (i := 9) (N := none) #[true, true, true, true, true, true, true, true, true, true, false] rfl rfl (one_of HT_.out (by kernel_rfl)) (by decide) (fun K hK => ?_)
   have hs41 : w40.cell? ⟨gb118, 0, none⟩ = some (.int .i64 0) := (blk_cell BK118.out 0).trans rfl
   have hfs41 := blk_frozen BK118.out 0
   have hns41_0 := NB101_118.out
   have hns41_1 := NB102_118.out
   have hms41_0 := NB118_101.out
   have hms41_1 := NB118_102.out
   have hs43 : w40.cell? ⟨gb118, 1, none⟩ = some (.slice none 0 0) := (blk_cell BK118.out 1).trans rfl
   have hfs43 := blk_frozen BK118.out 1
   have hns43_0 := NB101_118.out
   have hns43_1 := NB102_118.out
   have hms43_0 := NB118_101.out
   have hms43_1 := NB118_102.out
   refine skip_ (w1 := ?_) (by rfl) rfl ?_ ?_
   rotate_left
   ·
    go_simp
    rfl
   refine hK.out _ _ ⟨((cell_far (p := ⟨gb118, _, none⟩) NB101_118.out _).trans (((cell_far (p := ⟨gb118, _, none⟩) NB101_118.out _).trans (hHeld.1)))), ((cell_far (p := ⟨gb118, _, none⟩) NB101_118.out _).trans (((cell_far (p := ⟨gb118, _, none⟩) NB101_118.out _).trans (hHeld.2.1)))), ((cell_far (p := ⟨gb118, _, none⟩) NB102_118.out _).trans (((cell_far (p := ⟨gb118, _, none⟩) NB102_118.out _).trans (hHeld.2.2.1)))), ((cell_far (p := ⟨gb118, _, none⟩) NB102_118.out _).trans (((cell_far (p := ⟨gb118, _, none⟩) NB102_118.out _).trans (hHeld.2.2.2))))⟩ (fun hHeld => ?_)
   clear hK K
   refine pure_ (i := 10) (N := some 7) (v := ?_) (a' := ?_) #[true, true, true, true, true, true, true, true, true, true, true] rfl rfl (any_of HT_.out (by kernel_rfl)) (fun _ _ _ h => h) (Or.inl ⟨by rfl, ?_⟩) ?_ ?_
   rotate_left
   ·
    intro w'
    go_simp
    with_reducible rfl
   rotate_left
   ·
    simp only [Act.put, List.setIfInBounds_toArray, List.set_cons_zero, List.set_cons_succ, i64_w, i32_w]
    rfl
   refine done_ (done_of HT_.out (by kernel_rfl)) ?_
   have hnb44 := NB101_118.out
   have hnc44 := NB118_101.out
   have hcz45_0 : w40.cell? ⟨gb101, 0, none⟩ = some (.int .i64 a0_0) := (blk_cell BK101.out 0).trans rfl
   have hcz45_1 : w40.cell? ⟨gb101, 1, none⟩ = some (.slice A0_1 l0_1.length c0_1) := (blk_cell BK101.out 1).trans rfl
   have hfz45_0 := blk_frozen BK101.out 0
   have hfz45_1 := blk_frozen BK101.out 1
   go_upto_region 12 with (first | ((with_reducible refine gate_callee (f := 15) rfl ?_); refine goesL_ (some 36) rfl rfl Try.func15 (by kernel_rfl) rfl #[.agg #[.int .i64 a0_0, .slice A0_1 l0_1.length c0_1]] rfl (by (try simp only [List.map_toArray, List.map_cons, List.map_nil]); first | done | rfl | (simp only [List.length_drop, List.length_take]; rfl)) ?_; (with_reducible refine (laws_toSpace.calls k a0_0 _ _ l0_1 t119 t120 _ ?side1 ?side2 A22.out).mono ?_); (case side1 => exact Kd.C_below HR0_1.out (by repeat (first | (with_reducible first | exact HB.out | apply below_alloc | apply pw_below_drewN | apply below_drew1 | refine below_set ?_ GE101.out | refine below_set ?_ GE102.out | refine below_set ?_ GE118.out) | exact HB.out))); (case side2 => exact HC0_1.out); rintro e w46 ⟨v121, rfl, ho0, hb⟩; refine ⟨_, rfl, ?_⟩; have n0_ := asd (Kd.R_elder' (upR <| (Kd.R_mono (Kd.R_far (p := ⟨gb118, 1, none⟩) (Kd.R_far (p := ⟨gb118, 0, none⟩) (Kd.R_types HO108.out BK118.out (by decide)) (fun _ hk => hk.2) (.int .i64 t113)) (fun _ hk => hk.2) (.slice Ao42 t114.length co42)) (fun _ h_ => h_.1))) (Kd.R_base ho0) hb); have n1_ := asd (Kd.R_elder' (upR <| (Kd.R_mono (Kd.R_far (p := ⟨gb118, 1, none⟩) (Kd.R_far (p := ⟨gb118, 0, none⟩) (Kd.R_types HO112.out BK118.out (by decide)) (fun _ hk => hk.2) (.int .i64 t113)) (fun _ hk => hk.2) (.slice Ao42 t114.length co42)) (fun _ h_ => h_.1))) (Kd.R_base ho0) hb); have n2_ := asd (Kd.R_elder' (upR <| (Kd.R_mono (Kd.R_far (p := ⟨gb118, 1, none⟩) (Kd.R_far (p := ⟨gb118, 0, none⟩) (Kd.R_types HO116.out BK118.out (by decide)) (fun _ hk => hk.2) (.int .i64 t113)) (fun _ hk => hk.2) (.slice Ao42 t114.length co42)) (fun _ h_ => h_.1))) (Kd.R_base ho0) hb); have n3_ := asd (Kd.R_lower (Kd.R_new' (Kd.R_new' (Kd.R_new' ho0 (Kd.R_lt (upR <| (Kd.R_mono (Kd.R_far (p := ⟨gb118, 1, none⟩) (Kd.R_far (p := ⟨gb118, 0, none⟩) (Kd.R_types HO108.out BK118.out (by decide)) (fun _ hk => hk.2) (.int .i64 t113)) (fun _ hk => hk.2) (.slice Ao42 t114.length co42)) (fun _ h_ => h_.1))))) (Kd.R_lt (upR <| (Kd.R_mono (Kd.R_far (p := ⟨gb118, 1, none⟩) (Kd.R_far (p := ⟨gb118, 0, none⟩) (Kd.R_types HO112.out BK118.out (by decide)) (fun _ hk => hk.2) (.int .i64 t113)) (fun _ hk => hk.2) (.slice Ao42 t114.length co42)) (fun _ h_ => h_.1))))) (Kd.R_lt (upR <| (Kd.R_mono (Kd.R_far (p := ⟨gb118, 1, none⟩) (Kd.R_far (p := ⟨gb118, 0, none⟩) (Kd.R_types HO116.out BK118.out (by decide)) (fun _ hk => hk.2) (.int .i64 t113)) (fun _ hk => hk.2) (.slice Ao42 t114.length co42)) (fun _ h_ => h_.1))))) (below_size (by repeat (first | (with_reducible first | exact HB.out | apply below_alloc | apply pw_below_drewN | apply below_drew1 | refine below_set ?_ GE101.out | refine below_set ?_ GE102.out | refine below_set ?_ GE118.out) | exact HB.out)))); have n4_ := asd (blk_below (g := gb101) (o := .cells #[.int .i64 a0_0, .slice A0_1 l0_1.length c0_1] 24 (0, 0)) (by (with_reducible repeat (first | refine blk_drewN ?_ _ | refine blk_drew ?_ | refine blk_alloc ?_ _)); refine blk_far ?_ NB101_118.out _; (with_reducible repeat (first | refine blk_drewN ?_ _ | refine blk_drew ?_ | refine blk_alloc ?_ _)); refine blk_far ?_ NB101_118.out _; (with_reducible repeat (first | refine blk_drewN ?_ _ | refine blk_drew ?_ | refine blk_alloc ?_ _)); exact BK101.out) hb); have n5_ := asd (blk_below (g := gb102) (o := .cells #[.int .i64 a1_0, .slice A1_1 l1_1.length c1_1] 24 (0, 0)) (by (with_reducible repeat (first | refine blk_drewN ?_ _ | refine blk_drew ?_ | refine blk_alloc ?_ _)); refine blk_far ?_ NB102_118.out _; (with_reducible repeat (first | refine blk_drewN ?_ _ | refine blk_drew ?_ | refine blk_alloc ?_ _)); refine blk_far ?_ NB102_118.out _; (with_reducible repeat (first | refine blk_drewN ?_ _ | refine blk_drew ?_ | refine blk_alloc ?_ _)); exact BK102.out) hb); have n6_ := asd (blk_below (g := gb118) (o := .cells #[.int .i64 t113, .slice Ao42 t114.length co42] 26 (0, 0)) (by (with_reducible repeat (first | refine blk_drewN ?_ _ | refine blk_drew ?_ | refine blk_alloc ?_ _)); refine blk_put (cs := #[.int .i64 t113, .slice none 0 0]) ?_ 1 _ rfl; (with_reducible repeat (first | refine blk_drewN ?_ _ | refine blk_drew ?_ | refine blk_alloc ?_ _)); refine blk_put (cs := #[.int .i64 0, .slice none 0 0]) ?_ 0 _ rfl; (with_reducible repeat (first | refine blk_drewN ?_ _ | refine blk_drew ?_ | refine blk_alloc ?_ _)); exact BK118.out) hb); have n7_ := asd (below_step (by repeat (first | (with_reducible first | exact HB.out | apply below_alloc | apply pw_below_drewN | apply below_drew1 | refine below_set ?_ GE101.out | refine below_set ?_ GE102.out | refine below_set ?_ GE118.out) | exact HB.out)) hb); clear HO108; clear HO112; clear HO116; clear BK101; clear BK102; clear BK118; clear HB; have HO108 := n0_; have HO112 := n1_; have HO116 := n2_; have HO122 := n3_; have BK101 := n4_; have BK102 := n5_; have BK118 := n6_; have HB := n7_; clear n0_ n1_ n2_ n3_ n4_ n5_ n6_ n7_; (try clear hb); (try clear hb2); (try clear hk); (try clear hi); (try clear ho0)) | ((with_reducible refine gate_dst (N := 8) rfl ?_); refine box_event ?hg (N := 8) ?hd (cs := #[.int .i64 0, .slice none 0 0]) (t := 26) ?hr ?_; (case hd => rfl); (case hg => rfl); (case hr => first | (go_simp; done) | (go_simp; rfl)); intro gb123 hg w47 hbox hb; have n0_ := asd (Kd.R_below (upR <| HO108.out) hb); have n1_ := asd (Kd.R_below (upR <| HO112.out) hb); have n2_ := asd (Kd.R_below (upR <| HO116.out) hb); have n3_ := asd (Kd.R_below (upR <| HO122.out) hb); have n4_ := asd (blk_below (upB BK101.out) hb); have n5_ := asd (blk_below (upB BK102.out) hb); have n6_ := asd (blk_below (upB BK118.out) hb); have n7_ := asd (below_step (by repeat (first | (with_reducible first | exact HB.out | apply below_alloc | apply pw_below_drewN | apply below_drew1 | refine below_set ?_ GE101.out | refine below_set ?_ GE102.out | refine below_set ?_ GE118.out) | exact HB.out)) hb); have n8_ := asd (hbox); have n9_ := asd ((by rw [hg]; exact (below_size (by repeat (first | (with_reducible first | exact HB.out | apply below_alloc | apply pw_below_drewN | apply below_drew1 | refine below_set ?_ GE101.out | refine below_set ?_ GE102.out | refine below_set ?_ GE118.out) | exact HB.out))) : w.heap.size ≤ gb123)); have n10_ := asd ((by rw [hg]; exact (below_size (by repeat (first | (with_reducible first | exact HB.out | apply below_alloc | apply pw_below_drewN | apply below_drew1 | refine below_set ?_ GE101.out | refine below_set ?_ GE102.out | refine below_set ?_ GE118.out) | exact HB.out))) : w.heap.size ≤ gb123)); have n11_ := asd ((by rw [hg]; exact Nat.ne_of_lt (blk_lt (upB BK101.out)) : gb101 ≠ gb123)); have n12_ := asd ((by rw [hg]; exact Nat.ne_of_gt (blk_lt (upB BK101.out)) : gb123 ≠ gb101)); have n13_ := asd ((by rw [hg]; exact Nat.ne_of_lt (blk_lt (upB BK102.out)) : gb102 ≠ gb123)); have n14_ := asd ((by rw [hg]; exact Nat.ne_of_gt (blk_lt (upB BK102.out)) : gb123 ≠ gb102)); have n15_ := asd ((by rw [hg]; exact Nat.ne_of_lt (blk_lt (upB BK118.out)) : gb118 ≠ gb123)); have n16_ := asd ((by rw [hg]; exact Nat.ne_of_gt (blk_lt (upB BK118.out)) : gb123 ≠ gb118)); clear HO108; clear HO112; clear HO116; clear HO122; clear BK101; clear BK102; clear BK118; clear HB; have HO108 := n0_; have HO112 := n1_; have HO116 := n2_; have HO122 := n3_; have BK101 := n4_; have BK102 := n5_; have BK118 := n6_; have HB := n7_; have BK123 := n8_; have GW123 := n9_; have GE123 := n10_; have NB101_123 := n11_; have NB123_101 := n12_; have NB102_123 := n13_; have NB123_102 := n14_; have NB118_123 := n15_; have NB123_118 := n16_; clear n0_ n1_ n2_ n3_ n4_ n5_ n6_ n7_ n8_ n9_ n10_ n11_ n12_ n13_ n14_ n15_ n16_; clear hb hbox hg; have hnb48 := NB123_101.out; have hnc48 := NB101_123.out; have hnb49 := NB123_102.out; have hnc49 := NB102_123.out; have hnb50 := NB123_118.out; have hnc50 := NB118_123.out; have hcz51_0 : w47.cell? ⟨gb123, 0, none⟩ = some (.int .i64 0) := (blk_cell BK123.out 0).trans rfl; have hcz51_1 : w47.cell? ⟨gb123, 1, none⟩ = some (.slice none 0 0) := (blk_cell BK123.out 1).trans rfl; have hfz51_0 := blk_frozen BK123.out 0; have hfz51_1 := blk_frozen BK123.out 1; obtain ⟨Ao52, co52, eo52⟩ := Kd.R_slice HO122.out; subst eo52; have hnb53 := NB102_118.out; have hnc53 := NB118_102.out; have hcz54_0 : w47.cell? ⟨gb102, 0, none⟩ = some (.int .i64 a1_0) := (blk_cell BK102.out 0).trans rfl; have hcz54_1 : w47.cell? ⟨gb102, 1, none⟩ = some (.slice A1_1 l1_1.length c1_1) := (blk_cell BK102.out 1).trans rfl; have hfz54_0 := blk_frozen BK102.out 0; have hfz54_1 := blk_frozen BK102.out 1) | ((with_reducible refine gate_callee (f := 15) rfl ?_); refine goesL_ (some 38) rfl rfl Try.func15 (by kernel_rfl) rfl #[.agg #[.int .i64 a1_0, .slice A1_1 l1_1.length c1_1]] rfl (by (try simp only [List.map_toArray, List.map_cons, List.map_nil]); first | done | rfl | (simp only [List.length_drop, List.length_take]; rfl)) ?_; (with_reducible refine (laws_toSpace.calls k a1_0 _ _ l1_1 t124 t125 _ ?side1 ?side2 A23.out).mono ?_); (case side1 => exact Kd.C_below HR1_1.out (by repeat (first | (with_reducible first | exact HB.out | apply below_alloc | apply pw_below_drewN | apply below_drew1 | refine below_set ?_ GE101.out | refine below_set ?_ GE102.out | refine below_set ?_ GE118.out | refine below_set ?_ GE123.out) | exact HB.out))); (case side2 => exact HC1_1.out); rintro e w55 ⟨v126, rfl, ho0, hb⟩; refine ⟨_, rfl, ?_⟩; have n0_ := asd (Kd.R_elder' (upR <| (Kd.R_mono (Kd.R_far (p := ⟨gb123, 1, none⟩) (Kd.R_far (p := ⟨gb123, 0, none⟩) (Kd.R_types HO108.out BK123.out (by decide)) (fun _ hk => hk.2) (.int .i64 t119)) (fun _ hk => hk.2) (.slice Ao52 t120.length co52)) (fun _ h_ => h_.1))) (Kd.R_base ho0) hb); have n1_ := asd (Kd.R_elder' (upR <| (Kd.R_mono (Kd.R_far (p := ⟨gb123, 1, none⟩) (Kd.R_far (p := ⟨gb123, 0, none⟩) (Kd.R_types HO112.out BK123.out (by decide)) (fun _ hk => hk.2) (.int .i64 t119)) (fun _ hk => hk.2) (.slice Ao52 t120.length co52)) (fun _ h_ => h_.1))) (Kd.R_base ho0) hb); have n2_ := asd (Kd.R_elder' (upR <| (Kd.R_mono (Kd.R_far (p := ⟨gb123, 1, none⟩) (Kd.R_far (p := ⟨gb123, 0, none⟩) (Kd.R_types HO116.out BK123.out (by decide)) (fun _ hk => hk.2) (.int .i64 t119)) (fun _ hk => hk.2) (.slice Ao52 t120.length co52)) (fun _ h_ => h_.1))) (Kd.R_base ho0) hb); have n3_ := asd (Kd.R_elder' (upR <| (Kd.R_mono (Kd.R_far (p := ⟨gb123, 1, none⟩) (Kd.R_far (p := ⟨gb123, 0, none⟩) (Kd.R_types HO122.out BK123.out (by decide)) (fun _ hk => hk.2) (.int .i64 t119)) (fun _ hk => hk.2) (.slice Ao52 t120.length co52)) (fun _ h_ => h_.1))) (Kd.R_base ho0) hb); have n4_ := asd (Kd.R_lower (Kd.R_new' (Kd.R_new' (Kd.R_new' (Kd.R_new' ho0 (Kd.R_lt (upR <| (Kd.R_mono (Kd.R_far (p := ⟨gb123, 1, none⟩) (Kd.R_far (p := ⟨gb123, 0, none⟩) (Kd.R_types HO108.out BK123.out (by decide)) (fun _ hk => hk.2) (.int .i64 t119)) (fun _ hk => hk.2) (.slice Ao52 t120.length co52)) (fun _ h_ => h_.1))))) (Kd.R_lt (upR <| (Kd.R_mono (Kd.R_far (p := ⟨gb123, 1, none⟩) (Kd.R_far (p := ⟨gb123, 0, none⟩) (Kd.R_types HO112.out BK123.out (by decide)) (fun _ hk => hk.2) (.int .i64 t119)) (fun _ hk => hk.2) (.slice Ao52 t120.length co52)) (fun _ h_ => h_.1))))) (Kd.R_lt (upR <| (Kd.R_mono (Kd.R_far (p := ⟨gb123, 1, none⟩) (Kd.R_far (p := ⟨gb123, 0, none⟩) (Kd.R_types HO116.out BK123.out (by decide)) (fun _ hk => hk.2) (.int .i64 t119)) (fun _ hk => hk.2) (.slice Ao52 t120.length co52)) (fun _ h_ => h_.1))))) (Kd.R_lt (upR <| (Kd.R_mono (Kd.R_far (p := ⟨gb123, 1, none⟩) (Kd.R_far (p := ⟨gb123, 0, none⟩) (Kd.R_types HO122.out BK123.out (by decide)) (fun _ hk => hk.2) (.int .i64 t119)) (fun _ hk => hk.2) (.slice Ao52 t120.length co52)) (fun _ h_ => h_.1))))) (below_size (by repeat (first | (with_reducible first | exact HB.out | apply below_alloc | apply pw_below_drewN | apply below_drew1 | refine below_set ?_ GE101.out | refine below_set ?_ GE102.out | refine below_set ?_ GE118.out | refine below_set ?_ GE123.out) | exact HB.out)))); have n5_ := asd (blk_below (g := gb101) (o := .cells #[.int .i64 a0_0, .slice A0_1 l0_1.length c0_1] 24 (0, 0)) (by (with_reducible repeat (first | refine blk_drewN ?_ _ | refine blk_drew ?_ | refine blk_alloc ?_ _)); refine blk_far ?_ NB101_123.out _; (with_reducible repeat (first | refine blk_drewN ?_ _ | refine blk_drew ?_ | refine blk_alloc ?_ _)); refine blk_far ?_ NB101_123.out _; (with_reducible repeat (first | refine blk_drewN ?_ _ | refine blk_drew ?_ | refine blk_alloc ?_ _)); exact BK101.out) hb); have n6_ := asd (blk_below (g := gb102) (o := .cells #[.int .i64 a1_0, .slice A1_1 l1_1.length c1_1] 24 (0, 0)) (by (with_reducible repeat (first | refine blk_drewN ?_ _ | refine blk_drew ?_ | refine blk_alloc ?_ _)); refine blk_far ?_ NB102_123.out _; (with_reducible repeat (first | refine blk_drewN ?_ _ | refine blk_drew ?_ | refine blk_alloc ?_ _)); refine blk_far ?_ NB102_123.out _; (with_reducible repeat (first | refine blk_drewN ?_ _ | refine blk_drew ?_ | refine blk_alloc ?_ _)); exact BK102.out) hb); have n7_ := asd (blk_below (g := gb118) (o := .cells #[.int .i64 t113, .slice Ao42 t114.length co42] 26 (0, 0)) (by (with_reducible repeat (first | refine blk_drewN ?_ _ | refine blk_drew ?_ | refine blk_alloc ?_ _)); refine blk_far ?_ NB118_123.out _; (with_reducible repeat (first | refine blk_drewN ?_ _ | refine blk_drew ?_ | refine blk_alloc ?_ _)); refine blk_far ?_ NB118_123.out _; (with_reducible repeat (first | refine blk_drewN ?_ _ | refine blk_drew ?_ | refine blk_alloc ?_ _)); exact BK118.out) hb); have n8_ := asd (blk_below (g := gb123) (o := .cells #[.int .i64 t119, .slice Ao52 t120.length co52] 26 (0, 0)) (by (with_reducible repeat (first | refine blk_drewN ?_ _ | refine blk_drew ?_ | refine blk_alloc ?_ _)); refine blk_put (cs := #[.int .i64 t119, .slice none 0 0]) ?_ 1 _ rfl; (with_reducible repeat (first | refine blk_drewN ?_ _ | refine blk_drew ?_ | refine blk_alloc ?_ _)); refine blk_put (cs := #[.int .i64 0, .slice none 0 0]) ?_ 0 _ rfl; (with_reducible repeat (first | refine blk_drewN ?_ _ | refine blk_drew ?_ | refine blk_alloc ?_ _)); exact BK123.out) hb); have n9_ := asd (below_step (by repeat (first | (with_reducible first | exact HB.out | apply below_alloc | apply pw_below_drewN | apply below_drew1 | refine below_set ?_ GE101.out | refine below_set ?_ GE102.out | refine below_set ?_ GE118.out | refine below_set ?_ GE123.out) | exact HB.out)) hb); clear HO108; clear HO112; clear HO116; clear HO122; clear BK101; clear BK102; clear BK118; clear BK123; clear HB; have HO108 := n0_; have HO112 := n1_; have HO116 := n2_; have HO122 := n3_; have HO127 := n4_; have BK101 := n5_; have BK102 := n6_; have BK118 := n7_; have BK123 := n8_; have HB := n9_; clear n0_ n1_ n2_ n3_ n4_ n5_ n6_ n7_ n8_ n9_; (try clear hb); (try clear hb2); (try clear hk); (try clear hi); (try clear ho0)) | ((with_reducible refine gate_dst (N := 9) rfl ?_); refine box_event ?hg (N := 9) ?hd (cs := #[.int .i64 0, .slice none 0 0]) (t := 26) ?hr ?_; (case hd => rfl); (case hg => rfl); (case hr => first | (go_simp; done) | (go_simp; rfl)); intro gb128 hg w56 hbox hb; have n0_ := asd (Kd.R_below (upR <| HO108.out) hb); have n1_ := asd (Kd.R_below (upR <| HO112.out) hb); have n2_ := asd (Kd.R_below (upR <| HO116.out) hb); have n3_ := asd (Kd.R_below (upR <| HO122.out) hb); have n4_ := asd (Kd.R_below (upR <| HO127.out) hb); have n5_ := asd (blk_below (upB BK101.out) hb); have n6_ := asd (blk_below (upB BK102.out) hb); have n7_ := asd (blk_below (upB BK118.out) hb); have n8_ := asd (blk_below (upB BK123.out) hb); have n9_ := asd (below_step (by repeat (first | (with_reducible first | exact HB.out | apply below_alloc | apply pw_below_drewN | apply below_drew1 | refine below_set ?_ GE101.out | refine below_set ?_ GE102.out | refine below_set ?_ GE118.out | refine below_set ?_ GE123.out) | exact HB.out)) hb); have n10_ := asd (hbox); have n11_ := asd ((by rw [hg]; exact (below_size (by repeat (first | (with_reducible first | exact HB.out | apply below_alloc | apply pw_below_drewN | apply below_drew1 | refine below_set ?_ GE101.out | refine below_set ?_ GE102.out | refine below_set ?_ GE118.out | refine below_set ?_ GE123.out) | exact HB.out))) : w.heap.size ≤ gb128)); have n12_ := asd ((by rw [hg]; exact (below_size (by repeat (first | (with_reducible first | exact HB.out | apply below_alloc | apply pw_below_drewN | apply below_drew1 | refine below_set ?_ GE101.out | refine below_set ?_ GE102.out | refine below_set ?_ GE118.out | refine below_set ?_ GE123.out) | exact HB.out))) : w.heap.size ≤ gb128)); have n13_ := asd ((by rw [hg]; exact Nat.ne_of_lt (blk_lt (upB BK101.out)) : gb101 ≠ gb128)); have n14_ := asd ((by rw [hg]; exact Nat.ne_of_gt (blk_lt (upB BK101.out)) : gb128 ≠ gb101)); have n15_ := asd ((by rw [hg]; exact Nat.ne_of_lt (blk_lt (upB BK102.out)) : gb102 ≠ gb128)); have n16_ := asd ((by rw [hg]; exact Nat.ne_of_gt (blk_lt (upB BK102.out)) : gb128 ≠ gb102)); have n17_ := asd ((by rw [hg]; exact Nat.ne_of_lt (blk_lt (upB BK118.out)) : gb118 ≠ gb128)); have n18_ := asd ((by rw [hg]; exact Nat.ne_of_gt (blk_lt (upB BK118.out)) : gb128 ≠ gb118)); have n19_ := asd ((by rw [hg]; exact Nat.ne_of_lt (blk_lt (upB BK123.out)) : gb123 ≠ gb128)); have n20_ := asd ((by rw [hg]; exact Nat.ne_of_gt (blk_lt (upB BK123.out)) : gb128 ≠ gb123)); clear HO108; clear HO112; clear HO116; clear HO122; clear HO127; clear BK101; clear BK102; clear BK118; clear BK123; clear HB; have HO108 := n0_; have HO112 := n1_; have HO116 := n2_; have HO122 := n3_; have HO127 := n4_; have BK101 := n5_; have BK102 := n6_; have BK118 := n7_; have BK123 := n8_; have HB := n9_; have BK128 := n10_; have GW128 := n11_; have GE128 := n12_; have NB101_128 := n13_; have NB128_101 := n14_; have NB102_128 := n15_; have NB128_102 := n16_; have NB118_128 := n17_; have NB128_118 := n18_; have NB123_128 := n19_; have NB128_123 := n20_; clear n0_ n1_ n2_ n3_ n4_ n5_ n6_ n7_ n8_ n9_ n10_ n11_ n12_ n13_ n14_ n15_ n16_ n17_ n18_ n19_ n20_; clear hb hbox hg; have hnb57 := NB128_101.out; have hnc57 := NB101_128.out; have hnb58 := NB128_102.out; have hnc58 := NB102_128.out; have hnb59 := NB128_118.out; have hnc59 := NB118_128.out; have hnb60 := NB128_123.out; have hnc60 := NB123_128.out; have hcz61_0 : w56.cell? ⟨gb128, 0, none⟩ = some (.int .i64 0) := (blk_cell BK128.out 0).trans rfl; have hcz61_1 : w56.cell? ⟨gb128, 1, none⟩ = some (.slice none 0 0) := (blk_cell BK128.out 1).trans rfl; have hfz61_0 := blk_frozen BK128.out 0; have hfz61_1 := blk_frozen BK128.out 1; obtain ⟨Ao62, co62, eo62⟩ := Kd.R_slice HO127.out; subst eo62; have hcz63_0 : w56.cell? ⟨gb123, 0, none⟩ = some (.int .i64 t119) := (blk_cell BK123.out 0).trans rfl; have hcz63_1 : w56.cell? ⟨gb123, 1, none⟩ = some (.slice Ao52 t120.length co52) := (blk_cell BK123.out 1).trans rfl; have hfz63_0 := blk_frozen BK123.out 0; have hfz63_1 := blk_frozen BK123.out 1) | ((with_reducible refine gate_callee (f := 16) rfl ?_); refine goesL_ (some 42) rfl rfl Try.func16 (by kernel_rfl) rfl #[.agg #[.int .i64 t119, .slice Ao52 t120.length co52], .agg #[.int .i64 t124, .slice Ao62 t125.length co62]] rfl (by (try simp only [List.map_toArray, List.map_cons, List.map_nil]); first | done | rfl | (simp only [List.length_drop, List.length_take]; rfl)) ?_; (with_reducible refine (impl_MeetOfSpaces.calls t119 _ _ t120 t124 _ _ t125 t129 t130 t133 _ ?side1 ?side2 ?side3 ?side4 A24.out).mono ?_); (case side1 => refine (Kd.R_reads' (e := 3) (base := w.heap.size) (ok := fun k_ => ((((True ∧ some k_ ≠ (v107 : Value).ownBlock) ∧ some k_ ≠ (v111 : Value).ownBlock) ∧ some k_ ≠ (.slice Ao42 t114.length co42 : Value).ownBlock) ∧ some k_ ≠ (.slice Ao62 t125.length co62 : Value).ownBlock)) (n := t120.length) (c := co52) ?_).2.2; exact (upR <| (Kd.R_mono (Kd.R_far (p := ⟨gb128, 1, none⟩) (Kd.R_far (p := ⟨gb128, 0, none⟩) (Kd.R_types HO122.out BK128.out (by decide)) (fun _ hk => hk.2) (.int .i64 t124)) (fun _ hk => hk.2) (.slice Ao62 t125.length co62)) (fun _ h_ => h_.1)))); (case side2 => exact (Kd.R_reads' HO122.out).2.1); (case side3 => refine (Kd.R_reads' (e := 3) (base := w.heap.size) (ok := fun k_ => ((((True ∧ some k_ ≠ (v107 : Value).ownBlock) ∧ some k_ ≠ (v111 : Value).ownBlock) ∧ some k_ ≠ (.slice Ao42 t114.length co42 : Value).ownBlock) ∧ some k_ ≠ (.slice Ao52 t120.length co52 : Value).ownBlock)) (n := t125.length) (c := co62) ?_).2.2; exact (upR <| (Kd.R_mono (Kd.R_far (p := ⟨gb128, 1, none⟩) (Kd.R_far (p := ⟨gb128, 0, none⟩) (Kd.R_types HO127.out BK128.out (by decide)) (fun _ hk => hk.2) (.int .i64 t124)) (fun _ hk => hk.2) (.slice Ao62 t125.length co62)) (fun _ h_ => h_.1)))); (case side4 => exact (Kd.R_reads' HO127.out).2.1); rintro e w64 ⟨v131, rfl, ho0, hb⟩; refine ⟨_, rfl, ?_⟩; have n0_ := asd (Kd.R_elder' (upR <| (Kd.R_mono (Kd.R_far (p := ⟨gb128, 1, none⟩) (Kd.R_far (p := ⟨gb128, 0, none⟩) (Kd.R_types HO108.out BK128.out (by decide)) (fun _ hk => hk.2) (.int .i64 t124)) (fun _ hk => hk.2) (.slice Ao62 t125.length co62)) (fun _ h_ => h_.1))) (Kd.R_base ho0) hb); have n1_ := asd (Kd.R_elder' (upR <| (Kd.R_mono (Kd.R_far (p := ⟨gb128, 1, none⟩) (Kd.R_far (p := ⟨gb128, 0, none⟩) (Kd.R_types HO112.out BK128.out (by decide)) (fun _ hk => hk.2) (.int .i64 t124)) (fun _ hk => hk.2) (.slice Ao62 t125.length co62)) (fun _ h_ => h_.1))) (Kd.R_base ho0) hb); have n2_ := asd (Kd.R_elder' (upR <| (Kd.R_mono (Kd.R_far (p := ⟨gb128, 1, none⟩) (Kd.R_far (p := ⟨gb128, 0, none⟩) (Kd.R_types HO116.out BK128.out (by decide)) (fun _ hk => hk.2) (.int .i64 t124)) (fun _ hk => hk.2) (.slice Ao62 t125.length co62)) (fun _ h_ => h_.1))) (Kd.R_base ho0) hb); have n3_ := asd (Kd.R_elder' (upR <| (Kd.R_mono (Kd.R_far (p := ⟨gb128, 1, none⟩) (Kd.R_far (p := ⟨gb128, 0, none⟩) (Kd.R_types HO122.out BK128.out (by decide)) (fun _ hk => hk.2) (.int .i64 t124)) (fun _ hk => hk.2) (.slice Ao62 t125.length co62)) (fun _ h_ => h_.1))) (Kd.R_base ho0) hb); have n4_ := asd (Kd.R_elder' (upR <| (Kd.R_mono (Kd.R_far (p := ⟨gb128, 1, none⟩) (Kd.R_far (p := ⟨gb128, 0, none⟩) (Kd.R_types HO127.out BK128.out (by decide)) (fun _ hk => hk.2) (.int .i64 t124)) (fun _ hk => hk.2) (.slice Ao62 t125.length co62)) (fun _ h_ => h_.1))) (Kd.R_base ho0) hb); have n5_ := asd (Kd.R_lower (Kd.R_new' (Kd.R_new' (Kd.R_new' (Kd.R_new' (Kd.R_new' ho0 (Kd.R_lt (upR <| (Kd.R_mono (Kd.R_far (p := ⟨gb128, 1, none⟩) (Kd.R_far (p := ⟨gb128, 0, none⟩) (Kd.R_types HO108.out BK128.out (by decide)) (fun _ hk => hk.2) (.int .i64 t124)) (fun _ hk => hk.2) (.slice Ao62 t125.length co62)) (fun _ h_ => h_.1))))) (Kd.R_lt (upR <| (Kd.R_mono (Kd.R_far (p := ⟨gb128, 1, none⟩) (Kd.R_far (p := ⟨gb128, 0, none⟩) (Kd.R_types HO112.out BK128.out (by decide)) (fun _ hk => hk.2) (.int .i64 t124)) (fun _ hk => hk.2) (.slice Ao62 t125.length co62)) (fun _ h_ => h_.1))))) (Kd.R_lt (upR <| (Kd.R_mono (Kd.R_far (p := ⟨gb128, 1, none⟩) (Kd.R_far (p := ⟨gb128, 0, none⟩) (Kd.R_types HO116.out BK128.out (by decide)) (fun _ hk => hk.2) (.int .i64 t124)) (fun _ hk => hk.2) (.slice Ao62 t125.length co62)) (fun _ h_ => h_.1))))) (Kd.R_lt (upR <| (Kd.R_mono (Kd.R_far (p := ⟨gb128, 1, none⟩) (Kd.R_far (p := ⟨gb128, 0, none⟩) (Kd.R_types HO122.out BK128.out (by decide)) (fun _ hk => hk.2) (.int .i64 t124)) (fun _ hk => hk.2) (.slice Ao62 t125.length co62)) (fun _ h_ => h_.1))))) (Kd.R_lt (upR <| (Kd.R_mono (Kd.R_far (p := ⟨gb128, 1, none⟩) (Kd.R_far (p := ⟨gb128, 0, none⟩) (Kd.R_types HO127.out BK128.out (by decide)) (fun _ hk => hk.2) (.int .i64 t124)) (fun _ hk => hk.2) (.slice Ao62 t125.length co62)) (fun _ h_ => h_.1))))) (below_size (by repeat (first | (with_reducible first | exact HB.out | apply below_alloc | apply pw_below_drewN | apply below_drew1 | refine below_set ?_ GE101.out | refine below_set ?_ GE102.out | refine below_set ?_ GE118.out | refine below_set ?_ GE123.out | refine below_set ?_ GE128.out) | exact HB.out)))); have n6_ := asd (blk_below (g := gb101) (o := .cells #[.int .i64 a0_0, .slice A0_1 l0_1.length c0_1] 24 (0, 0)) (by (with_reducible repeat (first | refine blk_drewN ?_ _ | refine blk_drew ?_ | refine blk_alloc ?_ _)); refine blk_far ?_ NB101_128.out _; (with_reducible repeat (first | refine blk_drewN ?_ _ | refine blk_drew ?_ | refine blk_alloc ?_ _)); refine blk_far ?_ NB101_128.out _; (with_reducible repeat (first | refine blk_drewN ?_ _ | refine blk_drew ?_ | refine blk_alloc ?_ _)); exact BK101.out) hb); have n7_ := asd (blk_below (g := gb102) (o := .cells #[.int .i64 a1_0, .slice A1_1 l1_1.length c1_1] 24 (0, 0)) (by (with_reducible repeat (first | refine blk_drewN ?_ _ | refine blk_drew ?_ | refine blk_alloc ?_ _)); refine blk_far ?_ NB102_128.out _; (with_reducible repeat (first | refine blk_drewN ?_ _ | refine blk_drew ?_ | refine blk_alloc ?_ _)); refine blk_far ?_ NB102_128.out _; (with_reducible repeat (first | refine blk_drewN ?_ _ | refine blk_drew ?_ | refine blk_alloc ?_ _)); exact BK102.out) hb); have n8_ := asd (blk_below (g := gb118) (o := .cells #[.int .i64 t113, .slice Ao42 t114.length co42] 26 (0, 0)) (by (with_reducible repeat (first | refine blk_drewN ?_ _ | refine blk_drew ?_ | refine blk_alloc ?_ _)); refine blk_far ?_ NB118_128.out _; (with_reducible repeat (first | refine blk_drewN ?_ _ | refine blk_drew ?_ | refine blk_alloc ?_ _)); refine blk_far ?_ NB118_128.out _; (with_reducible repeat (first | refine blk_drewN ?_ _ | refine blk_drew ?_ | refine blk_alloc ?_ _)); exact BK118.out) hb); have n9_ := asd (blk_below (g := gb123) (o := .cells #[.int .i64 t119, .slice Ao52 t120.length co52] 26 (0, 0)) (by (with_reducible repeat (first | refine blk_drewN ?_ _ | refine blk_drew ?_ | refine blk_alloc ?_ _)); refine blk_far ?_ NB123_128.out _; (with_reducible repeat (first | refine blk_drewN ?_ _ | refine blk_drew ?_ | refine blk_alloc ?_ _)); refine blk_far ?_ NB123_128.out _; (with_reducible repeat (first | refine blk_drewN ?_ _ | refine blk_drew ?_ | refine blk_alloc ?_ _)); exact BK123.out) hb); have n10_ := asd (blk_below (g := gb128) (o := .cells #[.int .i64 t124, .slice Ao62 t125.length co62] 26 (0, 0)) (by (with_reducible repeat (first | refine blk_drewN ?_ _ | refine blk_drew ?_ | refine blk_alloc ?_ _)); refine blk_put (cs := #[.int .i64 t124, .slice none 0 0]) ?_ 1 _ rfl; (with_reducible repeat (first | refine blk_drewN ?_ _ | refine blk_drew ?_ | refine blk_alloc ?_ _)); refine blk_put (cs := #[.int .i64 0, .slice none 0 0]) ?_ 0 _ rfl; (with_reducible repeat (first | refine blk_drewN ?_ _ | refine blk_drew ?_ | refine blk_alloc ?_ _)); exact BK128.out) hb); have n11_ := asd (below_step (by repeat (first | (with_reducible first | exact HB.out | apply below_alloc | apply pw_below_drewN | apply below_drew1 | refine below_set ?_ GE101.out | refine below_set ?_ GE102.out | refine below_set ?_ GE118.out | refine below_set ?_ GE123.out | refine below_set ?_ GE128.out) | exact HB.out)) hb); clear HO108; clear HO112; clear HO116; clear HO122; clear HO127; clear BK101; clear BK102; clear BK118; clear BK123; clear BK128; clear HB; have HO108 := n0_; have HO112 := n1_; have HO116 := n2_; have HO122 := n3_; have HO127 := n4_; have HO132 := n5_; have BK101 := n6_; have BK102 := n7_; have BK118 := n8_; have BK123 := n9_; have BK128 := n10_; have HB := n11_; clear n0_ n1_ n2_ n3_ n4_ n5_ n6_ n7_ n8_ n9_ n10_ n11_; (try clear hb); (try clear hb2); (try clear hk); (try clear hi); (try clear ho0)) | ((with_reducible refine gate_dst (N := 10) rfl ?_); refine box_event ?hg (N := 10) ?hd (cs := #[.int .i64 0, .slice none 0 0]) (t := 26) ?hr ?_; (case hd => rfl); (case hg => rfl); (case hr => first | (go_simp; done) | (go_simp; rfl)); intro gb134 hg w65 hbox hb; have n0_ := asd (Kd.R_below (upR <| HO108.out) hb); have n1_ := asd (Kd.R_below (upR <| HO112.out) hb); have n2_ := asd (Kd.R_below (upR <| HO116.out) hb); have n3_ := asd (Kd.R_below (upR <| HO122.out) hb); have n4_ := asd (Kd.R_below (upR <| HO127.out) hb); have n5_ := asd (Kd.R_below (upR <| HO132.out) hb); have n6_ := asd (blk_below (upB BK101.out) hb); have n7_ := asd (blk_below (upB BK102.out) hb); have n8_ := asd (blk_below (upB BK118.out) hb); have n9_ := asd (blk_below (upB BK123.out) hb); have n10_ := asd (blk_below (upB BK128.out) hb); have n11_ := asd (below_step (by repeat (first | (with_reducible first | exact HB.out | apply below_alloc | apply pw_below_drewN | apply below_drew1 | refine below_set ?_ GE101.out | refine below_set ?_ GE102.out | refine below_set ?_ GE118.out | refine below_set ?_ GE123.out | refine below_set ?_ GE128.out) | exact HB.out)) hb); have n12_ := asd (hbox); have n13_ := asd ((by rw [hg]; exact (below_size (by repeat (first | (with_reducible first | exact HB.out | apply below_alloc | apply pw_below_drewN | apply below_drew1 | refine below_set ?_ GE101.out | refine below_set ?_ GE102.out | refine below_set ?_ GE118.out | refine below_set ?_ GE123.out | refine below_set ?_ GE128.out) | exact HB.out))) : w.heap.size ≤ gb134)); have n14_ := asd ((by rw [hg]; exact (below_size (by repeat (first | (with_reducible first | exact HB.out | apply below_alloc | apply pw_below_drewN | apply below_drew1 | refine below_set ?_ GE101.out | refine below_set ?_ GE102.out | refine below_set ?_ GE118.out | refine below_set ?_ GE123.out | refine below_set ?_ GE128.out) | exact HB.out))) : w.heap.size ≤ gb134)); have n15_ := asd ((by rw [hg]; exact Nat.ne_of_lt (blk_lt (upB BK101.out)) : gb101 ≠ gb134)); have n16_ := asd ((by rw [hg]; exact Nat.ne_of_gt (blk_lt (upB BK101.out)) : gb134 ≠ gb101)); have n17_ := asd ((by rw [hg]; exact Nat.ne_of_lt (blk_lt (upB BK102.out)) : gb102 ≠ gb134)); have n18_ := asd ((by rw [hg]; exact Nat.ne_of_gt (blk_lt (upB BK102.out)) : gb134 ≠ gb102)); have n19_ := asd ((by rw [hg]; exact Nat.ne_of_lt (blk_lt (upB BK118.out)) : gb118 ≠ gb134)); have n20_ := asd ((by rw [hg]; exact Nat.ne_of_gt (blk_lt (upB BK118.out)) : gb134 ≠ gb118)); have n21_ := asd ((by rw [hg]; exact Nat.ne_of_lt (blk_lt (upB BK123.out)) : gb123 ≠ gb134)); have n22_ := asd ((by rw [hg]; exact Nat.ne_of_gt (blk_lt (upB BK123.out)) : gb134 ≠ gb123)); have n23_ := asd ((by rw [hg]; exact Nat.ne_of_lt (blk_lt (upB BK128.out)) : gb128 ≠ gb134)); have n24_ := asd ((by rw [hg]; exact Nat.ne_of_gt (blk_lt (upB BK128.out)) : gb134 ≠ gb128)); clear HO108; clear HO112; clear HO116; clear HO122; clear HO127; clear HO132; clear BK101; clear BK102; clear BK118; clear BK123; clear BK128; clear HB; have HO108 := n0_; have HO112 := n1_; have HO116 := n2_; have HO122 := n3_; have HO127 := n4_; have HO132 := n5_; have BK101 := n6_; have BK102 := n7_; have BK118 := n8_; have BK123 := n9_; have BK128 := n10_; have HB := n11_; have BK134 := n12_; have GW134 := n13_; have GE134 := n14_; have NB101_134 := n15_; have NB134_101 := n16_; have NB102_134 := n17_; have NB134_102 := n18_; have NB118_134 := n19_; have NB134_118 := n20_; have NB123_134 := n21_; have NB134_123 := n22_; have NB128_134 := n23_; have NB134_128 := n24_; clear n0_ n1_ n2_ n3_ n4_ n5_ n6_ n7_ n8_ n9_ n10_ n11_ n12_ n13_ n14_ n15_ n16_ n17_ n18_ n19_ n20_ n21_ n22_ n23_ n24_; clear hb hbox hg; have hnb66 := NB134_101.out; have hnc66 := NB101_134.out; have hnb67 := NB134_102.out; have hnc67 := NB102_134.out; have hnb68 := NB134_118.out; have hnc68 := NB118_134.out; have hnb69 := NB134_123.out; have hnc69 := NB123_134.out; have hnb70 := NB134_128.out; have hnc70 := NB128_134.out; have hcz71_0 : w65.cell? ⟨gb134, 0, none⟩ = some (.int .i64 0) := (blk_cell BK134.out 0).trans rfl; have hcz71_1 : w65.cell? ⟨gb134, 1, none⟩ = some (.slice none 0 0) := (blk_cell BK134.out 1).trans rfl; have hfz71_0 := blk_frozen BK134.out 0; have hfz71_1 := blk_frozen BK134.out 1; obtain ⟨Ao72, co72, eo72⟩ := Kd.R_slice HO132.out; subst eo72))
   (try simp only [Act.put, List.setIfInBounds_toArray, List.set_cons_zero, List.set_cons_succ])
   go_cut [53] (fun v53 wc => ∃ (kq : Nat) (x53_24 : Bool), v53 = .bool x53_24 ∧ Aside0 (laws_FnExactMeetOfSpaces.j0 kq t117 t133 x53_24 a0_0 l0_1 a1_0 l1_1 t113 t114 t119 t120 t124 t125 t129 t130 = some r) ∧ Aside0 (kq ≤ k) ∧ Aside0 (Kd.R (Kd.int .i64) 3 wc w.heap.size (fun k_ => some k_ ≠ ((.slice Ao52 t120.length co52) : Value).ownBlock ∧ some k_ ≠ ((.slice Ao62 t125.length co62) : Value).ownBlock ∧ some k_ ≠ ((.slice Ao72 t130.length co72) : Value).ownBlock) (.slice Ao42 t114.length co42) t114) ∧ Aside0 (Kd.R (Kd.int .i64) 3 wc w.heap.size (fun k_ => some k_ ≠ ((.slice Ao42 t114.length co42) : Value).ownBlock ∧ some k_ ≠ ((.slice Ao62 t125.length co62) : Value).ownBlock ∧ some k_ ≠ ((.slice Ao72 t130.length co72) : Value).ownBlock) (.slice Ao52 t120.length co52) t120) ∧ Aside0 (Kd.R (Kd.int .i64) 3 wc w.heap.size (fun k_ => some k_ ≠ ((.slice Ao42 t114.length co42) : Value).ownBlock ∧ some k_ ≠ ((.slice Ao52 t120.length co52) : Value).ownBlock ∧ some k_ ≠ ((.slice Ao72 t130.length co72) : Value).ownBlock) (.slice Ao62 t125.length co62) t125) ∧ Aside0 (Kd.R (Kd.int .i64) 3 wc w.heap.size (fun k_ => some k_ ≠ ((.slice Ao42 t114.length co42) : Value).ownBlock ∧ some k_ ≠ ((.slice Ao52 t120.length co52) : Value).ownBlock ∧ some k_ ≠ ((.slice Ao62 t125.length co62) : Value).ownBlock) (.slice Ao72 t130.length co72) t130) ∧ Aside0 (wc.heap[gb101]? = some (.cells #[.int .i64 a0_0, (.slice A0_1 l0_1.length c0_1)] 24 (0, 0))) ∧ Aside0 (wc.heap[gb102]? = some (.cells #[.int .i64 a1_0, (.slice A1_1 l1_1.length c1_1)] 24 (0, 0))) ∧ Aside0 (wc.heap[gb118]? = some (.cells #[.int .i64 t113, (.slice Ao42 t114.length co42)] 26 (0, 0))) ∧ Aside0 (wc.heap[gb123]? = some (.cells #[.int .i64 t119, (.slice Ao52 t120.length co52)] 26 (0, 0))) ∧ Aside0 (wc.heap[gb128]? = some (.cells #[.int .i64 t124, (.slice Ao62 t125.length co62)] 26 (0, 0))) ∧ Aside0 (wc.heap[gb134]? = some (.cells #[.int .i64 t129, (.slice Ao72 t130.length co72)] 26 (0, 0))) ∧ Aside0 (Below w.heap.size w wc))
   case first =>
    have H := HC25.out
    clear HC25
    replace H := Option.bind_eq_some_iff.mp H
    obtain ⟨t135, A730, H⟩ := H
    replace H : (if t135 = true then (laws_FnExactMeetOfSpaces.j0 k t117 t133 (t133 != t117) a0_0 l0_1 a1_0 l1_1 t113 t114 t119 t120 t124 t125 t129 t130) else (laws_FnExactMeetOfSpaces.j0 k t117 t133 true a0_0 l0_1 a1_0 l1_1 t113 t114 t119 t120 t124 t125 t129 t130)) = some r := H
    have A73 := asd A730
    clear A730
    by_cases c74 : t135 = true
    ·
     subst c74
     have H1 : (laws_FnExactMeetOfSpaces.j0 k t117 t133 (t133 != t117) a0_0 l0_1 a1_0 l1_1 t113 t114 t119 t120 t124 t125 t129 t130) = some r := by rw [if_pos rfl] at H; exact H
     clear H
     have H := H1
     clear H1
     have H' := asd H
     clear H
     have hnb75 := NB134_101.out
     have hnc75 := NB101_134.out
     have hnb76 := NB134_102.out
     have hnc76 := NB102_134.out
     have hnb77 := NB134_118.out
     have hnc77 := NB118_134.out
     have hnb78 := NB134_123.out
     have hnc78 := NB123_134.out
     have hnb79 := NB134_128.out
     have hnc79 := NB128_134.out
     have hcz80_0 : w65.cell? ⟨gb134, 0, none⟩ = some (.int .i64 0) := (blk_cell BK134.out 0).trans rfl
     have hcz80_1 : w65.cell? ⟨gb134, 1, none⟩ = some (.slice none 0 0) := (blk_cell BK134.out 1).trans rfl
     have hfz80_0 := blk_frozen BK134.out 0
     have hfz80_1 := blk_frozen BK134.out 1
     have hnb81 := NB118_101.out
     have hnc81 := NB101_118.out
     have hnb82 := NB118_102.out
     have hnc82 := NB102_118.out
     have hnb83 := NB118_123.out
     have hnc83 := NB123_118.out
     have hnb84 := NB118_128.out
     have hnc84 := NB128_118.out
     have hcz85_0 : w65.cell? ⟨gb118, 0, none⟩ = some (.int .i64 t113) := (blk_cell BK118.out 0).trans rfl
     have hcz85_1 : w65.cell? ⟨gb118, 1, none⟩ = some (.slice Ao42 t114.length co42) := (blk_cell BK118.out 1).trans rfl
     have hfz85_0 := blk_frozen BK118.out 0
     have hfz85_1 := blk_frozen BK118.out 1
     go_wp2_with (first | ((with_reducible refine gate_callee (f := 17) rfl ?_); refine goesL_ (some 47) rfl rfl Try.func17 (by kernel_rfl) rfl #[.agg #[.int .i64 t129, .slice Ao72 t130.length co72], .agg #[.int .i64 t113, .slice Ao42 t114.length co42]] rfl (by (try simp only [List.map_toArray, List.map_cons, List.map_nil]); first | done | rfl | (simp only [List.length_drop, List.length_take]; rfl)) ?_; (with_reducible refine (laws_eqSpace.calls k t129 _ _ t130 t113 _ _ t114 true _ ?side1 ?side2 ?side3 ?side4 A73.out).mono ?_); (case side1 => refine (Kd.R_reads' (e := 3) (base := w.heap.size) (ok := fun k_ => (((((True ∧ some k_ ≠ (v107 : Value).ownBlock) ∧ some k_ ≠ (v111 : Value).ownBlock) ∧ some k_ ≠ (.slice Ao42 t114.length co42 : Value).ownBlock) ∧ some k_ ≠ (.slice Ao52 t120.length co52 : Value).ownBlock) ∧ some k_ ≠ (.slice Ao62 t125.length co62 : Value).ownBlock)) (n := t130.length) (c := co72) ?_).2.2; exact (upR <| (Kd.R_mono (Kd.R_far (p := ⟨gb134, 1, none⟩) (Kd.R_far (p := ⟨gb134, 0, none⟩) (Kd.R_types HO132.out BK134.out (by decide)) (fun _ hk => hk.2) (.int .i64 t129)) (fun _ hk => hk.2) (.slice Ao72 t130.length co72)) (fun _ h_ => h_.1)))); (case side2 => exact (Kd.R_reads' HO132.out).2.1); (case side3 => refine (Kd.R_reads' (e := 3) (base := w.heap.size) (ok := fun k_ => ((((some k_ ≠ (v107 : Value).ownBlock ∧ some k_ ≠ (v111 : Value).ownBlock) ∧ some k_ ≠ (.slice Ao52 t120.length co52 : Value).ownBlock) ∧ some k_ ≠ (.slice Ao62 t125.length co62 : Value).ownBlock) ∧ some k_ ≠ (.slice Ao72 t130.length co72 : Value).ownBlock)) (n := t114.length) (c := co42) ?_).2.2; exact (upR <| (Kd.R_mono (Kd.R_far (p := ⟨gb134, 1, none⟩) (Kd.R_far (p := ⟨gb134, 0, none⟩) (Kd.R_types HO116.out BK134.out (by decide)) (fun _ hk => hk.2) (.int .i64 t129)) (fun _ hk => hk.2) (.slice Ao72 t130.length co72)) (fun _ h_ => h_.1)))); (case side4 => exact (Kd.R_reads' HO116.out).2.1); rintro e w86 ⟨rfl, hb⟩; refine ⟨_, rfl, ?_⟩; have n0_ := asd (Kd.R_below (upR <| (Kd.R_mono (Kd.R_far (p := ⟨gb134, 1, none⟩) (Kd.R_far (p := ⟨gb134, 0, none⟩) (Kd.R_types HO108.out BK134.out (by decide)) (fun _ hk => hk.2) (.int .i64 t129)) (fun _ hk => hk.2) (.slice Ao72 t130.length co72)) (fun _ h_ => h_.1))) hb); have n1_ := asd (Kd.R_below (upR <| (Kd.R_mono (Kd.R_far (p := ⟨gb134, 1, none⟩) (Kd.R_far (p := ⟨gb134, 0, none⟩) (Kd.R_types HO112.out BK134.out (by decide)) (fun _ hk => hk.2) (.int .i64 t129)) (fun _ hk => hk.2) (.slice Ao72 t130.length co72)) (fun _ h_ => h_.1))) hb); have n2_ := asd (Kd.R_below (upR <| (Kd.R_mono (Kd.R_far (p := ⟨gb134, 1, none⟩) (Kd.R_far (p := ⟨gb134, 0, none⟩) (Kd.R_types HO116.out BK134.out (by decide)) (fun _ hk => hk.2) (.int .i64 t129)) (fun _ hk => hk.2) (.slice Ao72 t130.length co72)) (fun _ h_ => h_.1))) hb); have n3_ := asd (Kd.R_below (upR <| (Kd.R_mono (Kd.R_far (p := ⟨gb134, 1, none⟩) (Kd.R_far (p := ⟨gb134, 0, none⟩) (Kd.R_types HO122.out BK134.out (by decide)) (fun _ hk => hk.2) (.int .i64 t129)) (fun _ hk => hk.2) (.slice Ao72 t130.length co72)) (fun _ h_ => h_.1))) hb); have n4_ := asd (Kd.R_below (upR <| (Kd.R_mono (Kd.R_far (p := ⟨gb134, 1, none⟩) (Kd.R_far (p := ⟨gb134, 0, none⟩) (Kd.R_types HO127.out BK134.out (by decide)) (fun _ hk => hk.2) (.int .i64 t129)) (fun _ hk => hk.2) (.slice Ao72 t130.length co72)) (fun _ h_ => h_.1))) hb); have n5_ := asd (Kd.R_below (upR <| (Kd.R_mono (Kd.R_far (p := ⟨gb134, 1, none⟩) (Kd.R_far (p := ⟨gb134, 0, none⟩) (Kd.R_types HO132.out BK134.out (by decide)) (fun _ hk => hk.2) (.int .i64 t129)) (fun _ hk => hk.2) (.slice Ao72 t130.length co72)) (fun _ h_ => h_.1))) hb); have n6_ := asd (blk_below (g := gb101) (o := .cells #[.int .i64 a0_0, .slice A0_1 l0_1.length c0_1] 24 (0, 0)) (by (with_reducible repeat (first | refine blk_drewN ?_ _ | refine blk_drew ?_ | refine blk_alloc ?_ _)); refine blk_far ?_ NB101_134.out _; (with_reducible repeat (first | refine blk_drewN ?_ _ | refine blk_drew ?_ | refine blk_alloc ?_ _)); refine blk_far ?_ NB101_134.out _; (with_reducible repeat (first | refine blk_drewN ?_ _ | refine blk_drew ?_ | refine blk_alloc ?_ _)); exact BK101.out) hb); have n7_ := asd (blk_below (g := gb102) (o := .cells #[.int .i64 a1_0, .slice A1_1 l1_1.length c1_1] 24 (0, 0)) (by (with_reducible repeat (first | refine blk_drewN ?_ _ | refine blk_drew ?_ | refine blk_alloc ?_ _)); refine blk_far ?_ NB102_134.out _; (with_reducible repeat (first | refine blk_drewN ?_ _ | refine blk_drew ?_ | refine blk_alloc ?_ _)); refine blk_far ?_ NB102_134.out _; (with_reducible repeat (first | refine blk_drewN ?_ _ | refine blk_drew ?_ | refine blk_alloc ?_ _)); exact BK102.out) hb); have n8_ := asd (blk_below (g := gb118) (o := .cells #[.int .i64 t113, .slice Ao42 t114.length co42] 26 (0, 0)) (by (with_reducible repeat (first | refine blk_drewN ?_ _ | refine blk_drew ?_ | refine blk_alloc ?_ _)); refine blk_far ?_ NB118_134.out _; (with_reducible repeat (first | refine blk_drewN ?_ _ | refine blk_drew ?_ | refine blk_alloc ?_ _)); refine blk_far ?_ NB118_134.out _; (with_reducible repeat (first | refine blk_drewN ?_ _ | refine blk_drew ?_ | refine blk_alloc ?_ _)); exact BK118.out) hb); have n9_ := asd (blk_below (g := gb123) (o := .cells #[.int .i64 t119, .slice Ao52 t120.length co52] 26 (0, 0)) (by (with_reducible repeat (first | refine blk_drewN ?_ _ | refine blk_drew ?_ | refine blk_alloc ?_ _)); refine blk_far ?_ NB123_134.out _; (with_reducible repeat (first | refine blk_drewN ?_ _ | refine blk_drew ?_ | refine blk_alloc ?_ _)); refine blk_far ?_ NB123_134.out _; (with_reducible repeat (first | refine blk_drewN ?_ _ | refine blk_drew ?_ | refine blk_alloc ?_ _)); exact BK123.out) hb); have n10_ := asd (blk_below (g := gb128) (o := .cells #[.int .i64 t124, .slice Ao62 t125.length co62] 26 (0, 0)) (by (with_reducible repeat (first | refine blk_drewN ?_ _ | refine blk_drew ?_ | refine blk_alloc ?_ _)); refine blk_far ?_ NB128_134.out _; (with_reducible repeat (first | refine blk_drewN ?_ _ | refine blk_drew ?_ | refine blk_alloc ?_ _)); refine blk_far ?_ NB128_134.out _; (with_reducible repeat (first | refine blk_drewN ?_ _ | refine blk_drew ?_ | refine blk_alloc ?_ _)); exact BK128.out) hb); have n11_ := asd (blk_below (g := gb134) (o := .cells #[.int .i64 t129, .slice Ao72 t130.length co72] 26 (0, 0)) (by (with_reducible repeat (first | refine blk_drewN ?_ _ | refine blk_drew ?_ | refine blk_alloc ?_ _)); refine blk_put (cs := #[.int .i64 t129, .slice none 0 0]) ?_ 1 _ rfl; (with_reducible repeat (first | refine blk_drewN ?_ _ | refine blk_drew ?_ | refine blk_alloc ?_ _)); refine blk_put (cs := #[.int .i64 0, .slice none 0 0]) ?_ 0 _ rfl; (with_reducible repeat (first | refine blk_drewN ?_ _ | refine blk_drew ?_ | refine blk_alloc ?_ _)); exact BK134.out) hb); have n12_ := asd (below_step (by repeat (first | (with_reducible first | exact HB.out | apply below_alloc | apply pw_below_drewN | apply below_drew1 | refine below_set ?_ GE101.out | refine below_set ?_ GE102.out | refine below_set ?_ GE118.out | refine below_set ?_ GE123.out | refine below_set ?_ GE128.out | refine below_set ?_ GE134.out) | exact HB.out)) hb); clear HO108; clear HO112; clear HO116; clear HO122; clear HO127; clear HO132; clear BK101; clear BK102; clear BK118; clear BK123; clear BK128; clear BK134; clear HB; have HO108 := n0_; have HO112 := n1_; have HO116 := n2_; have HO122 := n3_; have HO127 := n4_; have HO132 := n5_; have BK101 := n6_; have BK102 := n7_; have BK118 := n8_; have BK123 := n9_; have BK128 := n10_; have BK134 := n11_; have HB := n12_; clear n0_ n1_ n2_ n3_ n4_ n5_ n6_ n7_ n8_ n9_ n10_ n11_ n12_; (try clear hb); (try clear hb2); (try clear hk); (try clear hi)))
     go_meet
     case rel => exact ⟨_, ((t133 != t117)), (by first | rfl | (simp; done) | (simp [*]; done)), H', ⟨by first | omega | exact Nat.le_refl _⟩, ⟨by (with_reducible repeat (first | apply Kd.R_alloc | apply Kd.R_drewN | apply Kd.R_drew)); exact Kd.R_mono HO116.out (fun _ hk => ⟨hk.1.1.2, ⟨hk.1.2, hk.2⟩⟩)⟩, ⟨by (with_reducible repeat (first | apply Kd.R_alloc | apply Kd.R_drewN | apply Kd.R_drew)); exact Kd.R_mono HO122.out (fun _ hk => ⟨hk.1.1.2, ⟨hk.1.2, hk.2⟩⟩)⟩, ⟨by (with_reducible repeat (first | apply Kd.R_alloc | apply Kd.R_drewN | apply Kd.R_drew)); exact Kd.R_mono HO127.out (fun _ hk => ⟨hk.1.1.2, ⟨hk.1.2, hk.2⟩⟩)⟩, ⟨by (with_reducible repeat (first | apply Kd.R_alloc | apply Kd.R_drewN | apply Kd.R_drew)); exact Kd.R_mono HO132.out (fun _ hk => ⟨hk.1.1.2, ⟨hk.1.2, hk.2⟩⟩)⟩, ⟨by (with_reducible repeat (first | refine blk_drewN ?_ _ | refine blk_drew ?_ | refine blk_alloc ?_ _)); exact BK101.out⟩, ⟨by (with_reducible repeat (first | refine blk_drewN ?_ _ | refine blk_drew ?_ | refine blk_alloc ?_ _)); exact BK102.out⟩, ⟨by (with_reducible repeat (first | refine blk_drewN ?_ _ | refine blk_drew ?_ | refine blk_alloc ?_ _)); exact BK118.out⟩, ⟨by (with_reducible repeat (first | refine blk_drewN ?_ _ | refine blk_drew ?_ | refine blk_alloc ?_ _)); exact BK123.out⟩, ⟨by (with_reducible repeat (first | refine blk_drewN ?_ _ | refine blk_drew ?_ | refine blk_alloc ?_ _)); exact BK128.out⟩, ⟨by (with_reducible repeat (first | refine blk_drewN ?_ _ | refine blk_drew ?_ | refine blk_alloc ?_ _)); exact BK134.out⟩, ⟨by repeat (first | (with_reducible first | exact HB.out | apply below_alloc | apply pw_below_drewN | apply below_drew1 | refine below_set ?_ GE101.out | refine below_set ?_ GE102.out | refine below_set ?_ GE118.out | refine below_set ?_ GE123.out | refine below_set ?_ GE128.out | refine below_set ?_ GE134.out) | exact HB.out)⟩⟩
    ·
     replace c74 := Bool.eq_false_iff.mpr c74
     subst c74
     have H1 : (laws_FnExactMeetOfSpaces.j0 k t117 t133 true a0_0 l0_1 a1_0 l1_1 t113 t114 t119 t120 t124 t125 t129 t130) = some r := by rw [if_neg (show ¬ (false = true) by decide)] at H; exact H
     clear H
     have H := H1
     clear H1
     rcases k with _ | kk_
     ·
      exact absurd H (by simp [laws_FnExactMeetOfSpaces.j0])
     ·
      simp only [laws_FnExactMeetOfSpaces.j0] at H
      rw [if_pos trivial] at H
      exact absurd ((Option.some.inj H).trans hT_.out) (by decide)
   case rest =>
    clear HC25
    try clear c1
    try clear p2
    try clear c4
    try clear c5
    try clear c6
    try clear c7
    try clear c8
    try clear c14
    try clear c15
    try clear c16
    try clear c17
    try clear c44
    try clear c48
    try clear c49
    try clear c50
    try clear c53
    try clear c57
    try clear c58
    try clear c59
    try clear c60
    try clear c66
    try clear c67
    try clear c68
    try clear c69
    try clear c70
    try clear c74
    try clear c75
    try clear c76
    try clear c77
    try clear c78
    try clear c79
    try clear c81
    try clear c82
    try clear c83
    try clear c84
    try clear hcz45_0
    try clear hcz45_1
    try clear hcz51_0
    try clear hcz51_1
    try clear hcz54_0
    try clear hcz54_1
    try clear hcz61_0
    try clear hcz61_1
    try clear hcz63_0
    try clear hcz63_1
    try clear hcz71_0
    try clear hcz71_1
    try clear hcz80_0
    try clear hcz80_1
    try clear hcz85_0
    try clear hcz85_1
    try clear hfz45_0
    try clear hfz45_1
    try clear hfz51_0
    try clear hfz51_1
    try clear hfz54_0
    try clear hfz54_1
    try clear hfz61_0
    try clear hfz61_1
    try clear hfz63_0
    try clear hfz63_1
    try clear hfz71_0
    try clear hfz71_1
    try clear hfz80_0
    try clear hfz80_1
    try clear hfz85_0
    try clear hfz85_1
    obtain ⟨kq, x53_24, rfl, HA, HJ24, HO_119001, HO_124001, HO_129001, HO_135001, BK101, BK102, BK118, BK123, BK128, BK134, HB⟩ := hcut
    cases kq with
    | zero => exact absurd HA.out (by simp [laws_FnExactMeetOfSpaces.j0])
    | succ kj24 =>
     have H := HA.out
     clear HA
     simp only [laws_FnExactMeetOfSpaces.j0] at H
     by_cases c87 : x53_24 = true
     ·
      subst c87
      have H1 : (some false) = some r := by rw [if_pos rfl] at H; exact H
      clear H
      have H := H1
      clear H1
      exact absurd ((Option.some.inj H).trans hT_.out) (by decide)
     ·
      replace c87 := Bool.eq_false_iff.mpr c87
      subst c87
      have H1 : ((laws_toSpace.f kj24 a0_0 l0_1).bind fun bt136 => ((laws_eqSpace.f kj24 t119 t120 bt136.1 bt136.2).bind fun t140 => (if t140 = true then ((laws_toSpace.f kj24 a1_0 l1_1).bind fun bt141 => ((laws_eqSpace.f kj24 t124 t125 bt141.1 bt141.2).bind fun t145 => (if t145 = true then ((laws_markSpace.f kj24 t119 t120 1).bind fun bt146 => ((laws_markSpace.f kj24 t124 t125 bt146.1).bind fun bt148 => (if bt148.1 < 0 then (laws_FnExactMeetOfSpaces.j1 kj24 t117 true a0_0 l0_1 a1_0 l1_1 t113 t114 t129 t130) else ((laws_eqSpace.f kj24 t129 t130 t113 t114).bind fun t150 => (if t150 = true then (laws_FnExactMeetOfSpaces.j1 kj24 t117 (t133 != t117) a0_0 l0_1 a1_0 l1_1 t113 t114 t129 t130) else (laws_FnExactMeetOfSpaces.j1 kj24 t117 true a0_0 l0_1 a1_0 l1_1 t113 t114 t129 t130)))))) else (some false)))) else (some false)))) = some r := by rw [if_neg (show ¬ (false = true) by decide)] at H; exact H
      clear H
      have H := H1
      clear H1
      replace H := Option.bind_eq_some_iff.mp H
      obtain ⟨⟨t136, t137⟩, A880, H⟩ := H
      replace H : ((laws_eqSpace.f kj24 t119 t120 t136 t137).bind fun t140 => (if t140 = true then ((laws_toSpace.f kj24 a1_0 l1_1).bind fun bt141 => ((laws_eqSpace.f kj24 t124 t125 bt141.1 bt141.2).bind fun t145 => (if t145 = true then ((laws_markSpace.f kj24 t119 t120 1).bind fun bt146 => ((laws_markSpace.f kj24 t124 t125 bt146.1).bind fun bt148 => (if bt148.1 < 0 then (laws_FnExactMeetOfSpaces.j1 kj24 t117 true a0_0 l0_1 a1_0 l1_1 t113 t114 t129 t130) else ((laws_eqSpace.f kj24 t129 t130 t113 t114).bind fun t150 => (if t150 = true then (laws_FnExactMeetOfSpaces.j1 kj24 t117 (t133 != t117) a0_0 l0_1 a1_0 l1_1 t113 t114 t129 t130) else (laws_FnExactMeetOfSpaces.j1 kj24 t117 true a0_0 l0_1 a1_0 l1_1 t113 t114 t129 t130)))))) else (some false)))) else (some false))) = some r := H
      have A88 := asd A880
      clear A880
      replace H := Option.bind_eq_some_iff.mp H
      obtain ⟨t140, A890, H⟩ := H
      replace H : (if t140 = true then ((laws_toSpace.f kj24 a1_0 l1_1).bind fun bt141 => ((laws_eqSpace.f kj24 t124 t125 bt141.1 bt141.2).bind fun t145 => (if t145 = true then ((laws_markSpace.f kj24 t119 t120 1).bind fun bt146 => ((laws_markSpace.f kj24 t124 t125 bt146.1).bind fun bt148 => (if bt148.1 < 0 then (laws_FnExactMeetOfSpaces.j1 kj24 t117 true a0_0 l0_1 a1_0 l1_1 t113 t114 t129 t130) else ((laws_eqSpace.f kj24 t129 t130 t113 t114).bind fun t150 => (if t150 = true then (laws_FnExactMeetOfSpaces.j1 kj24 t117 (t133 != t117) a0_0 l0_1 a1_0 l1_1 t113 t114 t129 t130) else (laws_FnExactMeetOfSpaces.j1 kj24 t117 true a0_0 l0_1 a1_0 l1_1 t113 t114 t129 t130)))))) else (some false)))) else (some false)) = some r := H
      have A89 := asd A890
      clear A890
      by_cases c90 : t140 = true
      ·
       subst c90
       have H1 : ((laws_toSpace.f kj24 a1_0 l1_1).bind fun bt141 => ((laws_eqSpace.f kj24 t124 t125 bt141.1 bt141.2).bind fun t145 => (if t145 = true then ((laws_markSpace.f kj24 t119 t120 1).bind fun bt146 => ((laws_markSpace.f kj24 t124 t125 bt146.1).bind fun bt148 => (if bt148.1 < 0 then (laws_FnExactMeetOfSpaces.j1 kj24 t117 true a0_0 l0_1 a1_0 l1_1 t113 t114 t129 t130) else ((laws_eqSpace.f kj24 t129 t130 t113 t114).bind fun t150 => (if t150 = true then (laws_FnExactMeetOfSpaces.j1 kj24 t117 (t133 != t117) a0_0 l0_1 a1_0 l1_1 t113 t114 t129 t130) else (laws_FnExactMeetOfSpaces.j1 kj24 t117 true a0_0 l0_1 a1_0 l1_1 t113 t114 t129 t130)))))) else (some false)))) = some r := by rw [if_pos rfl] at H; exact H
       clear H
       have H := H1
       clear H1
       replace H := Option.bind_eq_some_iff.mp H
       obtain ⟨⟨t141, t142⟩, A910, H⟩ := H
       replace H : ((laws_eqSpace.f kj24 t124 t125 t141 t142).bind fun t145 => (if t145 = true then ((laws_markSpace.f kj24 t119 t120 1).bind fun bt146 => ((laws_markSpace.f kj24 t124 t125 bt146.1).bind fun bt148 => (if bt148.1 < 0 then (laws_FnExactMeetOfSpaces.j1 kj24 t117 true a0_0 l0_1 a1_0 l1_1 t113 t114 t129 t130) else ((laws_eqSpace.f kj24 t129 t130 t113 t114).bind fun t150 => (if t150 = true then (laws_FnExactMeetOfSpaces.j1 kj24 t117 (t133 != t117) a0_0 l0_1 a1_0 l1_1 t113 t114 t129 t130) else (laws_FnExactMeetOfSpaces.j1 kj24 t117 true a0_0 l0_1 a1_0 l1_1 t113 t114 t129 t130)))))) else (some false))) = some r := H
       have A91 := asd A910
       clear A910
       replace H := Option.bind_eq_some_iff.mp H
       obtain ⟨t145, A920, H⟩ := H
       replace H : (if t145 = true then ((laws_markSpace.f kj24 t119 t120 1).bind fun bt146 => ((laws_markSpace.f kj24 t124 t125 bt146.1).bind fun bt148 => (if bt148.1 < 0 then (laws_FnExactMeetOfSpaces.j1 kj24 t117 true a0_0 l0_1 a1_0 l1_1 t113 t114 t129 t130) else ((laws_eqSpace.f kj24 t129 t130 t113 t114).bind fun t150 => (if t150 = true then (laws_FnExactMeetOfSpaces.j1 kj24 t117 (t133 != t117) a0_0 l0_1 a1_0 l1_1 t113 t114 t129 t130) else (laws_FnExactMeetOfSpaces.j1 kj24 t117 true a0_0 l0_1 a1_0 l1_1 t113 t114 t129 t130)))))) else (some false)) = some r := H
       have A92 := asd A920
       clear A920
       by_cases c93 : t145 = true
       ·
        subst c93
        have H1 : ((laws_markSpace.f kj24 t119 t120 1).bind fun bt146 => ((laws_markSpace.f kj24 t124 t125 bt146.1).bind fun bt148 => (if bt148.1 < 0 then (laws_FnExactMeetOfSpaces.j1 kj24 t117 true a0_0 l0_1 a1_0 l1_1 t113 t114 t129 t130) else ((laws_eqSpace.f kj24 t129 t130 t113 t114).bind fun t150 => (if t150 = true then (laws_FnExactMeetOfSpaces.j1 kj24 t117 (t133 != t117) a0_0 l0_1 a1_0 l1_1 t113 t114 t129 t130) else (laws_FnExactMeetOfSpaces.j1 kj24 t117 true a0_0 l0_1 a1_0 l1_1 t113 t114 t129 t130)))))) = some r := by rw [if_pos rfl] at H; exact H
        clear H
        have H := H1
        clear H1
        replace H := Option.bind_eq_some_iff.mp H
        obtain ⟨⟨t146, t147⟩, A940, H⟩ := H
        replace H : ((laws_markSpace.f kj24 t124 t125 t146).bind fun bt148 => (if bt148.1 < 0 then (laws_FnExactMeetOfSpaces.j1 kj24 t117 true a0_0 l0_1 a1_0 l1_1 t113 t114 t129 t130) else ((laws_eqSpace.f kj24 t129 t130 t113 t114).bind fun t150 => (if t150 = true then (laws_FnExactMeetOfSpaces.j1 kj24 t117 (t133 != t117) a0_0 l0_1 a1_0 l1_1 t113 t114 t129 t130) else (laws_FnExactMeetOfSpaces.j1 kj24 t117 true a0_0 l0_1 a1_0 l1_1 t113 t114 t129 t130))))) = some r := H
        have A94 := asd A940
        clear A940
        replace H := Option.bind_eq_some_iff.mp H
        obtain ⟨⟨t148, t149⟩, A950, H⟩ := H
        replace H : (if t148 < 0 then (laws_FnExactMeetOfSpaces.j1 kj24 t117 true a0_0 l0_1 a1_0 l1_1 t113 t114 t129 t130) else ((laws_eqSpace.f kj24 t129 t130 t113 t114).bind fun t150 => (if t150 = true then (laws_FnExactMeetOfSpaces.j1 kj24 t117 (t133 != t117) a0_0 l0_1 a1_0 l1_1 t113 t114 t129 t130) else (laws_FnExactMeetOfSpaces.j1 kj24 t117 true a0_0 l0_1 a1_0 l1_1 t113 t114 t129 t130)))) = some r := H
        have A95 := asd A950
        clear A950
        have HC96 := asd H
        clear H
        try go_wp2
        have n0_ := asd (Kd.R_drew HO_119001.out)
        have n1_ := asd (Kd.R_drew HO_124001.out)
        have n2_ := asd (Kd.R_drew HO_129001.out)
        have n3_ := asd (Kd.R_drew HO_135001.out)
        have n4_ := asd (blk_drew BK101.out)
        have n5_ := asd (blk_drew BK102.out)
        have n6_ := asd (blk_drew BK118.out)
        have n7_ := asd (blk_drew BK123.out)
        have n8_ := asd (blk_drew BK128.out)
        have n9_ := asd (blk_drew BK134.out)
        have n10_ := asd (below_drew1 HB.out)
        clear HO_119001
        clear HO_124001
        clear HO_129001
        clear HO_135001
        clear BK101
        clear BK102
        clear BK118
        clear BK123
        clear BK128
        clear BK134
        clear HB
        have HO_119001 := n0_
        have HO_124001 := n1_
        have HO_129001 := n2_
        have HO_135001 := n3_
        have BK101 := n4_
        have BK102 := n5_
        have BK118 := n6_
        have BK123 := n7_
        have BK128 := n8_
        have BK134 := n9_
        have HB := n10_
        clear n0_ n1_ n2_ n3_ n4_ n5_ n6_ n7_ n8_ n9_ n10_
        refine start_ (n := 5) (S := fun w' => w'.cell? ⟨gb123, 0, none⟩ = some (.int .i64 t119) ∧ w'.cell? ⟨gb123, 1, none⟩ = some (.slice Ao52 t120.length co52) ∧ w'.cell? ⟨gb101, 0, none⟩ = some (.int .i64 a0_0) ∧ w'.cell? ⟨gb101, 1, none⟩ = some (.slice A0_1 l0_1.length c0_1)) (ds := []) #[false, false, false, false, false] (by kernel_rfl) rfl rfl ⟨(blk_cell BK123.out 0).trans rfl, (blk_cell BK123.out 1).trans rfl, (blk_cell BK101.out 0).trans rfl, (blk_cell BK101.out 1).trans rfl⟩ (fun hHeld => ?_)
        generalize wc.drew = w97 at HO_119001 HO_124001 HO_129001 HO_135001 BK101 BK102 BK118 BK123 BK128 BK134 HB hHeld ⊢
        refine take_ (i := 0) (N := some 54) (v := ?_) (a' := ?_) #[true, false, false, false, false] rfl rfl (by kernel_rfl) (fun _ _ _ h => h) (Or.inl ⟨by rfl, ?_⟩) hHeld ?_ ?_
        rotate_left
        ·
         rintro w' ⟨s0, s1, s2, s3⟩
         go_simp
         with_reducible rfl
        rotate_left
        ·
         simp only [Act.put, List.setIfInBounds_toArray, List.set_cons_zero, List.set_cons_succ, i64_w, i32_w]
         rfl
        refine take_ (i := 1) (N := some 55) (v := ?_) (a' := ?_) #[true, true, false, false, false] rfl rfl (by kernel_rfl) (fun _ _ _ h => h) (Or.inl ⟨by rfl, ?_⟩) hHeld ?_ ?_
        rotate_left
        ·
         rintro w' ⟨s0, s1, s2, s3⟩
         go_simp
         with_reducible rfl
        rotate_left
        ·
         simp only [Act.put, List.setIfInBounds_toArray, List.set_cons_zero, List.set_cons_succ, i64_w, i32_w]
         rfl
        refine one_ (i := 2) (N := some 56) #[true, true, true, false, false] rfl rfl (by kernel_rfl) (by decide) (fun K hK => ?_)
        refine goes_ Try.func15 (by kernel_rfl) rfl #[.agg #[.int .i64 a0_0, .slice A0_1 l0_1.length c0_1]] (by rfl) rfl rfl (by (try simp only [List.map_toArray, List.map_cons, List.map_nil]); first | done | rfl | (simp only [List.length_drop, List.length_take]; rfl)) ?_
        with_reducible refine (laws_toSpace.calls kj24 a0_0 _ _ l0_1 t136 t137 _ ?side1 ?side2 A88.out).mono ?_
        (case side1 => repeat (first | exact (Kd.C_below HR0_1.out HB.out) | (with_reducible refine Kd.C_alloc ?_ _) | (with_reducible refine Kd.C_drewN ?_ _) | (with_reducible refine Kd.C_drew ?_)))
        (case side2 => exact HC0_1.out)
        rintro e w98 ⟨v138, rfl, ho0, hb⟩
        refine ⟨_, rfl, ?_⟩
        have n0_ := asd (Kd.R_elder' (upR <| HO_119001.out) (Kd.R_base ho0) hb)
        have n1_ := asd (Kd.R_elder' (upR <| HO_124001.out) (Kd.R_base ho0) hb)
        have n2_ := asd (Kd.R_elder' (upR <| HO_129001.out) (Kd.R_base ho0) hb)
        have n3_ := asd (Kd.R_elder' (upR <| HO_135001.out) (Kd.R_base ho0) hb)
        have n4_ := asd (Kd.R_lower (Kd.R_new' (Kd.R_new' (Kd.R_new' (Kd.R_new' ho0 (Kd.R_lt (upR <| HO_119001.out))) (Kd.R_lt (upR <| HO_124001.out))) (Kd.R_lt (upR <| HO_129001.out))) (Kd.R_lt (upR <| HO_135001.out))) (below_size (by repeat (first | (with_reducible first | exact HB.out | apply below_alloc | apply pw_below_drewN | apply below_drew1 | refine below_set ?_ GE101.out | refine below_set ?_ GE102.out | refine below_set ?_ GE118.out | refine below_set ?_ GE123.out | refine below_set ?_ GE128.out | refine below_set ?_ GE134.out) | exact HB.out))))
        have n5_ := asd (blk_below (upB BK101.out) hb)
        have n6_ := asd (blk_below (upB BK102.out) hb)
        have n7_ := asd (blk_below (upB BK118.out) hb)
        have n8_ := asd (blk_below (upB BK123.out) hb)
        have n9_ := asd (blk_below (upB BK128.out) hb)
        have n10_ := asd (blk_below (upB BK134.out) hb)
        have n11_ := asd (below_step (by repeat (first | (with_reducible first | exact HB.out | apply below_alloc | apply pw_below_drewN | apply below_drew1 | refine below_set ?_ GE101.out | refine below_set ?_ GE102.out | refine below_set ?_ GE118.out | refine below_set ?_ GE123.out | refine below_set ?_ GE128.out | refine below_set ?_ GE134.out) | exact HB.out)) hb)
        clear HO_119001
        clear HO_124001
        clear HO_129001
        clear HO_135001
        clear BK101
        clear BK102
        clear BK118
        clear BK123
        clear BK128
        clear BK134
        clear HB
        have HO_119001 := n0_
        have HO_124001 := n1_
        have HO_129001 := n2_
        have HO_135001 := n3_
        have HO139 := n4_
        have BK101 := n5_
        have BK102 := n6_
        have BK118 := n7_
        have BK123 := n8_
        have BK128 := n9_
        have BK134 := n10_
        have HB := n11_
        clear n0_ n1_ n2_ n3_ n4_ n5_ n6_ n7_ n8_ n9_ n10_ n11_
        (try clear hb)
        (try clear hb2)
        (try clear hk)
        (try clear hi)
        (try clear ho0)
        obtain ⟨Ao99, co99, eo99⟩ := Kd.R_slice HO139.out
        (first | subst eo99 | (injection eo99 with f1_ f2_ f3_; have f4_ := f1_.symm; have f5_ := f3_.symm; clear f1_ f2_ f3_; subst f4_; subst f5_))
        refine hK.out _ _ ⟨(blk_cell BK123.out 0).trans rfl, (blk_cell BK123.out 1).trans rfl, (blk_cell BK101.out 0).trans rfl, (blk_cell BK101.out 1).trans rfl⟩ (fun hHeld => ?_)
        clear hK K
        refine norm_ (a' := ?_) ?_ ?_
        rotate_left
        ·
         show Act.put _ (some 56) _ = _
         simp only [Act.put, List.setIfInBounds_toArray, List.set_cons_zero, List.set_cons_succ, i64_w, i32_w]
         rfl
        refine one_ (i := 3) (N := some 57) #[true, true, true, true, false] rfl rfl (by kernel_rfl) (by decide) (fun K hK => ?_)
        refine goes_ Try.func17 (by kernel_rfl) rfl #[.agg #[.int .i64 t119, .slice Ao52 t120.length co52], .agg #[.int .i64 t136, .slice Ao99 t137.length co99]] (by rfl) rfl rfl (by (try simp only [List.map_toArray, List.map_cons, List.map_nil]); first | done | rfl | (simp only [List.length_drop, List.length_take]; rfl)) ?_
        with_reducible refine (laws_eqSpace.calls kj24 t119 _ _ t120 t136 _ _ t137 true _ ?side1 ?side2 ?side3 ?side4 A89.out).mono ?_
        (case side1 => repeat (first | exact (Kd.R_reads' HO_124001.out).2.2 | (with_reducible refine Kd.C_alloc ?_ _) | (with_reducible refine Kd.C_drewN ?_ _) | (with_reducible refine Kd.C_drew ?_)))
        (case side2 => exact (Kd.R_reads' HO_124001.out).2.1)
        (case side3 => repeat (first | exact (Kd.R_reads' HO139.out).2.2 | (with_reducible refine Kd.C_alloc ?_ _) | (with_reducible refine Kd.C_drewN ?_ _) | (with_reducible refine Kd.C_drew ?_)))
        (case side4 => exact (Kd.R_reads' HO139.out).2.1)
        rintro e w100 ⟨rfl, hb⟩
        refine ⟨_, rfl, ?_⟩
        have n0_ := asd (Kd.R_below (upR <| HO_119001.out) hb)
        have n1_ := asd (Kd.R_below (upR <| HO_124001.out) hb)
        have n2_ := asd (Kd.R_below (upR <| HO_129001.out) hb)
        have n3_ := asd (Kd.R_below (upR <| HO_135001.out) hb)
        have n4_ := asd (Kd.R_below (upR <| HO139.out) hb)
        have n5_ := asd (blk_below (upB BK101.out) hb)
        have n6_ := asd (blk_below (upB BK102.out) hb)
        have n7_ := asd (blk_below (upB BK118.out) hb)
        have n8_ := asd (blk_below (upB BK123.out) hb)
        have n9_ := asd (blk_below (upB BK128.out) hb)
        have n10_ := asd (blk_below (upB BK134.out) hb)
        have n11_ := asd (below_step (by repeat (first | (with_reducible first | exact HB.out | apply below_alloc | apply pw_below_drewN | apply below_drew1 | refine below_set ?_ GE101.out | refine below_set ?_ GE102.out | refine below_set ?_ GE118.out | refine below_set ?_ GE123.out | refine below_set ?_ GE128.out | refine below_set ?_ GE134.out) | exact HB.out)) hb)
        clear HO_119001
        clear HO_124001
        clear HO_129001
        clear HO_135001
        clear HO139
        clear BK101
        clear BK102
        clear BK118
        clear BK123
        clear BK128
        clear BK134
        clear HB
        have HO_119001 := n0_
        have HO_124001 := n1_
        have HO_129001 := n2_
        have HO_135001 := n3_
        have HO139 := n4_
        have BK101 := n5_
        have BK102 := n6_
        have BK118 := n7_
        have BK123 := n8_
        have BK128 := n9_
        have BK134 := n10_
        have HB := n11_
        clear n0_ n1_ n2_ n3_ n4_ n5_ n6_ n7_ n8_ n9_ n10_ n11_
        (try clear hb)
        (try clear hb2)
        (try clear hk)
        (try clear hi)
        refine hK.out _ _ ⟨(blk_cell BK123.out 0).trans rfl, (blk_cell BK123.out 1).trans rfl, (blk_cell BK101.out 0).trans rfl, (blk_cell BK101.out 1).trans rfl⟩ (fun hHeld => ?_)
        clear hK K
        refine norm_ (a' := ?_) ?_ ?_
        rotate_left
        ·
         show Act.put _ (some 57) _ = _
         simp only [Act.put, List.setIfInBounds_toArray, List.set_cons_zero, List.set_cons_succ, i64_w, i32_w]
         rfl
        refine pure_ (i := 4) (N := some 58) (v := ?_) (a' := ?_) #[true, true, true, true, true] rfl rfl (by kernel_rfl) (fun _ _ _ h => h) (Or.inl ⟨by rfl, ?_⟩) ?_ ?_
        rotate_left
        ·
         intro w'
         go_simp
         with_reducible rfl
        rotate_left
        ·
         simp only [Act.put, List.setIfInBounds_toArray, List.set_cons_zero, List.set_cons_succ, i64_w, i32_w]
         rfl
        refine done_ (by kernel_rfl) ?_
        try go_wp2
        have n0_ := asd (Kd.R_drew HO_119001.out)
        have n1_ := asd (Kd.R_drew HO_124001.out)
        have n2_ := asd (Kd.R_drew HO_129001.out)
        have n3_ := asd (Kd.R_drew HO_135001.out)
        have n4_ := asd (Kd.R_drew HO139.out)
        have n5_ := asd (blk_drew BK101.out)
        have n6_ := asd (blk_drew BK102.out)
        have n7_ := asd (blk_drew BK118.out)
        have n8_ := asd (blk_drew BK123.out)
        have n9_ := asd (blk_drew BK128.out)
        have n10_ := asd (blk_drew BK134.out)
        have n11_ := asd (below_drew1 HB.out)
        clear HO_119001
        clear HO_124001
        clear HO_129001
        clear HO_135001
        clear HO139
        clear BK101
        clear BK102
        clear BK118
        clear BK123
        clear BK128
        clear BK134
        clear HB
        have HO_119001 := n0_
        have HO_124001 := n1_
        have HO_129001 := n2_
        have HO_135001 := n3_
        have HO139 := n4_
        have BK101 := n5_
        have BK102 := n6_
        have BK118 := n7_
        have BK123 := n8_
        have BK128 := n9_
        have BK134 := n10_
        have HB := n11_
        clear n0_ n1_ n2_ n3_ n4_ n5_ n6_ n7_ n8_ n9_ n10_ n11_
        refine start_ (n := 5) (S := fun w' => w'.cell? ⟨gb128, 0, none⟩ = some (.int .i64 t124) ∧ w'.cell? ⟨gb128, 1, none⟩ = some (.slice Ao62 t125.length co62) ∧ w'.cell? ⟨gb102, 0, none⟩ = some (.int .i64 a1_0) ∧ w'.cell? ⟨gb102, 1, none⟩ = some (.slice A1_1 l1_1.length c1_1)) (ds := []) #[false, false, false, false, false] (by kernel_rfl) rfl rfl ⟨(blk_cell BK128.out 0).trans rfl, (blk_cell BK128.out 1).trans rfl, (blk_cell BK102.out 0).trans rfl, (blk_cell BK102.out 1).trans rfl⟩ (fun hHeld => ?_)
        generalize w100.drew = w101 at HO_119001 HO_124001 HO_129001 HO_135001 HO139 BK101 BK102 BK118 BK123 BK128 BK134 HB hHeld ⊢
        refine take_ (i := 0) (N := some 59) (v := ?_) (a' := ?_) #[true, false, false, false, false] rfl rfl (by kernel_rfl) (fun _ _ _ h => h) (Or.inl ⟨by rfl, ?_⟩) hHeld ?_ ?_
        rotate_left
        ·
         rintro w' ⟨s0, s1, s2, s3⟩
         go_simp
         with_reducible rfl
        rotate_left
        ·
         simp only [Act.put, List.setIfInBounds_toArray, List.set_cons_zero, List.set_cons_succ, i64_w, i32_w]
         rfl
        refine take_ (i := 1) (N := some 60) (v := ?_) (a' := ?_) #[true, true, false, false, false] rfl rfl (by kernel_rfl) (fun _ _ _ h => h) (Or.inl ⟨by rfl, ?_⟩) hHeld ?_ ?_
        rotate_left
        ·
         rintro w' ⟨s0, s1, s2, s3⟩
         go_simp
         with_reducible rfl
        rotate_left
        ·
         simp only [Act.put, List.setIfInBounds_toArray, List.set_cons_zero, List.set_cons_succ, i64_w, i32_w]
         rfl
        refine one_ (i := 2) (N := some 61) #[true, true, true, false, false] rfl rfl (by kernel_rfl) (by decide) (fun K hK => ?_)
        refine goes_ Try.func15 (by kernel_rfl) rfl #[.agg #[.int .i64 a1_0, .slice A1_1 l1_1.length c1_1]] (by rfl) rfl rfl (by (try simp only [List.map_toArray, List.map_cons, List.map_nil]); first | done | rfl | (simp only [List.length_drop, List.length_take]; rfl)) ?_
        with_reducible refine (laws_toSpace.calls kj24 a1_0 _ _ l1_1 t141 t142 _ ?side1 ?side2 A91.out).mono ?_
        (case side1 => repeat (first | exact (Kd.C_below HR1_1.out HB.out) | (with_reducible refine Kd.C_alloc ?_ _) | (with_reducible refine Kd.C_drewN ?_ _) | (with_reducible refine Kd.C_drew ?_)))
        (case side2 => exact HC1_1.out)
        rintro e w102 ⟨v143, rfl, ho0, hb⟩
        refine ⟨_, rfl, ?_⟩
        have n0_ := asd (Kd.R_elder' (upR <| HO_119001.out) (Kd.R_base ho0) hb)
        have n1_ := asd (Kd.R_elder' (upR <| HO_124001.out) (Kd.R_base ho0) hb)
        have n2_ := asd (Kd.R_elder' (upR <| HO_129001.out) (Kd.R_base ho0) hb)
        have n3_ := asd (Kd.R_elder' (upR <| HO_135001.out) (Kd.R_base ho0) hb)
        have n4_ := asd (Kd.R_elder' (upR <| HO139.out) (Kd.R_base ho0) hb)
        have n5_ := asd (Kd.R_lower (Kd.R_new' (Kd.R_new' (Kd.R_new' (Kd.R_new' (Kd.R_new' ho0 (Kd.R_lt (upR <| HO_119001.out))) (Kd.R_lt (upR <| HO_124001.out))) (Kd.R_lt (upR <| HO_129001.out))) (Kd.R_lt (upR <| HO_135001.out))) (Kd.R_lt (upR <| HO139.out))) (below_size (by repeat (first | (with_reducible first | exact HB.out | apply below_alloc | apply pw_below_drewN | apply below_drew1 | refine below_set ?_ GE101.out | refine below_set ?_ GE102.out | refine below_set ?_ GE118.out | refine below_set ?_ GE123.out | refine below_set ?_ GE128.out | refine below_set ?_ GE134.out) | exact HB.out))))
        have n6_ := asd (blk_below (upB BK101.out) hb)
        have n7_ := asd (blk_below (upB BK102.out) hb)
        have n8_ := asd (blk_below (upB BK118.out) hb)
        have n9_ := asd (blk_below (upB BK123.out) hb)
        have n10_ := asd (blk_below (upB BK128.out) hb)
        have n11_ := asd (blk_below (upB BK134.out) hb)
        have n12_ := asd (below_step (by repeat (first | (with_reducible first | exact HB.out | apply below_alloc | apply pw_below_drewN | apply below_drew1 | refine below_set ?_ GE101.out | refine below_set ?_ GE102.out | refine below_set ?_ GE118.out | refine below_set ?_ GE123.out | refine below_set ?_ GE128.out | refine below_set ?_ GE134.out) | exact HB.out)) hb)
        clear HO_119001
        clear HO_124001
        clear HO_129001
        clear HO_135001
        clear HO139
        clear BK101
        clear BK102
        clear BK118
        clear BK123
        clear BK128
        clear BK134
        clear HB
        have HO_119001 := n0_
        have HO_124001 := n1_
        have HO_129001 := n2_
        have HO_135001 := n3_
        have HO139 := n4_
        have HO144 := n5_
        have BK101 := n6_
        have BK102 := n7_
        have BK118 := n8_
        have BK123 := n9_
        have BK128 := n10_
        have BK134 := n11_
        have HB := n12_
        clear n0_ n1_ n2_ n3_ n4_ n5_ n6_ n7_ n8_ n9_ n10_ n11_ n12_
        (try clear hb)
        (try clear hb2)
        (try clear hk)
        (try clear hi)
        (try clear ho0)
        obtain ⟨Ao103, co103, eo103⟩ := Kd.R_slice HO144.out
        (first | subst eo103 | (injection eo103 with f1_ f2_ f3_; have f4_ := f1_.symm; have f5_ := f3_.symm; clear f1_ f2_ f3_; subst f4_; subst f5_))
        refine hK.out _ _ ⟨(blk_cell BK128.out 0).trans rfl, (blk_cell BK128.out 1).trans rfl, (blk_cell BK102.out 0).trans rfl, (blk_cell BK102.out 1).trans rfl⟩ (fun hHeld => ?_)
        clear hK K
        refine norm_ (a' := ?_) ?_ ?_
        rotate_left
        ·
         show Act.put _ (some 61) _ = _
         simp only [Act.put, List.setIfInBounds_toArray, List.set_cons_zero, List.set_cons_succ, i64_w, i32_w]
         rfl
        refine one_ (i := 3) (N := some 62) #[true, true, true, true, false] rfl rfl (by kernel_rfl) (by decide) (fun K hK => ?_)
        refine goes_ Try.func17 (by kernel_rfl) rfl #[.agg #[.int .i64 t124, .slice Ao62 t125.length co62], .agg #[.int .i64 t141, .slice Ao103 t142.length co103]] (by rfl) rfl rfl (by (try simp only [List.map_toArray, List.map_cons, List.map_nil]); first | done | rfl | (simp only [List.length_drop, List.length_take]; rfl)) ?_
        with_reducible refine (laws_eqSpace.calls kj24 t124 _ _ t125 t141 _ _ t142 true _ ?side1 ?side2 ?side3 ?side4 A92.out).mono ?_
        (case side1 => repeat (first | exact (Kd.R_reads' HO_129001.out).2.2 | (with_reducible refine Kd.C_alloc ?_ _) | (with_reducible refine Kd.C_drewN ?_ _) | (with_reducible refine Kd.C_drew ?_)))
        (case side2 => exact (Kd.R_reads' HO_129001.out).2.1)
        (case side3 => repeat (first | exact (Kd.R_reads' HO144.out).2.2 | (with_reducible refine Kd.C_alloc ?_ _) | (with_reducible refine Kd.C_drewN ?_ _) | (with_reducible refine Kd.C_drew ?_)))
        (case side4 => exact (Kd.R_reads' HO144.out).2.1)
        rintro e w104 ⟨rfl, hb⟩
        refine ⟨_, rfl, ?_⟩
        have n0_ := asd (Kd.R_below (upR <| HO_119001.out) hb)
        have n1_ := asd (Kd.R_below (upR <| HO_124001.out) hb)
        have n2_ := asd (Kd.R_below (upR <| HO_129001.out) hb)
        have n3_ := asd (Kd.R_below (upR <| HO_135001.out) hb)
        have n4_ := asd (Kd.R_below (upR <| HO139.out) hb)
        have n5_ := asd (Kd.R_below (upR <| HO144.out) hb)
        have n6_ := asd (blk_below (upB BK101.out) hb)
        have n7_ := asd (blk_below (upB BK102.out) hb)
        have n8_ := asd (blk_below (upB BK118.out) hb)
        have n9_ := asd (blk_below (upB BK123.out) hb)
        have n10_ := asd (blk_below (upB BK128.out) hb)
        have n11_ := asd (blk_below (upB BK134.out) hb)
        have n12_ := asd (below_step (by repeat (first | (with_reducible first | exact HB.out | apply below_alloc | apply pw_below_drewN | apply below_drew1 | refine below_set ?_ GE101.out | refine below_set ?_ GE102.out | refine below_set ?_ GE118.out | refine below_set ?_ GE123.out | refine below_set ?_ GE128.out | refine below_set ?_ GE134.out) | exact HB.out)) hb)
        clear HO_119001
        clear HO_124001
        clear HO_129001
        clear HO_135001
        clear HO139
        clear HO144
        clear BK101
        clear BK102
        clear BK118
        clear BK123
        clear BK128
        clear BK134
        clear HB
        have HO_119001 := n0_
        have HO_124001 := n1_
        have HO_129001 := n2_
        have HO_135001 := n3_
        have HO139 := n4_
        have HO144 := n5_
        have BK101 := n6_
        have BK102 := n7_
        have BK118 := n8_
        have BK123 := n9_
        have BK128 := n10_
        have BK134 := n11_
        have HB := n12_
        clear n0_ n1_ n2_ n3_ n4_ n5_ n6_ n7_ n8_ n9_ n10_ n11_ n12_
        (try clear hb)
        (try clear hb2)
        (try clear hk)
        (try clear hi)
        refine hK.out _ _ ⟨(blk_cell BK128.out 0).trans rfl, (blk_cell BK128.out 1).trans rfl, (blk_cell BK102.out 0).trans rfl, (blk_cell BK102.out 1).trans rfl⟩ (fun hHeld => ?_)
        clear hK K
        refine norm_ (a' := ?_) ?_ ?_
        rotate_left
        ·
         show Act.put _ (some 62) _ = _
         simp only [Act.put, List.setIfInBounds_toArray, List.set_cons_zero, List.set_cons_succ, i64_w, i32_w]
         rfl
        refine pure_ (i := 4) (N := some 63) (v := ?_) (a' := ?_) #[true, true, true, true, true] rfl rfl (by kernel_rfl) (fun _ _ _ h => h) (Or.inl ⟨by rfl, ?_⟩) ?_ ?_
        rotate_left
        ·
         intro w'
         go_simp
         with_reducible rfl
        rotate_left
        ·
         simp only [Act.put, List.setIfInBounds_toArray, List.set_cons_zero, List.set_cons_succ, i64_w, i32_w]
         rfl
        refine done_ (by kernel_rfl) ?_
        have hnb105 := NB123_101.out
        have hnc105 := NB101_123.out
        have hnb106 := NB123_102.out
        have hnc106 := NB102_123.out
        have hnb107 := NB123_118.out
        have hnc107 := NB118_123.out
        have hnb108 := NB123_128.out
        have hnc108 := NB128_123.out
        have hnb109 := NB123_134.out
        have hnc109 := NB134_123.out
        have hcz110_0 : w104.cell? ⟨gb123, 0, none⟩ = some (.int .i64 t119) := (blk_cell BK123.out 0).trans rfl
        have hcz110_1 : w104.cell? ⟨gb123, 1, none⟩ = some (.slice Ao52 t120.length co52) := (blk_cell BK123.out 1).trans rfl
        have hfz110_0 := blk_frozen BK123.out 0
        have hfz110_1 := blk_frozen BK123.out 1
        go_upto_region 21 with (first | ((with_reducible refine gate_callee (f := 18) rfl ?_); refine goesL_ (some 66) rfl rfl Try.func18 (by kernel_rfl) rfl #[.agg #[.int .i64 t119, .slice Ao52 t120.length co52], .int .i64 1] rfl (by (try simp only [List.map_toArray, List.map_cons, List.map_nil]); first | done | rfl | (simp only [List.length_drop, List.length_take]; rfl)) ?_; (with_reducible refine (laws_markSpace.calls kj24 t119 (fun k_ => some k_ = (.slice Ao52 t120.length co52 : Value).ownBlock) (.slice Ao52 t120.length co52) t120 1 t146 t147 w _ ?side1 ?side2 A94.out).mono ?_); (case side1 => repeat (first | (with_reducible first | exact HB.out | apply below_alloc | apply pw_below_drewN | apply below_drew1 | refine below_set ?_ GE101.out | refine below_set ?_ GE102.out | refine below_set ?_ GE118.out | refine below_set ?_ GE123.out | refine below_set ?_ GE128.out | refine below_set ?_ GE134.out) | exact HB.out)); (case side2 => exact Kd.R_tight rfl HO_124001.out); rintro e w111 ⟨rfl, hy0, hb, hkp⟩; refine ⟨_, rfl, ?_⟩; have n0_ := asd (Kd.R_mono (ok' := fun k_ => some k_ ≠ (.slice Ao52 t120.length co52 : Value).ownBlock ∧ some k_ ≠ (.slice Ao62 t125.length co62 : Value).ownBlock ∧ some k_ ≠ (.slice Ao72 t130.length co72 : Value).ownBlock ∧ some k_ ≠ (.slice Ao99 t137.length co99 : Value).ownBlock ∧ some k_ ≠ (.slice Ao103 t142.length co103 : Value).ownBlock) (Kd.R_keptB (HO_119001.out) hkp (fun k_ hk_ hs_ => (hk_.1.1.1) hs_)) (fun k_ hk_ => ⟨hk_.1.1.1.1, hk_.1.1.1.2.1, hk_.1.1.1.2.2, hk_.1.1.2, hk_.1.2⟩)); have n1_ := asd (Kd.R_reok rfl hy0 (fun k_ e_ => HO_124001.out.1 k_ e_)); have n2_ := asd (Kd.R_mono (ok' := fun k_ => some k_ ≠ (.slice Ao42 t114.length co42 : Value).ownBlock ∧ some k_ ≠ (.slice Ao52 t120.length co52 : Value).ownBlock ∧ some k_ ≠ (.slice Ao72 t130.length co72 : Value).ownBlock ∧ some k_ ≠ (.slice Ao99 t137.length co99 : Value).ownBlock ∧ some k_ ≠ (.slice Ao103 t142.length co103 : Value).ownBlock) (Kd.R_keptB (HO_129001.out) hkp (fun k_ hk_ hs_ => (hk_.1.1.2.1) hs_)) (fun k_ hk_ => ⟨hk_.1.1.1.1, hk_.1.1.1.2.1, hk_.1.1.1.2.2, hk_.1.1.2, hk_.1.2⟩)); have n3_ := asd (Kd.R_mono (ok' := fun k_ => some k_ ≠ (.slice Ao42 t114.length co42 : Value).ownBlock ∧ some k_ ≠ (.slice Ao52 t120.length co52 : Value).ownBlock ∧ some k_ ≠ (.slice Ao62 t125.length co62 : Value).ownBlock ∧ some k_ ≠ (.slice Ao99 t137.length co99 : Value).ownBlock ∧ some k_ ≠ (.slice Ao103 t142.length co103 : Value).ownBlock) (Kd.R_keptB (HO_135001.out) hkp (fun k_ hk_ hs_ => (hk_.1.1.2.1) hs_)) (fun k_ hk_ => ⟨hk_.1.1.1.1, hk_.1.1.1.2.1, hk_.1.1.1.2.2, hk_.1.1.2, hk_.1.2⟩)); have n4_ := asd (blk_kept (upB BK101.out) hkp (fun hs_ => (fun e_ => (Kd.R_ne HO_124001.out BK101.out (by decide)) e_) hs_)); have n5_ := asd (blk_kept (upB BK102.out) hkp (fun hs_ => (fun e_ => (Kd.R_ne HO_124001.out BK102.out (by decide)) e_) hs_)); have n6_ := asd (blk_kept (upB BK118.out) hkp (fun hs_ => (fun e_ => (Kd.R_ne HO_124001.out BK118.out (by decide)) e_) hs_)); have n7_ := asd (blk_kept (upB BK123.out) hkp (fun hs_ => (fun e_ => (Kd.R_ne HO_124001.out BK123.out (by decide)) e_) hs_)); have n8_ := asd (blk_kept (upB BK128.out) hkp (fun hs_ => (fun e_ => (Kd.R_ne HO_124001.out BK128.out (by decide)) e_) hs_)); have n9_ := asd (blk_kept (upB BK134.out) hkp (fun hs_ => (fun e_ => (Kd.R_ne HO_124001.out BK134.out (by decide)) e_) hs_)); have n10_ := asd (Kd.R_mono (ok' := fun k_ => some k_ ≠ (.slice Ao42 t114.length co42 : Value).ownBlock ∧ some k_ ≠ (.slice Ao52 t120.length co52 : Value).ownBlock ∧ some k_ ≠ (.slice Ao62 t125.length co62 : Value).ownBlock ∧ some k_ ≠ (.slice Ao72 t130.length co72 : Value).ownBlock ∧ some k_ ≠ (.slice Ao103 t142.length co103 : Value).ownBlock) (Kd.R_keptB (HO139.out) hkp (fun k_ hk_ hs_ => (hk_.1.1.1.2) hs_)) (fun k_ hk_ => ⟨hk_.1.1.1.1.1.2, hk_.1.1.1.1.2, hk_.1.1.1.2, hk_.1.1.2, hk_.1.2⟩)); have n11_ := asd (Kd.R_mono (ok' := fun k_ => some k_ ≠ (.slice Ao42 t114.length co42 : Value).ownBlock ∧ some k_ ≠ (.slice Ao52 t120.length co52 : Value).ownBlock ∧ some k_ ≠ (.slice Ao62 t125.length co62 : Value).ownBlock ∧ some k_ ≠ (.slice Ao72 t130.length co72 : Value).ownBlock ∧ some k_ ≠ (.slice Ao99 t137.length co99 : Value).ownBlock) (Kd.R_keptB (HO144.out) hkp (fun k_ hk_ hs_ => (hk_.1.1.1.2) hs_)) (fun k_ hk_ => ⟨hk_.1.1.1.1.1.2, hk_.1.1.1.1.2, hk_.1.1.1.2, hk_.1.1.2, hk_.1.2⟩)); have n12_ := asd (hb); clear HO_119001; clear HO_124001; clear HO_129001; clear HO_135001; clear BK101; clear BK102; clear BK118; clear BK123; clear BK128; clear BK134; clear HO139; clear HO144; clear HB; have HO_119001 := n0_; have HO_124001 := n1_; have HO_129001 := n2_; have HO_135001 := n3_; have BK101 := n4_; have BK102 := n5_; have BK118 := n6_; have BK123 := n7_; have BK128 := n8_; have BK134 := n9_; have HO139 := n10_; have HO144 := n11_; have HB := n12_; clear n0_ n1_ n2_ n3_ n4_ n5_ n6_ n7_ n8_ n9_ n10_ n11_ n12_; (try clear hb); (try clear hkp); (try clear hy0); have hnb112 := NB128_101.out; have hnc112 := NB101_128.out; have hnb113 := NB128_102.out; have hnc113 := NB102_128.out; have hnb114 := NB128_118.out; have hnc114 := NB118_128.out; have hnb115 := NB128_134.out; have hnc115 := NB134_128.out; have hcz116_0 : w111.cell? ⟨gb128, 0, none⟩ = some (.int .i64 t124) := (blk_cell BK128.out 0).trans rfl; have hcz116_1 : w111.cell? ⟨gb128, 1, none⟩ = some (.slice Ao62 t125.length co62) := (blk_cell BK128.out 1).trans rfl; have hfz116_0 := blk_frozen BK128.out 0; have hfz116_1 := blk_frozen BK128.out 1) | ((with_reducible refine gate_callee (f := 18) rfl ?_); refine goesL_ (some 69) rfl rfl Try.func18 (by kernel_rfl) rfl #[.agg #[.int .i64 t124, .slice Ao62 t125.length co62], .int .i64 t146] rfl (by (try simp only [List.map_toArray, List.map_cons, List.map_nil]); first | done | rfl | (simp only [List.length_drop, List.length_take]; rfl)) ?_; (with_reducible refine (laws_markSpace.calls kj24 t124 (fun k_ => some k_ = (.slice Ao62 t125.length co62 : Value).ownBlock) (.slice Ao62 t125.length co62) t125 t146 t148 t149 w _ ?side1 ?side2 A95.out).mono ?_); (case side1 => repeat (first | (with_reducible first | exact HB.out | apply below_alloc | apply pw_below_drewN | apply below_drew1 | refine below_set ?_ GE101.out | refine below_set ?_ GE102.out | refine below_set ?_ GE118.out | refine below_set ?_ GE123.out | refine below_set ?_ GE128.out | refine below_set ?_ GE134.out) | exact HB.out)); (case side2 => exact Kd.R_tight rfl HO_129001.out); rintro e w117 ⟨rfl, hy0, hb, hkp⟩; refine ⟨_, rfl, ?_⟩; have n0_ := asd (Kd.R_mono (ok' := fun k_ => some k_ ≠ (.slice Ao52 t120.length co52 : Value).ownBlock ∧ some k_ ≠ (.slice Ao62 t125.length co62 : Value).ownBlock ∧ some k_ ≠ (.slice Ao72 t130.length co72 : Value).ownBlock ∧ some k_ ≠ (.slice Ao99 t137.length co99 : Value).ownBlock ∧ some k_ ≠ (.slice Ao103 t142.length co103 : Value).ownBlock) (Kd.R_keptB (HO_119001.out) hkp (fun k_ hk_ hs_ => (hk_.2.1) hs_)) (fun k_ hk_ => ⟨hk_.1.1, hk_.1.2.1, hk_.1.2.2.1, hk_.1.2.2.2.1, hk_.1.2.2.2.2⟩)); have n1_ := asd (Kd.R_mono (ok' := fun k_ => some k_ ≠ (.slice Ao42 t114.length co42 : Value).ownBlock ∧ some k_ ≠ (.slice Ao62 t125.length co62 : Value).ownBlock ∧ some k_ ≠ (.slice Ao72 t130.length co72 : Value).ownBlock ∧ some k_ ≠ (.slice Ao99 t137.length co99 : Value).ownBlock ∧ some k_ ≠ (.slice Ao103 t142.length co103 : Value).ownBlock) (Kd.R_keptB (HO_124001.out) hkp (fun k_ hk_ hs_ => (hk_.1.1.2.1) hs_)) (fun k_ hk_ => ⟨hk_.1.1.1.1, hk_.1.1.1.2.1, hk_.1.1.1.2.2, hk_.1.1.2, hk_.1.2⟩)); have n2_ := asd (Kd.R_reok rfl hy0 (fun k_ e_ => HO_129001.out.1 k_ e_)); have n3_ := asd (Kd.R_mono (ok' := fun k_ => some k_ ≠ (.slice Ao42 t114.length co42 : Value).ownBlock ∧ some k_ ≠ (.slice Ao52 t120.length co52 : Value).ownBlock ∧ some k_ ≠ (.slice Ao62 t125.length co62 : Value).ownBlock ∧ some k_ ≠ (.slice Ao99 t137.length co99 : Value).ownBlock ∧ some k_ ≠ (.slice Ao103 t142.length co103 : Value).ownBlock) (Kd.R_keptB (HO_135001.out) hkp (fun k_ hk_ hs_ => (hk_.2.2.1) hs_)) (fun k_ hk_ => ⟨hk_.1.1, hk_.1.2.1, hk_.1.2.2.1, hk_.1.2.2.2.1, hk_.1.2.2.2.2⟩)); have n4_ := asd (blk_kept (upB BK101.out) hkp (fun hs_ => (fun e_ => (Kd.R_ne HO_129001.out BK101.out (by decide)) e_) hs_)); have n5_ := asd (blk_kept (upB BK102.out) hkp (fun hs_ => (fun e_ => (Kd.R_ne HO_129001.out BK102.out (by decide)) e_) hs_)); have n6_ := asd (blk_kept (upB BK118.out) hkp (fun hs_ => (fun e_ => (Kd.R_ne HO_129001.out BK118.out (by decide)) e_) hs_)); have n7_ := asd (blk_kept (upB BK123.out) hkp (fun hs_ => (fun e_ => (Kd.R_ne HO_129001.out BK123.out (by decide)) e_) hs_)); have n8_ := asd (blk_kept (upB BK128.out) hkp (fun hs_ => (fun e_ => (Kd.R_ne HO_129001.out BK128.out (by decide)) e_) hs_)); have n9_ := asd (blk_kept (upB BK134.out) hkp (fun hs_ => (fun e_ => (Kd.R_ne HO_129001.out BK134.out (by decide)) e_) hs_)); have n10_ := asd (Kd.R_mono (ok' := fun k_ => some k_ ≠ (.slice Ao42 t114.length co42 : Value).ownBlock ∧ some k_ ≠ (.slice Ao52 t120.length co52 : Value).ownBlock ∧ some k_ ≠ (.slice Ao62 t125.length co62 : Value).ownBlock ∧ some k_ ≠ (.slice Ao72 t130.length co72 : Value).ownBlock ∧ some k_ ≠ (.slice Ao103 t142.length co103 : Value).ownBlock) (Kd.R_keptB (HO139.out) hkp (fun k_ hk_ hs_ => (hk_.2.2.1) hs_)) (fun k_ hk_ => ⟨hk_.1.1, hk_.1.2.1, hk_.1.2.2.1, hk_.1.2.2.2.1, hk_.1.2.2.2.2⟩)); have n11_ := asd (Kd.R_mono (ok' := fun k_ => some k_ ≠ (.slice Ao42 t114.length co42 : Value).ownBlock ∧ some k_ ≠ (.slice Ao52 t120.length co52 : Value).ownBlock ∧ some k_ ≠ (.slice Ao62 t125.length co62 : Value).ownBlock ∧ some k_ ≠ (.slice Ao72 t130.length co72 : Value).ownBlock ∧ some k_ ≠ (.slice Ao99 t137.length co99 : Value).ownBlock) (Kd.R_keptB (HO144.out) hkp (fun k_ hk_ hs_ => (hk_.2.2.1) hs_)) (fun k_ hk_ => ⟨hk_.1.1, hk_.1.2.1, hk_.1.2.2.1, hk_.1.2.2.2.1, hk_.1.2.2.2.2⟩)); have n12_ := asd (hb); clear HO_119001; clear HO_124001; clear HO_129001; clear HO_135001; clear BK101; clear BK102; clear BK118; clear BK123; clear BK128; clear BK134; clear HO139; clear HO144; clear HB; have HO_119001 := n0_; have HO_124001 := n1_; have HO_129001 := n2_; have HO_135001 := n3_; have BK101 := n4_; have BK102 := n5_; have BK118 := n6_; have BK123 := n7_; have BK128 := n8_; have BK134 := n9_; have HO139 := n10_; have HO144 := n11_; have HB := n12_; clear n0_ n1_ n2_ n3_ n4_ n5_ n6_ n7_ n8_ n9_ n10_ n11_ n12_; (try clear hb); (try clear hkp); (try clear hy0)))
        (try simp only [Act.put, List.setIfInBounds_toArray, List.set_cons_zero, List.set_cons_succ])
        go_cut [82] (fun v82 wc => ∃ (kq : Nat) (x82_95 : Bool), v82 = .bool x82_95 ∧ Aside0 (laws_FnExactMeetOfSpaces.j1 kq t117 x82_95 a0_0 l0_1 a1_0 l1_1 t113 t114 t129 t130 = some r) ∧ Aside0 (kq ≤ kj24) ∧ Aside0 (Kd.R (Kd.int .i64) 3 wc w.heap.size (fun k_ => some k_ ≠ ((.slice Ao72 t130.length co72) : Value).ownBlock) (.slice Ao42 t114.length co42) t114) ∧ Aside0 (Kd.R (Kd.int .i64) 3 wc w.heap.size (fun k_ => some k_ ≠ ((.slice Ao42 t114.length co42) : Value).ownBlock) (.slice Ao72 t130.length co72) t130) ∧ Aside0 (wc.heap[gb101]? = some (.cells #[.int .i64 a0_0, (.slice A0_1 l0_1.length c0_1)] 24 (0, 0))) ∧ Aside0 (wc.heap[gb102]? = some (.cells #[.int .i64 a1_0, (.slice A1_1 l1_1.length c1_1)] 24 (0, 0))) ∧ Aside0 (wc.heap[gb118]? = some (.cells #[.int .i64 t113, (.slice Ao42 t114.length co42)] 26 (0, 0))) ∧ Aside0 (wc.heap[gb134]? = some (.cells #[.int .i64 t129, (.slice Ao72 t130.length co72)] 26 (0, 0))) ∧ Aside0 (Below w.heap.size w wc))
        case first =>
         have H := HC96.out
         clear HC96
         by_cases c118 : t148 < 0
         ·
          rw [if_pos c118] at H
          have c118b0 : decide (t148 < 0) = true := decide_eq_true c118
          clear c118
          (first | rw [c118b0] | (simp only [i64_w, i32_w]; rw [c118b0]) | skip)
          rcases kj24 with _ | kk_
          ·
           exact absurd H (by simp [laws_FnExactMeetOfSpaces.j1])
          ·
           simp only [laws_FnExactMeetOfSpaces.j1] at H
           rw [if_pos trivial] at H
           exact absurd ((Option.some.inj H).trans hT_.out) (by decide)
         ·
          rw [if_neg c118] at H
          have c118b0 : decide (t148 < 0) = false := decide_eq_false c118
          clear c118
          (first | rw [c118b0] | (simp only [i64_w, i32_w]; rw [c118b0]) | skip)
          replace H := Option.bind_eq_some_iff.mp H
          obtain ⟨t150, A1190, H⟩ := H
          replace H : (if t150 = true then (laws_FnExactMeetOfSpaces.j1 kj24 t117 (t133 != t117) a0_0 l0_1 a1_0 l1_1 t113 t114 t129 t130) else (laws_FnExactMeetOfSpaces.j1 kj24 t117 true a0_0 l0_1 a1_0 l1_1 t113 t114 t129 t130)) = some r := H
          have A119 := asd A1190
          clear A1190
          by_cases c120 : t150 = true
          ·
           subst c120
           have H1 : (laws_FnExactMeetOfSpaces.j1 kj24 t117 (t133 != t117) a0_0 l0_1 a1_0 l1_1 t113 t114 t129 t130) = some r := by rw [if_pos rfl] at H; exact H
           clear H
           have H := H1
           clear H1
           have H' := asd H
           clear H
           have hnb121 := NB134_101.out
           have hnc121 := NB101_134.out
           have hnb122 := NB134_102.out
           have hnc122 := NB102_134.out
           have hnb123 := NB134_118.out
           have hnc123 := NB118_134.out
           have hnb124 := NB134_123.out
           have hnc124 := NB123_134.out
           have hnb125 := NB134_128.out
           have hnc125 := NB128_134.out
           have hcz126_0 : w117.cell? ⟨gb134, 0, none⟩ = some (.int .i64 t129) := (blk_cell BK134.out 0).trans rfl
           have hcz126_1 : w117.cell? ⟨gb134, 1, none⟩ = some (.slice Ao72 t130.length co72) := (blk_cell BK134.out 1).trans rfl
           have hfz126_0 := blk_frozen BK134.out 0
           have hfz126_1 := blk_frozen BK134.out 1
           have hnb127 := NB118_101.out
           have hnc127 := NB101_118.out
           have hnb128 := NB118_102.out
           have hnc128 := NB102_118.out
           have hnb129 := NB118_123.out
           have hnc129 := NB123_118.out
           have hnb130 := NB118_128.out
           have hnc130 := NB128_118.out
           have hcz131_0 : w117.cell? ⟨gb118, 0, none⟩ = some (.int .i64 t113) := (blk_cell BK118.out 0).trans rfl
           have hcz131_1 : w117.cell? ⟨gb118, 1, none⟩ = some (.slice Ao42 t114.length co42) := (blk_cell BK118.out 1).trans rfl
           have hfz131_0 := blk_frozen BK118.out 0
           have hfz131_1 := blk_frozen BK118.out 1
           go_wp2_with (first | (go_at_call 17; (with_reducible refine (laws_eqSpace.calls kj24 t129 _ _ t130 t113 _ _ t114 true _ ?side1 ?side2 ?side3 ?side4 A119.out).mono ?_); (case side1 => repeat (first | exact (Kd.R_reads' HO_135001.out).2.2 | (with_reducible refine Kd.C_alloc ?_ _) | (with_reducible refine Kd.C_drewN ?_ _) | (with_reducible refine Kd.C_drew ?_))); (case side2 => exact (Kd.R_reads' HO_135001.out).2.1); (case side3 => repeat (first | exact (Kd.R_reads' HO_119001.out).2.2 | (with_reducible refine Kd.C_alloc ?_ _) | (with_reducible refine Kd.C_drewN ?_ _) | (with_reducible refine Kd.C_drew ?_))); (case side4 => exact (Kd.R_reads' HO_119001.out).2.1); rintro e w132 ⟨rfl, hb⟩; have n0_ := asd (Kd.R_below (upR <| HO_119001.out) hb); have n1_ := asd (Kd.R_below (upR <| HO_124001.out) hb); have n2_ := asd (Kd.R_below (upR <| HO_129001.out) hb); have n3_ := asd (Kd.R_below (upR <| HO_135001.out) hb); have n4_ := asd (Kd.R_below (upR <| HO139.out) hb); have n5_ := asd (Kd.R_below (upR <| HO144.out) hb); have n6_ := asd (blk_below (upB BK101.out) hb); have n7_ := asd (blk_below (upB BK102.out) hb); have n8_ := asd (blk_below (upB BK118.out) hb); have n9_ := asd (blk_below (upB BK123.out) hb); have n10_ := asd (blk_below (upB BK128.out) hb); have n11_ := asd (blk_below (upB BK134.out) hb); have n12_ := asd (below_step (by repeat (first | (with_reducible first | exact HB.out | apply below_alloc | apply pw_below_drewN | apply below_drew1 | refine below_set ?_ GE101.out | refine below_set ?_ GE102.out | refine below_set ?_ GE118.out | refine below_set ?_ GE123.out | refine below_set ?_ GE128.out | refine below_set ?_ GE134.out) | exact HB.out)) hb); clear HO_119001; clear HO_124001; clear HO_129001; clear HO_135001; clear HO139; clear HO144; clear BK101; clear BK102; clear BK118; clear BK123; clear BK128; clear BK134; clear HB; have HO_119001 := n0_; have HO_124001 := n1_; have HO_129001 := n2_; have HO_135001 := n3_; have HO139 := n4_; have HO144 := n5_; have BK101 := n6_; have BK102 := n7_; have BK118 := n8_; have BK123 := n9_; have BK128 := n10_; have BK134 := n11_; have HB := n12_; clear n0_ n1_ n2_ n3_ n4_ n5_ n6_ n7_ n8_ n9_ n10_ n11_ n12_; (try clear hb); (try clear hb2); (try clear hk); (try clear hi)))
           go_meet
           case rel => exact ⟨_, ((t133 != t117)), (by first | rfl | (simp; done) | (simp [*]; done)), H', ⟨by have := HJ24.out; first | omega | exact Nat.le_refl _⟩, ⟨by (with_reducible repeat (first | apply Kd.R_alloc | apply Kd.R_drewN | apply Kd.R_drew)); exact Kd.R_mono HO_119001.out (fun _ hk => hk.2.2.1)⟩, ⟨by (with_reducible repeat (first | apply Kd.R_alloc | apply Kd.R_drewN | apply Kd.R_drew)); exact Kd.R_mono HO_135001.out (fun _ hk => hk.1)⟩, ⟨by (with_reducible repeat (first | refine blk_drewN ?_ _ | refine blk_drew ?_ | refine blk_alloc ?_ _)); exact BK101.out⟩, ⟨by (with_reducible repeat (first | refine blk_drewN ?_ _ | refine blk_drew ?_ | refine blk_alloc ?_ _)); exact BK102.out⟩, ⟨by (with_reducible repeat (first | refine blk_drewN ?_ _ | refine blk_drew ?_ | refine blk_alloc ?_ _)); exact BK118.out⟩, ⟨by (with_reducible repeat (first | refine blk_drewN ?_ _ | refine blk_drew ?_ | refine blk_alloc ?_ _)); exact BK134.out⟩, ⟨by repeat (first | (with_reducible first | exact HB.out | apply below_alloc | apply pw_below_drewN | apply below_drew1 | refine below_set ?_ GE101.out | refine below_set ?_ GE102.out | refine below_set ?_ GE118.out | refine below_set ?_ GE123.out | refine below_set ?_ GE128.out | refine below_set ?_ GE134.out) | exact HB.out)⟩⟩
          ·
           replace c120 := Bool.eq_false_iff.mpr c120
           subst c120
           have H1 : (laws_FnExactMeetOfSpaces.j1 kj24 t117 true a0_0 l0_1 a1_0 l1_1 t113 t114 t129 t130) = some r := by rw [if_neg (show ¬ (false = true) by decide)] at H; exact H
           clear H
           have H := H1
           clear H1
           rcases kj24 with _ | kk_
           ·
            exact absurd H (by simp [laws_FnExactMeetOfSpaces.j1])
           ·
            simp only [laws_FnExactMeetOfSpaces.j1] at H
            rw [if_pos trivial] at H
            exact absurd ((Option.some.inj H).trans hT_.out) (by decide)
        case rest =>
         clear HC96
         try clear c1
         try clear p2
         try clear c4
         try clear c5
         try clear c6
         try clear c7
         try clear c8
         try clear c9
         try clear c10
         try clear c11
         try clear c12
         try clear c13
         try clear c14
         try clear c15
         try clear c16
         try clear c17
         try clear c18
         try clear c44
         try clear c48
         try clear c49
         try clear c50
         try clear c53
         try clear c57
         try clear c58
         try clear c59
         try clear c60
         try clear c66
         try clear c67
         try clear c68
         try clear c69
         try clear c70
         try clear c74
         try clear c75
         try clear c76
         try clear c77
         try clear c78
         try clear c79
         try clear c81
         try clear c82
         try clear c83
         try clear c84
         try clear c87
         try clear c90
         try clear c93
         try clear c105
         try clear c106
         try clear c107
         try clear c108
         try clear c109
         try clear c112
         try clear c113
         try clear c114
         try clear c115
         try clear c118
         try clear c118b0
         try clear c120
         try clear c121
         try clear c122
         try clear c123
         try clear c124
         try clear c125
         try clear c127
         try clear c128
         try clear c129
         try clear c130
         try clear hcz110_0
         try clear hcz110_1
         try clear hcz116_0
         try clear hcz116_1
         try clear hcz126_0
         try clear hcz126_1
         try clear hcz131_0
         try clear hcz131_1
         try clear hcz45_0
         try clear hcz45_1
         try clear hcz51_0
         try clear hcz51_1
         try clear hcz54_0
         try clear hcz54_1
         try clear hcz61_0
         try clear hcz61_1
         try clear hcz63_0
         try clear hcz63_1
         try clear hcz71_0
         try clear hcz71_1
         try clear hcz80_0
         try clear hcz80_1
         try clear hcz85_0
         try clear hcz85_1
         try clear hfz110_0
         try clear hfz110_1
         try clear hfz116_0
         try clear hfz116_1
         try clear hfz126_0
         try clear hfz126_1
         try clear hfz131_0
         try clear hfz131_1
         try clear hfz45_0
         try clear hfz45_1
         try clear hfz51_0
         try clear hfz51_1
         try clear hfz54_0
         try clear hfz54_1
         try clear hfz61_0
         try clear hfz61_1
         try clear hfz63_0
         try clear hfz63_1
         try clear hfz71_0
         try clear hfz71_1
         try clear hfz80_0
         try clear hfz80_1
         try clear hfz85_0
         try clear hfz85_1
         try clear p2
         obtain ⟨kq, x82_95, rfl, HA, HJ95, HO_119001, HO_135001, BK101, BK102, BK118, BK134, HB⟩ := hcut
         cases kq with
         | zero => exact absurd HA.out (by simp [laws_FnExactMeetOfSpaces.j1])
         | succ kj95 =>
          have H := HA.out
          clear HA
          simp only [laws_FnExactMeetOfSpaces.j1] at H
          by_cases c133 : x82_95 = true
          ·
           subst c133
           have H1 : (some false) = some r := by rw [if_pos rfl] at H; exact H
           clear H
           have H := H1
           clear H1
           exact absurd ((Option.some.inj H).trans hT_.out) (by decide)
          ·
           replace c133 := Bool.eq_false_iff.mpr c133
           subst c133
           have H1 : ((laws_markSpace.f kj95 t129 t130 1).bind fun bt151 => ((laws_heldSpace.f kj95 t129 bt151.2 1).bind fun t153 => (if t153 < 0 then (some false) else (if t153 = bt151.1 then ((laws_toSpace.f kj95 a0_0 l0_1).bind fun bt154 => ((laws_toSpace.f kj95 a1_0 l1_1).bind fun bt158 => ((impl_MeetOfSpaces.f bt154.1 bt154.2 bt158.1 bt158.2).bind fun bt162 => ((laws_eqSpace.f kj95 bt162.1 bt162.2.1 t113 t114).bind fun t168 => (if t168 = true then (laws_FnExactMeetOfSpaces.j2 kj95 bt151.1 (bt162.2.2 != t117) t129 bt151.2) else (laws_FnExactMeetOfSpaces.j2 kj95 bt151.1 true t129 bt151.2)))))) else (some false))))) = some r := by rw [if_neg (show ¬ (false = true) by decide)] at H; exact H
           clear H
           have H := H1
           clear H1
           replace H := Option.bind_eq_some_iff.mp H
           obtain ⟨⟨t151, t152⟩, A1340, H⟩ := H
           replace H : ((laws_heldSpace.f kj95 t129 t152 1).bind fun t153 => (if t153 < 0 then (some false) else (if t153 = t151 then ((laws_toSpace.f kj95 a0_0 l0_1).bind fun bt154 => ((laws_toSpace.f kj95 a1_0 l1_1).bind fun bt158 => ((impl_MeetOfSpaces.f bt154.1 bt154.2 bt158.1 bt158.2).bind fun bt162 => ((laws_eqSpace.f kj95 bt162.1 bt162.2.1 t113 t114).bind fun t168 => (if t168 = true then (laws_FnExactMeetOfSpaces.j2 kj95 t151 (bt162.2.2 != t117) t129 t152) else (laws_FnExactMeetOfSpaces.j2 kj95 t151 true t129 t152)))))) else (some false)))) = some r := H
           have A134 := asd A1340
           clear A1340
           replace H := Option.bind_eq_some_iff.mp H
           obtain ⟨t153, A1350, H⟩ := H
           replace H : (if t153 < 0 then (some false) else (if t153 = t151 then ((laws_toSpace.f kj95 a0_0 l0_1).bind fun bt154 => ((laws_toSpace.f kj95 a1_0 l1_1).bind fun bt158 => ((impl_MeetOfSpaces.f bt154.1 bt154.2 bt158.1 bt158.2).bind fun bt162 => ((laws_eqSpace.f kj95 bt162.1 bt162.2.1 t113 t114).bind fun t168 => (if t168 = true then (laws_FnExactMeetOfSpaces.j2 kj95 t151 (bt162.2.2 != t117) t129 t152) else (laws_FnExactMeetOfSpaces.j2 kj95 t151 true t129 t152)))))) else (some false))) = some r := H
           have A135 := asd A1350
           clear A1350
           by_cases c136 : t153 < 0
           ·
            rw [if_pos c136] at H
            have c136b0 : decide (t153 < 0) = true := decide_eq_true c136
            clear c136
            exact absurd ((Option.some.inj H).trans hT_.out) (by decide)
           ·
            rw [if_neg c136] at H
            have c136b0 : decide (t153 < 0) = false := decide_eq_false c136
            clear c136
            by_cases c137 : t153 = t151
            ·
             rw [if_pos c137] at H
             have c137b0 : (t153 == t151) = true := beq_iff_eq.mpr c137
             have c137b1 : (t153 != t151) = false := bne_eq_false_iff_eq.mpr c137
             clear c137
             replace H := Option.bind_eq_some_iff.mp H
             obtain ⟨⟨t154, t155⟩, A1380, H⟩ := H
             replace H : ((laws_toSpace.f kj95 a1_0 l1_1).bind fun bt158 => ((impl_MeetOfSpaces.f t154 t155 bt158.1 bt158.2).bind fun bt162 => ((laws_eqSpace.f kj95 bt162.1 bt162.2.1 t113 t114).bind fun t168 => (if t168 = true then (laws_FnExactMeetOfSpaces.j2 kj95 t151 (bt162.2.2 != t117) t129 t152) else (laws_FnExactMeetOfSpaces.j2 kj95 t151 true t129 t152))))) = some r := H
             have A138 := asd A1380
             clear A1380
             replace H := Option.bind_eq_some_iff.mp H
             obtain ⟨⟨t158, t159⟩, A1390, H⟩ := H
             replace H : ((impl_MeetOfSpaces.f t154 t155 t158 t159).bind fun bt162 => ((laws_eqSpace.f kj95 bt162.1 bt162.2.1 t113 t114).bind fun t168 => (if t168 = true then (laws_FnExactMeetOfSpaces.j2 kj95 t151 (bt162.2.2 != t117) t129 t152) else (laws_FnExactMeetOfSpaces.j2 kj95 t151 true t129 t152)))) = some r := H
             have A139 := asd A1390
             clear A1390
             replace H := Option.bind_eq_some_iff.mp H
             obtain ⟨⟨t162, t163, t166⟩, A1400, H⟩ := H
             replace H : ((laws_eqSpace.f kj95 t162 t163 t113 t114).bind fun t168 => (if t168 = true then (laws_FnExactMeetOfSpaces.j2 kj95 t151 (t166 != t117) t129 t152) else (laws_FnExactMeetOfSpaces.j2 kj95 t151 true t129 t152))) = some r := H
             have A140 := asd A1400
             clear A1400
             have HC141 := asd H
             clear H
             have hnb142 := NB134_101.out
             have hnc142 := NB101_134.out
             have hnb143 := NB134_102.out
             have hnc143 := NB102_134.out
             have hnb144 := NB134_118.out
             have hnc144 := NB118_134.out
             have hcz145_0 : wc.cell? ⟨gb134, 0, none⟩ = some (.int .i64 t129) := (blk_cell BK134.out 0).trans rfl
             have hcz145_1 : wc.cell? ⟨gb134, 1, none⟩ = some (.slice Ao72 t130.length co72) := (blk_cell BK134.out 1).trans rfl
             have hfz145_0 := blk_frozen BK134.out 0
             have hfz145_1 := blk_frozen BK134.out 1
             try go_wp2_with (first | ((with_reducible refine gate_callee (f := 18) rfl ?_); refine goesL_ (some 85) rfl rfl Try.func18 (by kernel_rfl) rfl #[.agg #[.int .i64 t129, .slice Ao72 t130.length co72], .int .i64 1] rfl (by (try simp only [List.map_toArray, List.map_cons, List.map_nil]); first | done | rfl | (simp only [List.length_drop, List.length_take]; rfl)) ?_; (with_reducible refine (laws_markSpace.calls kj95 t129 (fun k_ => some k_ = (.slice Ao72 t130.length co72 : Value).ownBlock) (.slice Ao72 t130.length co72) t130 1 t151 t152 w _ ?side1 ?side2 A134.out).mono ?_); (case side1 => repeat (first | (with_reducible first | exact HB.out | apply below_alloc | apply pw_below_drewN | apply below_drew1 | refine below_set ?_ GE101.out | refine below_set ?_ GE102.out | refine below_set ?_ GE118.out | refine below_set ?_ GE134.out) | exact HB.out)); (case side2 => exact Kd.R_tight rfl HO_135001.out); rintro e w146 ⟨rfl, hy0, hb, hkp⟩; refine ⟨_, rfl, ?_⟩; have n0_ := asd (Kd.R_mono (ok' := fun k_ => some k_ ≠ (.slice Ao72 t130.length co72 : Value).ownBlock) (Kd.R_keptB (HO_119001.out) hkp (fun k_ hk_ hs_ => (hk_) hs_)) (fun k_ hk_ => hk_.1)); have n1_ := asd (Kd.R_reok rfl hy0 (fun k_ e_ => HO_135001.out.1 k_ e_)); have n2_ := asd (blk_kept (upB BK101.out) hkp (fun hs_ => (fun e_ => (Kd.R_ne HO_135001.out BK101.out (by decide)) e_) hs_)); have n3_ := asd (blk_kept (upB BK102.out) hkp (fun hs_ => (fun e_ => (Kd.R_ne HO_135001.out BK102.out (by decide)) e_) hs_)); have n4_ := asd (blk_kept (upB BK118.out) hkp (fun hs_ => (fun e_ => (Kd.R_ne HO_135001.out BK118.out (by decide)) e_) hs_)); have n5_ := asd (blk_kept (upB BK134.out) hkp (fun hs_ => (fun e_ => (Kd.R_ne HO_135001.out BK134.out (by decide)) e_) hs_)); have n6_ := asd (hb); clear HO_119001; clear HO_135001; clear BK101; clear BK102; clear BK118; clear BK134; clear HB; have HO_119001 := n0_; have HO_135001 := n1_; have BK101 := n2_; have BK102 := n3_; have BK118 := n4_; have BK134 := n5_; have HB := n6_; clear n0_ n1_ n2_ n3_ n4_ n5_ n6_; (try clear hb); (try clear hkp); (try clear hy0); have hcz147_0 : w146.cell? ⟨gb134, 0, none⟩ = some (.int .i64 t129) := (blk_cell BK134.out 0).trans rfl; have hcz147_1 : w146.cell? ⟨gb134, 1, none⟩ = some (.slice Ao72 t130.length co72) := (blk_cell BK134.out 1).trans rfl; have hfz147_0 := blk_frozen BK134.out 0; have hfz147_1 := blk_frozen BK134.out 1) | ((with_reducible refine gate_callee (f := 19) rfl ?_); refine goesL_ (some 88) rfl rfl Try.func19 (by kernel_rfl) rfl #[.agg #[.int .i64 t129, .slice Ao72 t152.length co72], .int .i64 1] rfl (by (try simp only [List.map_toArray, List.map_cons, List.map_nil]); first | done | (rw [show t152.length = t130.length from (Kd.R_reads' HO_135001.out).1.symm] <;> rfl) | rfl | (simp only [List.length_drop, List.length_take]; rfl)) ?_; (with_reducible refine (laws_heldSpace.calls kj95 t129 _ _ t152 1 t153 _ ?side1 ?side2 A135.out).mono ?_); (case side1 => repeat (first | exact (Kd.R_reads' HO_135001.out).2.2 | (with_reducible refine Kd.C_alloc ?_ _) | (with_reducible refine Kd.C_drewN ?_ _) | (with_reducible refine Kd.C_drew ?_))); (case side2 => rw [show t152.length = t130.length from (Kd.R_reads' HO_135001.out).1.symm]; exact (Kd.R_reads' HO_135001.out).2.1); rintro e w148 ⟨rfl, hb⟩; refine ⟨_, rfl, ?_⟩; have n0_ := asd (Kd.R_below (upR <| HO_119001.out) hb); have n1_ := asd (Kd.R_below (upR <| HO_135001.out) hb); have n2_ := asd (blk_below (upB BK101.out) hb); have n3_ := asd (blk_below (upB BK102.out) hb); have n4_ := asd (blk_below (upB BK118.out) hb); have n5_ := asd (blk_below (upB BK134.out) hb); have n6_ := asd (below_step (by repeat (first | (with_reducible first | exact HB.out | apply below_alloc | apply pw_below_drewN | apply below_drew1 | refine below_set ?_ GE101.out | refine below_set ?_ GE102.out | refine below_set ?_ GE118.out | refine below_set ?_ GE134.out) | exact HB.out)) hb); clear HO_119001; clear HO_135001; clear BK101; clear BK102; clear BK118; clear BK134; clear HB; have HO_119001 := n0_; have HO_135001 := n1_; have BK101 := n2_; have BK102 := n3_; have BK118 := n4_; have BK134 := n5_; have HB := n6_; clear n0_ n1_ n2_ n3_ n4_ n5_ n6_; (try clear hb); (try clear hb2); (try clear hk); (try clear hi)))
             have n0_ := asd (Kd.R_drew HO_119001.out)
             have n1_ := asd (Kd.R_drew HO_135001.out)
             have n2_ := asd (blk_drew BK101.out)
             have n3_ := asd (blk_drew BK102.out)
             have n4_ := asd (blk_drew BK118.out)
             have n5_ := asd (blk_drew BK134.out)
             have n6_ := asd (below_drew1 HB.out)
             clear HO_119001
             clear HO_135001
             clear BK101
             clear BK102
             clear BK118
             clear BK134
             clear HB
             have HO_119001 := n0_
             have HO_135001 := n1_
             have BK101 := n2_
             have BK102 := n3_
             have BK118 := n4_
             have BK134 := n5_
             have HB := n6_
             clear n0_ n1_ n2_ n3_ n4_ n5_ n6_
             refine start_ (n := 11) (S := fun w' => w'.cell? ⟨gb101, 0, none⟩ = some (.int .i64 a0_0) ∧ w'.cell? ⟨gb101, 1, none⟩ = some (.slice A0_1 l0_1.length c0_1) ∧ w'.cell? ⟨gb102, 0, none⟩ = some (.int .i64 a1_0) ∧ w'.cell? ⟨gb102, 1, none⟩ = some (.slice A1_1 l1_1.length c1_1)) (ds := []) #[false, false, false, false, false, false, false, false, false, false, false] (by kernel_rfl) rfl rfl ⟨(blk_cell BK101.out 0).trans rfl, (blk_cell BK101.out 1).trans rfl, (blk_cell BK102.out 0).trans rfl, (blk_cell BK102.out 1).trans rfl⟩ (fun hHeld => ?_); refine with_tabW laws_FnExactMeetOfSpaces.tab31 laws_FnExactMeetOfSpaces.bits31 (fun HT_ HW_ => ?_)
             generalize w148.drew = w149 at HO_119001 HO_135001 BK101 BK102 BK118 BK134 HB hHeld ⊢
             refine take_ (i := 0) (N := some 95) (v := ?_) (a' := ?_) #[true, false, false, false, false, false, false, false, false, false, false] rfl rfl (take_ofW HT_.out HW_.out (by kernel_rfl)) (fun _ _ _ h => h) (Or.inl ⟨by rfl, ?_⟩) hHeld ?_ ?_
             rotate_left
             ·
              rintro w' ⟨s0, s1, s2, s3⟩
              go_simp
              with_reducible rfl
             rotate_left
             ·
              simp only [Act.put, List.setIfInBounds_toArray, List.set_cons_zero, List.set_cons_succ, i64_w, i32_w]
              rfl
             refine take_ (i := 2) (N := some 97) (v := ?_) (a' := ?_) #[true, false, true, false, false, false, false, false, false, false, false] rfl rfl (take_ofW HT_.out HW_.out (by kernel_rfl)) (fun _ _ _ h => h) (Or.inl ⟨by rfl, ?_⟩) hHeld ?_ ?_
             rotate_left
             ·
              rintro w' ⟨s0, s1, s2, s3⟩
              go_simp
              with_reducible rfl
             rotate_left
             ·
              simp only [Act.put, List.setIfInBounds_toArray, List.set_cons_zero, List.set_cons_succ, i64_w, i32_w]
              rfl
             refine join_ (σ := Value × Value × Value × Nat) 2 #[true, true, true, true, true, true, true, true, true, false, false] (fun s_ => [(96, .agg #[.int .i64 t154, s_.1]), (98, .agg #[.int .i64 t158, s_.2.1]), (99, .tuple #[.agg #[.int .i64 t162, s_.2.2.1], .bool t166]), (15, .pointer (some ⟨s_.2.2.2, 0, none⟩)), (94, .tuple #[.agg #[.int .i64 t162, s_.2.2.1], .bool t166]), (100, .agg #[.int .i64 t162, s_.2.2.1]), (101, .bool t166)]) (fun s_ w' => (w'.cell? ⟨gb101, 0, none⟩ = some (.int .i64 a0_0) ∧ w'.cell? ⟨gb101, 1, none⟩ = some (.slice A0_1 l0_1.length c0_1) ∧ w'.cell? ⟨gb102, 0, none⟩ = some (.int .i64 a1_0) ∧ w'.cell? ⟨gb102, 1, none⟩ = some (.slice A1_1 l1_1.length c1_1)) ∧ (Kd.R (Kd.int .i64) 3 w' w.heap.size (fun k_ => some k_ ≠ (s_.2.1 : Value).ownBlock ∧ some k_ ≠ (s_.2.2.1 : Value).ownBlock ∧ some k_ ≠ (.slice Ao42 t114.length co42 : Value).ownBlock ∧ some k_ ≠ (.slice Ao72 t130.length co72 : Value).ownBlock) s_.1 t155) ∧ (Kd.R (Kd.int .i64) 3 w' w.heap.size (fun k_ => some k_ ≠ (s_.1 : Value).ownBlock ∧ some k_ ≠ (s_.2.2.1 : Value).ownBlock ∧ some k_ ≠ (.slice Ao42 t114.length co42 : Value).ownBlock ∧ some k_ ≠ (.slice Ao72 t130.length co72 : Value).ownBlock) s_.2.1 t159) ∧ (Kd.R (Kd.int .i64) 3 w' w.heap.size (fun k_ => some k_ ≠ (s_.1 : Value).ownBlock ∧ some k_ ≠ (s_.2.1 : Value).ownBlock ∧ some k_ ≠ (.slice Ao42 t114.length co42 : Value).ownBlock ∧ some k_ ≠ (.slice Ao72 t130.length co72 : Value).ownBlock) s_.2.2.1 t163) ∧ (Kd.R (Kd.int .i64) 3 w' w.heap.size (fun k_ => some k_ ≠ (s_.1 : Value).ownBlock ∧ some k_ ≠ (s_.2.1 : Value).ownBlock ∧ some k_ ≠ (s_.2.2.1 : Value).ownBlock ∧ some k_ ≠ (.slice Ao72 t130.length co72 : Value).ownBlock) (.slice Ao42 t114.length co42) t114) ∧ (Kd.R (Kd.int .i64) 3 w' w.heap.size (fun k_ => some k_ ≠ (s_.1 : Value).ownBlock ∧ some k_ ≠ (s_.2.1 : Value).ownBlock ∧ some k_ ≠ (s_.2.2.1 : Value).ownBlock ∧ some k_ ≠ (.slice Ao42 t114.length co42 : Value).ownBlock) (.slice Ao72 t130.length co72) t152) ∧ (w'.heap[gb101]? = some (.cells #[.int .i64 a0_0, .slice A0_1 l0_1.length c0_1] 24 (0, 0))) ∧ (w'.heap[gb102]? = some (.cells #[.int .i64 a1_0, .slice A1_1 l1_1.length c1_1] 24 (0, 0))) ∧ (w'.heap[gb118]? = some (.cells #[.int .i64 t113, .slice Ao42 t114.length co42] 26 (0, 0))) ∧ (w'.heap[gb134]? = some (.cells #[.int .i64 t129, .slice Ao72 t130.length co72] 26 (0, 0))) ∧ (w'.heap[s_.2.2.2]? = some (.cells #[.int .i64 0, .slice none 0 0] 26 (0, 0))) ∧ (w.heap.size ≤ s_.2.2.2) ∧ (w.heap.size ≤ s_.2.2.2) ∧ (gb101 ≠ s_.2.2.2) ∧ (s_.2.2.2 ≠ gb101) ∧ (gb102 ≠ s_.2.2.2) ∧ (s_.2.2.2 ≠ gb102) ∧ (gb118 ≠ s_.2.2.2) ∧ (s_.2.2.2 ≠ gb118) ∧ (gb134 ≠ s_.2.2.2) ∧ (s_.2.2.2 ≠ gb134) ∧ (Below w.heap.size w w')) ?_ ?_
             rotate_left
             ·
              intro hCont
              refine two_ (i := 1) (j := 8) (Ni := some 96) (Nj := some 15) #[true, true, true, false, false, false, false, false, false, false, false] #[true, false, true, false, false, false, false, false, true, false, false] rfl rfl rfl rfl (two_of HT_.out (by kernel_rfl)) (by decide) (by decide) (fun K hK => ?_) (fun K hK => ?_)
              ·
               skip
               refine goes_ Try.func15 (by kernel_rfl) rfl #[.agg #[.int .i64 a0_0, .slice A0_1 l0_1.length c0_1]] (by rfl) rfl rfl (by (try simp only [List.map_toArray, List.map_cons, List.map_nil]); first | done | rfl | (simp only [List.length_drop, List.length_take]; rfl)) ?_
               with_reducible refine (laws_toSpace.calls kj95 a0_0 _ _ l0_1 t154 t155 _ ?side1 ?side2 A138.out).mono ?_
               (case side1 => repeat (first | exact (Kd.C_below HR0_1.out HB.out) | (with_reducible refine Kd.C_alloc ?_ _) | (with_reducible refine Kd.C_drewN ?_ _) | (with_reducible refine Kd.C_drew ?_)))
               (case side2 => exact HC0_1.out)
               rintro e w150 ⟨v156, rfl, ho0, hb⟩
               refine ⟨_, rfl, ?_⟩
               have n0_ := asd (Kd.R_elder' (upR <| HO_119001.out) (Kd.R_base ho0) hb)
               have n1_ := asd (Kd.R_elder' (upR <| HO_135001.out) (Kd.R_base ho0) hb)
               have n2_ := asd (Kd.R_lower (Kd.R_new' (Kd.R_new' ho0 (Kd.R_lt (upR <| HO_119001.out))) (Kd.R_lt (upR <| HO_135001.out))) (below_size (by repeat (first | (with_reducible first | exact HB.out | apply below_alloc | apply pw_below_drewN | apply below_drew1 | refine below_set ?_ GE101.out | refine below_set ?_ GE102.out | refine below_set ?_ GE118.out | refine below_set ?_ GE134.out) | exact HB.out))))
               have n3_ := asd (blk_below (upB BK101.out) hb)
               have n4_ := asd (blk_below (upB BK102.out) hb)
               have n5_ := asd (blk_below (upB BK118.out) hb)
               have n6_ := asd (blk_below (upB BK134.out) hb)
               have n7_ := asd (below_step (by repeat (first | (with_reducible first | exact HB.out | apply below_alloc | apply pw_below_drewN | apply below_drew1 | refine below_set ?_ GE101.out | refine below_set ?_ GE102.out | refine below_set ?_ GE118.out | refine below_set ?_ GE134.out) | exact HB.out)) hb)
               clear HO_119001
               clear HO_135001
               clear BK101
               clear BK102
               clear BK118
               clear BK134
               clear HB
               have HO_119001 := n0_
               have HO_135001 := n1_
               have HO157 := n2_
               have BK101 := n3_
               have BK102 := n4_
               have BK118 := n5_
               have BK134 := n6_
               have HB := n7_
               clear n0_ n1_ n2_ n3_ n4_ n5_ n6_ n7_
               (try clear hb)
               (try clear hb2)
               (try clear hk)
               (try clear hi)
               (try clear ho0)
               refine hK.out _ _ ⟨(blk_cell BK101.out 0).trans rfl, (blk_cell BK101.out 1).trans rfl, (blk_cell BK102.out 0).trans rfl, (blk_cell BK102.out 1).trans rfl⟩ (fun hHeld => ?_)
               clear hK K
               refine norm_ (a' := ?_) ?_ ?_
               rotate_left
               ·
                show Act.put _ (some 96) _ = _
                simp only [Act.put, List.setIfInBounds_toArray, List.set_cons_zero, List.set_cons_succ, i64_w, i32_w]
                rfl
               refine two_ (i := 3) (j := 8) (Ni := some 98) (Nj := some 15) #[true, true, true, true, false, false, false, false, false, false, false] #[true, true, true, false, false, false, false, false, true, false, false] rfl rfl rfl rfl (two_of HT_.out (by kernel_rfl)) (by decide) (by decide) (fun K hK => ?_) (fun K hK => ?_)
               ·
                skip
                refine goes_ Try.func15 (by kernel_rfl) rfl #[.agg #[.int .i64 a1_0, .slice A1_1 l1_1.length c1_1]] (by rfl) rfl rfl (by (try simp only [List.map_toArray, List.map_cons, List.map_nil]); first | done | rfl | (simp only [List.length_drop, List.length_take]; rfl)) ?_
                with_reducible refine (laws_toSpace.calls kj95 a1_0 _ _ l1_1 t158 t159 _ ?side1 ?side2 A139.out).mono ?_
                (case side1 => repeat (first | exact (Kd.C_below HR1_1.out HB.out) | (with_reducible refine Kd.C_alloc ?_ _) | (with_reducible refine Kd.C_drewN ?_ _) | (with_reducible refine Kd.C_drew ?_)))
                (case side2 => exact HC1_1.out)
                rintro e w151 ⟨v160, rfl, ho0, hb⟩
                refine ⟨_, rfl, ?_⟩
                have n0_ := asd (Kd.R_elder' (upR <| HO_119001.out) (Kd.R_base ho0) hb)
                have n1_ := asd (Kd.R_elder' (upR <| HO_135001.out) (Kd.R_base ho0) hb)
                have n2_ := asd (Kd.R_elder' (upR <| HO157.out) (Kd.R_base ho0) hb)
                have n3_ := asd (Kd.R_lower (Kd.R_new' (Kd.R_new' (Kd.R_new' ho0 (Kd.R_lt (upR <| HO_119001.out))) (Kd.R_lt (upR <| HO_135001.out))) (Kd.R_lt (upR <| HO157.out))) (below_size (by repeat (first | (with_reducible first | exact HB.out | apply below_alloc | apply pw_below_drewN | apply below_drew1 | refine below_set ?_ GE101.out | refine below_set ?_ GE102.out | refine below_set ?_ GE118.out | refine below_set ?_ GE134.out) | exact HB.out))))
                have n4_ := asd (blk_below (upB BK101.out) hb)
                have n5_ := asd (blk_below (upB BK102.out) hb)
                have n6_ := asd (blk_below (upB BK118.out) hb)
                have n7_ := asd (blk_below (upB BK134.out) hb)
                have n8_ := asd (below_step (by repeat (first | (with_reducible first | exact HB.out | apply below_alloc | apply pw_below_drewN | apply below_drew1 | refine below_set ?_ GE101.out | refine below_set ?_ GE102.out | refine below_set ?_ GE118.out | refine below_set ?_ GE134.out) | exact HB.out)) hb)
                clear HO_119001
                clear HO_135001
                clear HO157
                clear BK101
                clear BK102
                clear BK118
                clear BK134
                clear HB
                have HO_119001 := n0_
                have HO_135001 := n1_
                have HO157 := n2_
                have HO161 := n3_
                have BK101 := n4_
                have BK102 := n5_
                have BK118 := n6_
                have BK134 := n7_
                have HB := n8_
                clear n0_ n1_ n2_ n3_ n4_ n5_ n6_ n7_ n8_
                (try clear hb)
                (try clear hb2)
                (try clear hk)
                (try clear hi)
                (try clear ho0)
                obtain ⟨Ao152, co152, eo152⟩ := Kd.R_slice HO157.out
                (first | subst eo152 | (injection eo152 with f1_ f2_ f3_; have f4_ := f1_.symm; have f5_ := f3_.symm; clear f1_ f2_ f3_; subst f4_; subst f5_))
                obtain ⟨Ao153, co153, eo153⟩ := Kd.R_slice HO161.out
                (first | subst eo153 | (injection eo153 with f1_ f2_ f3_; have f4_ := f1_.symm; have f5_ := f3_.symm; clear f1_ f2_ f3_; subst f4_; subst f5_))
                refine hK.out _ _ ⟨(blk_cell BK101.out 0).trans rfl, (blk_cell BK101.out 1).trans rfl, (blk_cell BK102.out 0).trans rfl, (blk_cell BK102.out 1).trans rfl⟩ (fun hHeld => ?_)
                clear hK K
                refine norm_ (a' := ?_) ?_ ?_
                rotate_left
                ·
                 show Act.put _ (some 98) _ = _
                 simp only [Act.put, List.setIfInBounds_toArray, List.set_cons_zero, List.set_cons_succ, i64_w, i32_w]
                 rfl
                refine two_ (i := 4) (j := 8) (Ni := some 99) (Nj := some 15) #[true, true, true, true, true, false, false, false, false, false, false] #[true, true, true, true, false, false, false, false, true, false, false] rfl rfl rfl rfl (two_of HT_.out (by kernel_rfl)) (by decide) (by decide) (fun K hK => ?_) (fun K hK => ?_)
                ·
                 skip
                 refine goes_ Try.func16 (by kernel_rfl) rfl #[.agg #[.int .i64 t154, .slice Ao152 t155.length co152], .agg #[.int .i64 t158, .slice Ao153 t159.length co153]] (by rfl) rfl rfl (by (try simp only [List.map_toArray, List.map_cons, List.map_nil]); first | done | rfl | (simp only [List.length_drop, List.length_take]; rfl)) ?_
                 with_reducible refine (impl_MeetOfSpaces.calls t154 _ _ t155 t158 _ _ t159 t162 t163 t166 _ ?side1 ?side2 ?side3 ?side4 A140.out).mono ?_
                 (case side1 => repeat (first | exact (Kd.R_reads' HO157.out).2.2 | (with_reducible refine Kd.C_alloc ?_ _) | (with_reducible refine Kd.C_drewN ?_ _) | (with_reducible refine Kd.C_drew ?_)))
                 (case side2 => exact (Kd.R_reads' HO157.out).2.1)
                 (case side3 => repeat (first | exact (Kd.R_reads' HO161.out).2.2 | (with_reducible refine Kd.C_alloc ?_ _) | (with_reducible refine Kd.C_drewN ?_ _) | (with_reducible refine Kd.C_drew ?_)))
                 (case side4 => exact (Kd.R_reads' HO161.out).2.1)
                 rintro e w154 ⟨v164, rfl, ho0, hb⟩
                 refine ⟨_, rfl, ?_⟩
                 have n0_ := asd (Kd.R_elder' (upR <| HO_119001.out) (Kd.R_base ho0) hb)
                 have n1_ := asd (Kd.R_elder' (upR <| HO_135001.out) (Kd.R_base ho0) hb)
                 have n2_ := asd (Kd.R_elder' (upR <| HO157.out) (Kd.R_base ho0) hb)
                 have n3_ := asd (Kd.R_elder' (upR <| HO161.out) (Kd.R_base ho0) hb)
                 have n4_ := asd (Kd.R_lower (Kd.R_new' (Kd.R_new' (Kd.R_new' (Kd.R_new' ho0 (Kd.R_lt (upR <| HO_119001.out))) (Kd.R_lt (upR <| HO_135001.out))) (Kd.R_lt (upR <| HO157.out))) (Kd.R_lt (upR <| HO161.out))) (below_size (by repeat (first | (with_reducible first | exact HB.out | apply below_alloc | apply pw_below_drewN | apply below_drew1 | refine below_set ?_ GE101.out | refine below_set ?_ GE102.out | refine below_set ?_ GE118.out | refine below_set ?_ GE134.out) | exact HB.out))))
                 have n5_ := asd (blk_below (upB BK101.out) hb)
                 have n6_ := asd (blk_below (upB BK102.out) hb)
                 have n7_ := asd (blk_below (upB BK118.out) hb)
                 have n8_ := asd (blk_below (upB BK134.out) hb)
                 have n9_ := asd (below_step (by repeat (first | (with_reducible first | exact HB.out | apply below_alloc | apply pw_below_drewN | apply below_drew1 | refine below_set ?_ GE101.out | refine below_set ?_ GE102.out | refine below_set ?_ GE118.out | refine below_set ?_ GE134.out) | exact HB.out)) hb)
                 clear HO_119001
                 clear HO_135001
                 clear HO157
                 clear HO161
                 clear BK101
                 clear BK102
                 clear BK118
                 clear BK134
                 clear HB
                 have HO_119001 := n0_
                 have HO_135001 := n1_
                 have HO157 := n2_
                 have HO161 := n3_
                 have HO165 := n4_
                 have BK101 := n5_
                 have BK102 := n6_
                 have BK118 := n7_
                 have BK134 := n8_
                 have HB := n9_
                 clear n0_ n1_ n2_ n3_ n4_ n5_ n6_ n7_ n8_ n9_
                 (try clear hb)
                 (try clear hb2)
                 (try clear hk)
                 (try clear hi)
                 (try clear ho0)
                 refine hK.out _ _ ⟨(blk_cell BK101.out 0).trans rfl, (blk_cell BK101.out 1).trans rfl, (blk_cell BK102.out 0).trans rfl, (blk_cell BK102.out 1).trans rfl⟩ (fun hHeld => ?_)
                 clear hK K
                 refine norm_ (a' := ?_) ?_ ?_
                 rotate_left
                 ·
                  show Act.put _ (some 99) _ = _
                  simp only [Act.put, List.setIfInBounds_toArray, List.set_cons_zero, List.set_cons_succ, i64_w, i32_w]
                  rfl
                 refine pure_ (i := 5) (N := some 94) (v := ?_) (a' := ?_) #[true, true, true, true, true, true, false, false, false, false, false] rfl rfl (any_of HT_.out (by kernel_rfl)) (fun _ _ _ h => h) (Or.inl ⟨by rfl, ?_⟩) ?_ ?_
                 rotate_left
                 ·
                  intro w'
                  go_simp
                  with_reducible rfl
                 rotate_left
                 ·
                  simp only [Act.put, List.setIfInBounds_toArray, List.set_cons_zero, List.set_cons_succ, i64_w, i32_w]
                  rfl
                 refine pure_ (i := 6) (N := some 100) (v := ?_) (a' := ?_) #[true, true, true, true, true, true, true, false, false, false, false] rfl rfl (any_of HT_.out (by kernel_rfl)) (fun _ _ _ h => h) (Or.inl ⟨by rfl, ?_⟩) ?_ ?_
                 rotate_left
                 ·
                  intro w'
                  go_simp
                  with_reducible rfl
                 rotate_left
                 ·
                  simp only [Act.put, List.setIfInBounds_toArray, List.set_cons_zero, List.set_cons_succ, i64_w, i32_w]
                  rfl
                 refine pure_ (i := 7) (N := some 101) (v := ?_) (a' := ?_) #[true, true, true, true, true, true, true, true, false, false, false] rfl rfl (any_of HT_.out (by kernel_rfl)) (fun _ _ _ h => h) (Or.inl ⟨by rfl, ?_⟩) ?_ ?_
                 rotate_left
                 ·
                  intro w'
                  go_simp
                  with_reducible rfl
                 rotate_left
                 ·
                  simp only [Act.put, List.setIfInBounds_toArray, List.set_cons_zero, List.set_cons_succ, i64_w, i32_w]
                  rfl
                 refine one_ (i := 8) (N := some 15) #[true, true, true, true, true, true, true, true, true, false, false] rfl rfl (one_of HT_.out (by kernel_rfl)) (by decide) (fun K hK => ?_)
                 refine box_step ?hg (N := 15) ?hd (cs := #[.int .i64 0, .slice none 0 0]) (t := 26) ?hr ?_; (case hd => rfl); (case hg => rfl); (case hr => first | (go_simp; done) | (go_simp; rfl))
                 intro gb167 hg w155 hbox hb
                 have n0_ := asd (Kd.R_below (upR <| HO_119001.out) hb)
                 have n1_ := asd (Kd.R_below (upR <| HO_135001.out) hb)
                 have n2_ := asd (Kd.R_below (upR <| HO157.out) hb)
                 have n3_ := asd (Kd.R_below (upR <| HO161.out) hb)
                 have n4_ := asd (Kd.R_below (upR <| HO165.out) hb)
                 have n5_ := asd (blk_below (upB BK101.out) hb)
                 have n6_ := asd (blk_below (upB BK102.out) hb)
                 have n7_ := asd (blk_below (upB BK118.out) hb)
                 have n8_ := asd (blk_below (upB BK134.out) hb)
                 have n9_ := asd (below_step (by repeat (first | (with_reducible first | exact HB.out | apply below_alloc | apply pw_below_drewN | apply below_drew1 | refine below_set ?_ GE101.out | refine below_set ?_ GE102.out | refine below_set ?_ GE118.out | refine below_set ?_ GE134.out) | exact HB.out)) hb)
                 have n10_ := asd (hbox)
                 have n11_ := asd ((by rw [hg]; exact (below_size (by repeat (first | (with_reducible first | exact HB.out | apply below_alloc | apply pw_below_drewN | apply below_drew1 | refine below_set ?_ GE101.out | refine below_set ?_ GE102.out | refine below_set ?_ GE118.out | refine below_set ?_ GE134.out) | exact HB.out))) : w.heap.size ≤ gb167))
                 have n12_ := asd ((by rw [hg]; exact (below_size (by repeat (first | (with_reducible first | exact HB.out | apply below_alloc | apply pw_below_drewN | apply below_drew1 | refine below_set ?_ GE101.out | refine below_set ?_ GE102.out | refine below_set ?_ GE118.out | refine below_set ?_ GE134.out) | exact HB.out))) : w.heap.size ≤ gb167))
                 have n13_ := asd ((by rw [hg]; exact Nat.ne_of_lt (blk_lt (upB BK101.out)) : gb101 ≠ gb167))
                 have n14_ := asd ((by rw [hg]; exact Nat.ne_of_gt (blk_lt (upB BK101.out)) : gb167 ≠ gb101))
                 have n15_ := asd ((by rw [hg]; exact Nat.ne_of_lt (blk_lt (upB BK102.out)) : gb102 ≠ gb167))
                 have n16_ := asd ((by rw [hg]; exact Nat.ne_of_gt (blk_lt (upB BK102.out)) : gb167 ≠ gb102))
                 have n17_ := asd ((by rw [hg]; exact Nat.ne_of_lt (blk_lt (upB BK118.out)) : gb118 ≠ gb167))
                 have n18_ := asd ((by rw [hg]; exact Nat.ne_of_gt (blk_lt (upB BK118.out)) : gb167 ≠ gb118))
                 have n19_ := asd ((by rw [hg]; exact Nat.ne_of_lt (blk_lt (upB BK134.out)) : gb134 ≠ gb167))
                 have n20_ := asd ((by rw [hg]; exact Nat.ne_of_gt (blk_lt (upB BK134.out)) : gb167 ≠ gb134))
                 clear HO_119001
                 clear HO_135001
                 clear HO157
                 clear HO161
                 clear HO165
                 clear BK101
                 clear BK102
                 clear BK118
                 clear BK134
                 clear HB
                 have HO_119001 := n0_
                 have HO_135001 := n1_
                 have HO157 := n2_
                 have HO161 := n3_
                 have HO165 := n4_
                 have BK101 := n5_
                 have BK102 := n6_
                 have BK118 := n7_
                 have BK134 := n8_
                 have HB := n9_
                 have BK167 := n10_
                 have GW167 := n11_
                 have GE167 := n12_
                 have NB101_167 := n13_
                 have NB167_101 := n14_
                 have NB102_167 := n15_
                 have NB167_102 := n16_
                 have NB118_167 := n17_
                 have NB167_118 := n18_
                 have NB134_167 := n19_
                 have NB167_134 := n20_
                 clear n0_ n1_ n2_ n3_ n4_ n5_ n6_ n7_ n8_ n9_ n10_ n11_ n12_ n13_ n14_ n15_ n16_ n17_ n18_ n19_ n20_
                 clear hb hbox hg
                 refine hK.out _ _ ⟨(blk_cell BK101.out 0).trans rfl, (blk_cell BK101.out 1).trans rfl, (blk_cell BK102.out 0).trans rfl, (blk_cell BK102.out 1).trans rfl⟩ (fun hHeld => ?_)
                 clear hK K
                 refine norm_ (a' := ?_) ?_ ?_
                 rotate_left
                 ·
                  show Act.put _ (some 15) _ = _
                  simp only [Act.put, List.setIfInBounds_toArray, List.set_cons_zero, List.set_cons_succ, i64_w, i32_w]
                  rfl
                 exact norm_ (by simp only [putAll, Act.put, List.setIfInBounds_toArray, List.set_cons_zero, List.set_cons_succ]) (hCont (.slice Ao152 t155.length co152, .slice Ao153 t159.length co153, v164, gb167) _ ⟨hHeld, (upR <| Kd.R_mono HO157.out (fun _ hk => ⟨hk.1.2, ⟨hk.2, ⟨hk.1.1.1.2, hk.1.1.2⟩⟩⟩)), (upR <| Kd.R_mono HO161.out (fun _ hk => ⟨hk.1.2, ⟨hk.2, ⟨hk.1.1.1.2, hk.1.1.2⟩⟩⟩)), (upR <| Kd.R_mono HO165.out (fun _ hk => ⟨hk.1.2, ⟨hk.2, ⟨hk.1.1.1.2, hk.1.1.2⟩⟩⟩)), (upR <| Kd.R_mono HO_119001.out (fun _ hk => ⟨hk.1.1.2, ⟨hk.1.2, ⟨hk.2, hk.1.1.1⟩⟩⟩)), (upR <| Kd.R_mono HO_135001.out (fun _ hk => ⟨hk.1.1.2, ⟨hk.1.2, ⟨hk.2, hk.1.1.1⟩⟩⟩)), (upB BK101.out), (upB BK102.out), (upB BK118.out), (upB BK134.out), (upB BK167.out), GW167.out, GE167.out, NB101_167.out, NB167_101.out, NB102_167.out, NB167_102.out, NB118_167.out, NB167_118.out, NB134_167.out, NB167_134.out, (by repeat (first | (with_reducible first | exact HB.out | apply below_alloc | apply pw_below_drewN | apply below_drew1 | refine below_set ?_ GE101.out | refine below_set ?_ GE102.out | refine below_set ?_ GE118.out | refine below_set ?_ GE134.out | refine below_set ?_ GE167.out) | exact HB.out))⟩)
                ·
                 skip
                 refine box_step ?hg (N := 15) ?hd (cs := #[.int .i64 0, .slice none 0 0]) (t := 26) ?hr ?_; (case hd => rfl); (case hg => rfl); (case hr => first | (go_simp; done) | (go_simp; rfl))
                 intro gb167 hg w152 hbox hb
                 have n0_ := asd (Kd.R_below (upR <| HO_119001.out) hb)
                 have n1_ := asd (Kd.R_below (upR <| HO_135001.out) hb)
                 have n2_ := asd (Kd.R_below (upR <| HO157.out) hb)
                 have n3_ := asd (Kd.R_below (upR <| HO161.out) hb)
                 have n4_ := asd (blk_below (upB BK101.out) hb)
                 have n5_ := asd (blk_below (upB BK102.out) hb)
                 have n6_ := asd (blk_below (upB BK118.out) hb)
                 have n7_ := asd (blk_below (upB BK134.out) hb)
                 have n8_ := asd (below_step (by repeat (first | (with_reducible first | exact HB.out | apply below_alloc | apply pw_below_drewN | apply below_drew1 | refine below_set ?_ GE101.out | refine below_set ?_ GE102.out | refine below_set ?_ GE118.out | refine below_set ?_ GE134.out) | exact HB.out)) hb)
                 have n9_ := asd (hbox)
                 have n10_ := asd ((by rw [hg]; exact (below_size (by repeat (first | (with_reducible first | exact HB.out | apply below_alloc | apply pw_below_drewN | apply below_drew1 | refine below_set ?_ GE101.out | refine below_set ?_ GE102.out | refine below_set ?_ GE118.out | refine below_set ?_ GE134.out) | exact HB.out))) : w.heap.size ≤ gb167))
                 have n11_ := asd ((by rw [hg]; exact (below_size (by repeat (first | (with_reducible first | exact HB.out | apply below_alloc | apply pw_below_drewN | apply below_drew1 | refine below_set ?_ GE101.out | refine below_set ?_ GE102.out | refine below_set ?_ GE118.out | refine below_set ?_ GE134.out) | exact HB.out))) : w.heap.size ≤ gb167))
                 have n12_ := asd ((by rw [hg]; exact Nat.ne_of_lt (blk_lt (upB BK101.out)) : gb101 ≠ gb167))
                 have n13_ := asd ((by rw [hg]; exact Nat.ne_of_gt (blk_lt (upB BK101.out)) : gb167 ≠ gb101))
                 have n14_ := asd ((by rw [hg]; exact Nat.ne_of_lt (blk_lt (upB BK102.out)) : gb102 ≠ gb167))
                 have n15_ := asd ((by rw [hg]; exact Nat.ne_of_gt (blk_lt (upB BK102.out)) : gb167 ≠ gb102))
                 have n16_ := asd ((by rw [hg]; exact Nat.ne_of_lt (blk_lt (upB BK118.out)) : gb118 ≠ gb167))
                 have n17_ := asd ((by rw [hg]; exact Nat.ne_of_gt (blk_lt (upB BK118.out)) : gb167 ≠ gb118))
                 have n18_ := asd ((by rw [hg]; exact Nat.ne_of_lt (blk_lt (upB BK134.out)) : gb134 ≠ gb167))
                 have n19_ := asd ((by rw [hg]; exact Nat.ne_of_gt (blk_lt (upB BK134.out)) : gb167 ≠ gb134))
                 clear HO_119001
                 clear HO_135001
                 clear HO157
                 clear HO161
                 clear BK101
                 clear BK102
                 clear BK118
                 clear BK134
                 clear HB
                 have HO_119001 := n0_
                 have HO_135001 := n1_
                 have HO157 := n2_
                 have HO161 := n3_
                 have BK101 := n4_
                 have BK102 := n5_
                 have BK118 := n6_
                 have BK134 := n7_
                 have HB := n8_
                 have BK167 := n9_
                 have GW167 := n10_
                 have GE167 := n11_
                 have NB101_167 := n12_
                 have NB167_101 := n13_
                 have NB102_167 := n14_
                 have NB167_102 := n15_
                 have NB118_167 := n16_
                 have NB167_118 := n17_
                 have NB134_167 := n18_
                 have NB167_134 := n19_
                 clear n0_ n1_ n2_ n3_ n4_ n5_ n6_ n7_ n8_ n9_ n10_ n11_ n12_ n13_ n14_ n15_ n16_ n17_ n18_ n19_
                 clear hb hbox hg
                 obtain ⟨Ao153, co153, eo153⟩ := Kd.R_slice HO157.out
                 (first | subst eo153 | (injection eo153 with f1_ f2_ f3_; have f4_ := f1_.symm; have f5_ := f3_.symm; clear f1_ f2_ f3_; subst f4_; subst f5_))
                 obtain ⟨Ao154, co154, eo154⟩ := Kd.R_slice HO161.out
                 (first | subst eo154 | (injection eo154 with f1_ f2_ f3_; have f4_ := f1_.symm; have f5_ := f3_.symm; clear f1_ f2_ f3_; subst f4_; subst f5_))
                 refine hK.out _ _ ⟨(blk_cell BK101.out 0).trans rfl, (blk_cell BK101.out 1).trans rfl, (blk_cell BK102.out 0).trans rfl, (blk_cell BK102.out 1).trans rfl⟩ (fun hHeld => ?_)
                 clear hK K
                 refine norm_ (a' := ?_) ?_ ?_
                 rotate_left
                 ·
                  show Act.put _ (some 15) _ = _
                  simp only [Act.put, List.setIfInBounds_toArray, List.set_cons_zero, List.set_cons_succ, i64_w, i32_w]
                  rfl
                 refine one_ (i := 4) (N := some 99) #[true, true, true, true, true, false, false, false, true, false, false] rfl rfl (one_of HT_.out (by kernel_rfl)) (by decide) (fun K hK => ?_)
                 refine goes_ Try.func16 (by kernel_rfl) rfl #[.agg #[.int .i64 t154, .slice Ao153 t155.length co153], .agg #[.int .i64 t158, .slice Ao154 t159.length co154]] (by rfl) rfl rfl (by (try simp only [List.map_toArray, List.map_cons, List.map_nil]); first | done | rfl | (simp only [List.length_drop, List.length_take]; rfl)) ?_
                 with_reducible refine (impl_MeetOfSpaces.calls t154 _ _ t155 t158 _ _ t159 t162 t163 t166 _ ?side1 ?side2 ?side3 ?side4 A140.out).mono ?_
                 (case side1 => repeat (first | exact (Kd.R_reads' HO157.out).2.2 | (with_reducible refine Kd.C_alloc ?_ _) | (with_reducible refine Kd.C_drewN ?_ _) | (with_reducible refine Kd.C_drew ?_)))
                 (case side2 => exact (Kd.R_reads' HO157.out).2.1)
                 (case side3 => repeat (first | exact (Kd.R_reads' HO161.out).2.2 | (with_reducible refine Kd.C_alloc ?_ _) | (with_reducible refine Kd.C_drewN ?_ _) | (with_reducible refine Kd.C_drew ?_)))
                 (case side4 => exact (Kd.R_reads' HO161.out).2.1)
                 rintro e w155 ⟨v164, rfl, ho0, hb⟩
                 refine ⟨_, rfl, ?_⟩
                 have n0_ := asd (Kd.R_elder' (upR <| HO_119001.out) (Kd.R_base ho0) hb)
                 have n1_ := asd (Kd.R_elder' (upR <| HO_135001.out) (Kd.R_base ho0) hb)
                 have n2_ := asd (Kd.R_elder' (upR <| HO157.out) (Kd.R_base ho0) hb)
                 have n3_ := asd (Kd.R_elder' (upR <| HO161.out) (Kd.R_base ho0) hb)
                 have n4_ := asd (Kd.R_lower (Kd.R_new' (Kd.R_new' (Kd.R_new' (Kd.R_new' ho0 (Kd.R_lt (upR <| HO_119001.out))) (Kd.R_lt (upR <| HO_135001.out))) (Kd.R_lt (upR <| HO157.out))) (Kd.R_lt (upR <| HO161.out))) (below_size (by repeat (first | (with_reducible first | exact HB.out | apply below_alloc | apply pw_below_drewN | apply below_drew1 | refine below_set ?_ GE101.out | refine below_set ?_ GE102.out | refine below_set ?_ GE118.out | refine below_set ?_ GE134.out | refine below_set ?_ GE167.out) | exact HB.out))))
                 have n5_ := asd (blk_below (upB BK101.out) hb)
                 have n6_ := asd (blk_below (upB BK102.out) hb)
                 have n7_ := asd (blk_below (upB BK118.out) hb)
                 have n8_ := asd (blk_below (upB BK134.out) hb)
                 have n9_ := asd (blk_below (upB BK167.out) hb)
                 have n10_ := asd (below_step (by repeat (first | (with_reducible first | exact HB.out | apply below_alloc | apply pw_below_drewN | apply below_drew1 | refine below_set ?_ GE101.out | refine below_set ?_ GE102.out | refine below_set ?_ GE118.out | refine below_set ?_ GE134.out | refine below_set ?_ GE167.out) | exact HB.out)) hb)
                 clear HO_119001
                 clear HO_135001
                 clear HO157
                 clear HO161
                 clear BK101
                 clear BK102
                 clear BK118
                 clear BK134
                 clear BK167
                 clear HB
                 have HO_119001 := n0_
                 have HO_135001 := n1_
                 have HO157 := n2_
                 have HO161 := n3_
                 have HO165 := n4_
                 have BK101 := n5_
                 have BK102 := n6_
                 have BK118 := n7_
                 have BK134 := n8_
                 have BK167 := n9_
                 have HB := n10_
                 clear n0_ n1_ n2_ n3_ n4_ n5_ n6_ n7_ n8_ n9_ n10_
                 (try clear hb)
                 (try clear hb2)
                 (try clear hk)
                 (try clear hi)
                 (try clear ho0)
                 refine hK.out _ _ ⟨(blk_cell BK101.out 0).trans rfl, (blk_cell BK101.out 1).trans rfl, (blk_cell BK102.out 0).trans rfl, (blk_cell BK102.out 1).trans rfl⟩ (fun hHeld => ?_)
                 clear hK K
                 refine norm_ (a' := ?_) ?_ ?_
                 rotate_left
                 ·
                  show Act.put _ (some 99) _ = _
                  simp only [Act.put, List.setIfInBounds_toArray, List.set_cons_zero, List.set_cons_succ, i64_w, i32_w]
                  rfl
                 refine pure_ (i := 5) (N := some 94) (v := ?_) (a' := ?_) #[true, true, true, true, true, true, false, false, true, false, false] rfl rfl (any_of HT_.out (by kernel_rfl)) (fun _ _ _ h => h) (Or.inl ⟨by rfl, ?_⟩) ?_ ?_
                 rotate_left
                 ·
                  intro w'
                  go_simp
                  with_reducible rfl
                 rotate_left
                 ·
                  simp only [Act.put, List.setIfInBounds_toArray, List.set_cons_zero, List.set_cons_succ, i64_w, i32_w]
                  rfl
                 refine pure_ (i := 6) (N := some 100) (v := ?_) (a' := ?_) #[true, true, true, true, true, true, true, false, true, false, false] rfl rfl (any_of HT_.out (by kernel_rfl)) (fun _ _ _ h => h) (Or.inl ⟨by rfl, ?_⟩) ?_ ?_
                 rotate_left
                 ·
                  intro w'
                  go_simp
                  with_reducible rfl
                 rotate_left
                 ·
                  simp only [Act.put, List.setIfInBounds_toArray, List.set_cons_zero, List.set_cons_succ, i64_w, i32_w]
                  rfl
                 refine pure_ (i := 7) (N := some 101) (v := ?_) (a' := ?_) #[true, true, true, true, true, true, true, true, true, false, false] rfl rfl (any_of HT_.out (by kernel_rfl)) (fun _ _ _ h => h) (Or.inl ⟨by rfl, ?_⟩) ?_ ?_
                 rotate_left
                 ·
                  intro w'
                  go_simp
                  with_reducible rfl
                 rotate_left
                 ·
                  simp only [Act.put, List.setIfInBounds_toArray, List.set_cons_zero, List.set_cons_succ, i64_w, i32_w]
                  rfl
                 exact norm_ (by simp only [putAll, Act.put, List.setIfInBounds_toArray, List.set_cons_zero, List.set_cons_succ]) (hCont (.slice Ao153 t155.length co153, .slice Ao154 t159.length co154, v164, gb167) _ ⟨hHeld, (upR <| Kd.R_mono HO157.out (fun _ hk => ⟨hk.1.2, ⟨hk.2, ⟨hk.1.1.1.2, hk.1.1.2⟩⟩⟩)), (upR <| Kd.R_mono HO161.out (fun _ hk => ⟨hk.1.2, ⟨hk.2, ⟨hk.1.1.1.2, hk.1.1.2⟩⟩⟩)), (upR <| Kd.R_mono HO165.out (fun _ hk => ⟨hk.1.2, ⟨hk.2, ⟨hk.1.1.1.2, hk.1.1.2⟩⟩⟩)), (upR <| Kd.R_mono HO_119001.out (fun _ hk => ⟨hk.1.1.2, ⟨hk.1.2, ⟨hk.2, hk.1.1.1⟩⟩⟩)), (upR <| Kd.R_mono HO_135001.out (fun _ hk => ⟨hk.1.1.2, ⟨hk.1.2, ⟨hk.2, hk.1.1.1⟩⟩⟩)), (upB BK101.out), (upB BK102.out), (upB BK118.out), (upB BK134.out), (upB BK167.out), GW167.out, GE167.out, NB101_167.out, NB167_101.out, NB102_167.out, NB167_102.out, NB118_167.out, NB167_118.out, NB134_167.out, NB167_134.out, (by repeat (first | (with_reducible first | exact HB.out | apply below_alloc | apply pw_below_drewN | apply below_drew1 | refine below_set ?_ GE101.out | refine below_set ?_ GE102.out | refine below_set ?_ GE118.out | refine below_set ?_ GE134.out | refine below_set ?_ GE167.out) | exact HB.out))⟩)
               ·
                skip
                refine box_step ?hg (N := 15) ?hd (cs := #[.int .i64 0, .slice none 0 0]) (t := 26) ?hr ?_; (case hd => rfl); (case hg => rfl); (case hr => first | (go_simp; done) | (go_simp; rfl))
                intro gb167 hg w151 hbox hb
                have n0_ := asd (Kd.R_below (upR <| HO_119001.out) hb)
                have n1_ := asd (Kd.R_below (upR <| HO_135001.out) hb)
                have n2_ := asd (Kd.R_below (upR <| HO157.out) hb)
                have n3_ := asd (blk_below (upB BK101.out) hb)
                have n4_ := asd (blk_below (upB BK102.out) hb)
                have n5_ := asd (blk_below (upB BK118.out) hb)
                have n6_ := asd (blk_below (upB BK134.out) hb)
                have n7_ := asd (below_step (by repeat (first | (with_reducible first | exact HB.out | apply below_alloc | apply pw_below_drewN | apply below_drew1 | refine below_set ?_ GE101.out | refine below_set ?_ GE102.out | refine below_set ?_ GE118.out | refine below_set ?_ GE134.out) | exact HB.out)) hb)
                have n8_ := asd (hbox)
                have n9_ := asd ((by rw [hg]; exact (below_size (by repeat (first | (with_reducible first | exact HB.out | apply below_alloc | apply pw_below_drewN | apply below_drew1 | refine below_set ?_ GE101.out | refine below_set ?_ GE102.out | refine below_set ?_ GE118.out | refine below_set ?_ GE134.out) | exact HB.out))) : w.heap.size ≤ gb167))
                have n10_ := asd ((by rw [hg]; exact (below_size (by repeat (first | (with_reducible first | exact HB.out | apply below_alloc | apply pw_below_drewN | apply below_drew1 | refine below_set ?_ GE101.out | refine below_set ?_ GE102.out | refine below_set ?_ GE118.out | refine below_set ?_ GE134.out) | exact HB.out))) : w.heap.size ≤ gb167))
                have n11_ := asd ((by rw [hg]; exact Nat.ne_of_lt (blk_lt (upB BK101.out)) : gb101 ≠ gb167))
                have n12_ := asd ((by rw [hg]; exact Nat.ne_of_gt (blk_lt (upB BK101.out)) : gb167 ≠ gb101))
                have n13_ := asd ((by rw [hg]; exact Nat.ne_of_lt (blk_lt (upB BK102.out)) : gb102 ≠ gb167))
                have n14_ := asd ((by rw [hg]; exact Nat.ne_of_gt (blk_lt (upB BK102.out)) : gb167 ≠ gb102))
                have n15_ := asd ((by rw [hg]; exact Nat.ne_of_lt (blk_lt (upB BK118.out)) : gb118 ≠ gb167))
                have n16_ := asd ((by rw [hg]; exact Nat.ne_of_gt (blk_lt (upB BK118.out)) : gb167 ≠ gb118))
                have n17_ := asd ((by rw [hg]; exact Nat.ne_of_lt (blk_lt (upB BK134.out)) : gb134 ≠ gb167))
                have n18_ := asd ((by rw [hg]; exact Nat.ne_of_gt (blk_lt (upB BK134.out)) : gb167 ≠ gb134))
                clear HO_119001
                clear HO_135001
                clear HO157
                clear BK101
                clear BK102
                clear BK118
                clear BK134
                clear HB
                have HO_119001 := n0_
                have HO_135001 := n1_
                have HO157 := n2_
                have BK101 := n3_
                have BK102 := n4_
                have BK118 := n5_
                have BK134 := n6_
                have HB := n7_
                have BK167 := n8_
                have GW167 := n9_
                have GE167 := n10_
                have NB101_167 := n11_
                have NB167_101 := n12_
                have NB102_167 := n13_
                have NB167_102 := n14_
                have NB118_167 := n15_
                have NB167_118 := n16_
                have NB134_167 := n17_
                have NB167_134 := n18_
                clear n0_ n1_ n2_ n3_ n4_ n5_ n6_ n7_ n8_ n9_ n10_ n11_ n12_ n13_ n14_ n15_ n16_ n17_ n18_
                clear hb hbox hg
                refine hK.out _ _ ⟨(blk_cell BK101.out 0).trans rfl, (blk_cell BK101.out 1).trans rfl, (blk_cell BK102.out 0).trans rfl, (blk_cell BK102.out 1).trans rfl⟩ (fun hHeld => ?_)
                clear hK K
                refine norm_ (a' := ?_) ?_ ?_
                rotate_left
                ·
                 show Act.put _ (some 15) _ = _
                 simp only [Act.put, List.setIfInBounds_toArray, List.set_cons_zero, List.set_cons_succ, i64_w, i32_w]
                 rfl
                refine one_ (i := 3) (N := some 98) #[true, true, true, true, false, false, false, false, true, false, false] rfl rfl (one_of HT_.out (by kernel_rfl)) (by decide) (fun K hK => ?_)
                refine goes_ Try.func15 (by kernel_rfl) rfl #[.agg #[.int .i64 a1_0, .slice A1_1 l1_1.length c1_1]] (by rfl) rfl rfl (by (try simp only [List.map_toArray, List.map_cons, List.map_nil]); first | done | rfl | (simp only [List.length_drop, List.length_take]; rfl)) ?_
                with_reducible refine (laws_toSpace.calls kj95 a1_0 _ _ l1_1 t158 t159 _ ?side1 ?side2 A139.out).mono ?_
                (case side1 => repeat (first | exact (Kd.C_below HR1_1.out HB.out) | (with_reducible refine Kd.C_alloc ?_ _) | (with_reducible refine Kd.C_drewN ?_ _) | (with_reducible refine Kd.C_drew ?_)))
                (case side2 => exact HC1_1.out)
                rintro e w152 ⟨v160, rfl, ho0, hb⟩
                refine ⟨_, rfl, ?_⟩
                have n0_ := asd (Kd.R_elder' (upR <| HO_119001.out) (Kd.R_base ho0) hb)
                have n1_ := asd (Kd.R_elder' (upR <| HO_135001.out) (Kd.R_base ho0) hb)
                have n2_ := asd (Kd.R_elder' (upR <| HO157.out) (Kd.R_base ho0) hb)
                have n3_ := asd (Kd.R_lower (Kd.R_new' (Kd.R_new' (Kd.R_new' ho0 (Kd.R_lt (upR <| HO_119001.out))) (Kd.R_lt (upR <| HO_135001.out))) (Kd.R_lt (upR <| HO157.out))) (below_size (by repeat (first | (with_reducible first | exact HB.out | apply below_alloc | apply pw_below_drewN | apply below_drew1 | refine below_set ?_ GE101.out | refine below_set ?_ GE102.out | refine below_set ?_ GE118.out | refine below_set ?_ GE134.out | refine below_set ?_ GE167.out) | exact HB.out))))
                have n4_ := asd (blk_below (upB BK101.out) hb)
                have n5_ := asd (blk_below (upB BK102.out) hb)
                have n6_ := asd (blk_below (upB BK118.out) hb)
                have n7_ := asd (blk_below (upB BK134.out) hb)
                have n8_ := asd (blk_below (upB BK167.out) hb)
                have n9_ := asd (below_step (by repeat (first | (with_reducible first | exact HB.out | apply below_alloc | apply pw_below_drewN | apply below_drew1 | refine below_set ?_ GE101.out | refine below_set ?_ GE102.out | refine below_set ?_ GE118.out | refine below_set ?_ GE134.out | refine below_set ?_ GE167.out) | exact HB.out)) hb)
                clear HO_119001
                clear HO_135001
                clear HO157
                clear BK101
                clear BK102
                clear BK118
                clear BK134
                clear BK167
                clear HB
                have HO_119001 := n0_
                have HO_135001 := n1_
                have HO157 := n2_
                have HO161 := n3_
                have BK101 := n4_
                have BK102 := n5_
                have BK118 := n6_
                have BK134 := n7_
                have BK167 := n8_
                have HB := n9_
                clear n0_ n1_ n2_ n3_ n4_ n5_ n6_ n7_ n8_ n9_
                (try clear hb)
                (try clear hb2)
                (try clear hk)
                (try clear hi)
                (try clear ho0)
                obtain ⟨Ao153, co153, eo153⟩ := Kd.R_slice HO157.out
                (first | subst eo153 | (injection eo153 with f1_ f2_ f3_; have f4_ := f1_.symm; have f5_ := f3_.symm; clear f1_ f2_ f3_; subst f4_; subst f5_))
                obtain ⟨Ao154, co154, eo154⟩ := Kd.R_slice HO161.out
                (first | subst eo154 | (injection eo154 with f1_ f2_ f3_; have f4_ := f1_.symm; have f5_ := f3_.symm; clear f1_ f2_ f3_; subst f4_; subst f5_))
                refine hK.out _ _ ⟨(blk_cell BK101.out 0).trans rfl, (blk_cell BK101.out 1).trans rfl, (blk_cell BK102.out 0).trans rfl, (blk_cell BK102.out 1).trans rfl⟩ (fun hHeld => ?_)
                clear hK K
                refine norm_ (a' := ?_) ?_ ?_
                rotate_left
                ·
                 show Act.put _ (some 98) _ = _
                 simp only [Act.put, List.setIfInBounds_toArray, List.set_cons_zero, List.set_cons_succ, i64_w, i32_w]
                 rfl
                refine one_ (i := 4) (N := some 99) #[true, true, true, true, true, false, false, false, true, false, false] rfl rfl (one_of HT_.out (by kernel_rfl)) (by decide) (fun K hK => ?_)
                refine goes_ Try.func16 (by kernel_rfl) rfl #[.agg #[.int .i64 t154, .slice Ao153 t155.length co153], .agg #[.int .i64 t158, .slice Ao154 t159.length co154]] (by rfl) rfl rfl (by (try simp only [List.map_toArray, List.map_cons, List.map_nil]); first | done | rfl | (simp only [List.length_drop, List.length_take]; rfl)) ?_
                with_reducible refine (impl_MeetOfSpaces.calls t154 _ _ t155 t158 _ _ t159 t162 t163 t166 _ ?side1 ?side2 ?side3 ?side4 A140.out).mono ?_
                (case side1 => repeat (first | exact (Kd.R_reads' HO157.out).2.2 | (with_reducible refine Kd.C_alloc ?_ _) | (with_reducible refine Kd.C_drewN ?_ _) | (with_reducible refine Kd.C_drew ?_)))
                (case side2 => exact (Kd.R_reads' HO157.out).2.1)
                (case side3 => repeat (first | exact (Kd.R_reads' HO161.out).2.2 | (with_reducible refine Kd.C_alloc ?_ _) | (with_reducible refine Kd.C_drewN ?_ _) | (with_reducible refine Kd.C_drew ?_)))
                (case side4 => exact (Kd.R_reads' HO161.out).2.1)
                rintro e w155 ⟨v164, rfl, ho0, hb⟩
                refine ⟨_, rfl, ?_⟩
                have n0_ := asd (Kd.R_elder' (upR <| HO_119001.out) (Kd.R_base ho0) hb)
                have n1_ := asd (Kd.R_elder' (upR <| HO_135001.out) (Kd.R_base ho0) hb)
                have n2_ := asd (Kd.R_elder' (upR <| HO157.out) (Kd.R_base ho0) hb)
                have n3_ := asd (Kd.R_elder' (upR <| HO161.out) (Kd.R_base ho0) hb)
                have n4_ := asd (Kd.R_lower (Kd.R_new' (Kd.R_new' (Kd.R_new' (Kd.R_new' ho0 (Kd.R_lt (upR <| HO_119001.out))) (Kd.R_lt (upR <| HO_135001.out))) (Kd.R_lt (upR <| HO157.out))) (Kd.R_lt (upR <| HO161.out))) (below_size (by repeat (first | (with_reducible first | exact HB.out | apply below_alloc | apply pw_below_drewN | apply below_drew1 | refine below_set ?_ GE101.out | refine below_set ?_ GE102.out | refine below_set ?_ GE118.out | refine below_set ?_ GE134.out | refine below_set ?_ GE167.out) | exact HB.out))))
                have n5_ := asd (blk_below (upB BK101.out) hb)
                have n6_ := asd (blk_below (upB BK102.out) hb)
                have n7_ := asd (blk_below (upB BK118.out) hb)
                have n8_ := asd (blk_below (upB BK134.out) hb)
                have n9_ := asd (blk_below (upB BK167.out) hb)
                have n10_ := asd (below_step (by repeat (first | (with_reducible first | exact HB.out | apply below_alloc | apply pw_below_drewN | apply below_drew1 | refine below_set ?_ GE101.out | refine below_set ?_ GE102.out | refine below_set ?_ GE118.out | refine below_set ?_ GE134.out | refine below_set ?_ GE167.out) | exact HB.out)) hb)
                clear HO_119001
                clear HO_135001
                clear HO157
                clear HO161
                clear BK101
                clear BK102
                clear BK118
                clear BK134
                clear BK167
                clear HB
                have HO_119001 := n0_
                have HO_135001 := n1_
                have HO157 := n2_
                have HO161 := n3_
                have HO165 := n4_
                have BK101 := n5_
                have BK102 := n6_
                have BK118 := n7_
                have BK134 := n8_
                have BK167 := n9_
                have HB := n10_
                clear n0_ n1_ n2_ n3_ n4_ n5_ n6_ n7_ n8_ n9_ n10_
                (try clear hb)
                (try clear hb2)
                (try clear hk)
                (try clear hi)
                (try clear ho0)
                refine hK.out _ _ ⟨(blk_cell BK101.out 0).trans rfl, (blk_cell BK101.out 1).trans rfl, (blk_cell BK102.out 0).trans rfl, (blk_cell BK102.out 1).trans rfl⟩ (fun hHeld => ?_)
                clear hK K
                refine norm_ (a' := ?_) ?_ ?_
                rotate_left
                ·
                 show Act.put _ (some 99) _ = _
                 simp only [Act.put, List.setIfInBounds_toArray, List.set_cons_zero, List.set_cons_succ, i64_w, i32_w]
                 rfl
                refine pure_ (i := 5) (N := some 94) (v := ?_) (a' := ?_) #[true, true, true, true, true, true, false, false, true, false, false] rfl rfl (any_of HT_.out (by kernel_rfl)) (fun _ _ _ h => h) (Or.inl ⟨by rfl, ?_⟩) ?_ ?_
                rotate_left
                ·
                 intro w'
                 go_simp
                 with_reducible rfl
                rotate_left
                ·
                 simp only [Act.put, List.setIfInBounds_toArray, List.set_cons_zero, List.set_cons_succ, i64_w, i32_w]
                 rfl
                refine pure_ (i := 6) (N := some 100) (v := ?_) (a' := ?_) #[true, true, true, true, true, true, true, false, true, false, false] rfl rfl (any_of HT_.out (by kernel_rfl)) (fun _ _ _ h => h) (Or.inl ⟨by rfl, ?_⟩) ?_ ?_
                rotate_left
                ·
                 intro w'
                 go_simp
                 with_reducible rfl
                rotate_left
                ·
                 simp only [Act.put, List.setIfInBounds_toArray, List.set_cons_zero, List.set_cons_succ, i64_w, i32_w]
                 rfl
                refine pure_ (i := 7) (N := some 101) (v := ?_) (a' := ?_) #[true, true, true, true, true, true, true, true, true, false, false] rfl rfl (any_of HT_.out (by kernel_rfl)) (fun _ _ _ h => h) (Or.inl ⟨by rfl, ?_⟩) ?_ ?_
                rotate_left
                ·
                 intro w'
                 go_simp
                 with_reducible rfl
                rotate_left
                ·
                 simp only [Act.put, List.setIfInBounds_toArray, List.set_cons_zero, List.set_cons_succ, i64_w, i32_w]
                 rfl
                exact norm_ (by simp only [putAll, Act.put, List.setIfInBounds_toArray, List.set_cons_zero, List.set_cons_succ]) (hCont (.slice Ao153 t155.length co153, .slice Ao154 t159.length co154, v164, gb167) _ ⟨hHeld, (upR <| Kd.R_mono HO157.out (fun _ hk => ⟨hk.1.2, ⟨hk.2, ⟨hk.1.1.1.2, hk.1.1.2⟩⟩⟩)), (upR <| Kd.R_mono HO161.out (fun _ hk => ⟨hk.1.2, ⟨hk.2, ⟨hk.1.1.1.2, hk.1.1.2⟩⟩⟩)), (upR <| Kd.R_mono HO165.out (fun _ hk => ⟨hk.1.2, ⟨hk.2, ⟨hk.1.1.1.2, hk.1.1.2⟩⟩⟩)), (upR <| Kd.R_mono HO_119001.out (fun _ hk => ⟨hk.1.1.2, ⟨hk.1.2, ⟨hk.2, hk.1.1.1⟩⟩⟩)), (upR <| Kd.R_mono HO_135001.out (fun _ hk => ⟨hk.1.1.2, ⟨hk.1.2, ⟨hk.2, hk.1.1.1⟩⟩⟩)), (upB BK101.out), (upB BK102.out), (upB BK118.out), (upB BK134.out), (upB BK167.out), GW167.out, GE167.out, NB101_167.out, NB167_101.out, NB102_167.out, NB167_102.out, NB118_167.out, NB167_118.out, NB134_167.out, NB167_134.out, (by repeat (first | (with_reducible first | exact HB.out | apply below_alloc | apply pw_below_drewN | apply below_drew1 | refine below_set ?_ GE101.out | refine below_set ?_ GE102.out | refine below_set ?_ GE118.out | refine below_set ?_ GE134.out | refine below_set ?_ GE167.out) | exact HB.out))⟩)
              ·
               skip
               refine box_step ?hg (N := 15) ?hd (cs := #[.int .i64 0, .slice none 0 0]) (t := 26) ?hr ?_; (case hd => rfl); (case hg => rfl); (case hr => first | (go_simp; done) | (go_simp; rfl))
               intro gb167 hg w150 hbox hb
               have n0_ := asd (Kd.R_below (upR <| HO_119001.out) hb)
               have n1_ := asd (Kd.R_below (upR <| HO_135001.out) hb)
               have n2_ := asd (blk_below (upB BK101.out) hb)
               have n3_ := asd (blk_below (upB BK102.out) hb)
               have n4_ := asd (blk_below (upB BK118.out) hb)
               have n5_ := asd (blk_below (upB BK134.out) hb)
               have n6_ := asd (below_step (by repeat (first | (with_reducible first | exact HB.out | apply below_alloc | apply pw_below_drewN | apply below_drew1 | refine below_set ?_ GE101.out | refine below_set ?_ GE102.out | refine below_set ?_ GE118.out | refine below_set ?_ GE134.out) | exact HB.out)) hb)
               have n7_ := asd (hbox)
               have n8_ := asd ((by rw [hg]; exact (below_size (by repeat (first | (with_reducible first | exact HB.out | apply below_alloc | apply pw_below_drewN | apply below_drew1 | refine below_set ?_ GE101.out | refine below_set ?_ GE102.out | refine below_set ?_ GE118.out | refine below_set ?_ GE134.out) | exact HB.out))) : w.heap.size ≤ gb167))
               have n9_ := asd ((by rw [hg]; exact (below_size (by repeat (first | (with_reducible first | exact HB.out | apply below_alloc | apply pw_below_drewN | apply below_drew1 | refine below_set ?_ GE101.out | refine below_set ?_ GE102.out | refine below_set ?_ GE118.out | refine below_set ?_ GE134.out) | exact HB.out))) : w.heap.size ≤ gb167))
               have n10_ := asd ((by rw [hg]; exact Nat.ne_of_lt (blk_lt (upB BK101.out)) : gb101 ≠ gb167))
               have n11_ := asd ((by rw [hg]; exact Nat.ne_of_gt (blk_lt (upB BK101.out)) : gb167 ≠ gb101))
               have n12_ := asd ((by rw [hg]; exact Nat.ne_of_lt (blk_lt (upB BK102.out)) : gb102 ≠ gb167))
               have n13_ := asd ((by rw [hg]; exact Nat.ne_of_gt (blk_lt (upB BK102.out)) : gb167 ≠ gb102))
               have n14_ := asd ((by rw [hg]; exact Nat.ne_of_lt (blk_lt (upB BK118.out)) : gb118 ≠ gb167))
               have n15_ := asd ((by rw [hg]; exact Nat.ne_of_gt (blk_lt (upB BK118.out)) : gb167 ≠ gb118))
               have n16_ := asd ((by rw [hg]; exact Nat.ne_of_lt (blk_lt (upB BK134.out)) : gb134 ≠ gb167))
               have n17_ := asd ((by rw [hg]; exact Nat.ne_of_gt (blk_lt (upB BK134.out)) : gb167 ≠ gb134))
               clear HO_119001
               clear HO_135001
               clear BK101
               clear BK102
               clear BK118
               clear BK134
               clear HB
               have HO_119001 := n0_
               have HO_135001 := n1_
               have BK101 := n2_
               have BK102 := n3_
               have BK118 := n4_
               have BK134 := n5_
               have HB := n6_
               have BK167 := n7_
               have GW167 := n8_
               have GE167 := n9_
               have NB101_167 := n10_
               have NB167_101 := n11_
               have NB102_167 := n12_
               have NB167_102 := n13_
               have NB118_167 := n14_
               have NB167_118 := n15_
               have NB134_167 := n16_
               have NB167_134 := n17_
               clear n0_ n1_ n2_ n3_ n4_ n5_ n6_ n7_ n8_ n9_ n10_ n11_ n12_ n13_ n14_ n15_ n16_ n17_
               clear hb hbox hg
               refine hK.out _ _ ⟨(blk_cell BK101.out 0).trans rfl, (blk_cell BK101.out 1).trans rfl, (blk_cell BK102.out 0).trans rfl, (blk_cell BK102.out 1).trans rfl⟩ (fun hHeld => ?_)
               clear hK K
               refine norm_ (a' := ?_) ?_ ?_
               rotate_left
               ·
                show Act.put _ (some 15) _ = _
                simp only [Act.put, List.setIfInBounds_toArray, List.set_cons_zero, List.set_cons_succ, i64_w, i32_w]
                rfl
               refine one_ (i := 1) (N := some 96) #[true, true, true, false, false, false, false, false, true, false, false] rfl rfl (one_of HT_.out (by kernel_rfl)) (by decide) (fun K hK => ?_)
               refine goes_ Try.func15 (by kernel_rfl) rfl #[.agg #[.int .i64 a0_0, .slice A0_1 l0_1.length c0_1]] (by rfl) rfl rfl (by (try simp only [List.map_toArray, List.map_cons, List.map_nil]); first | done | rfl | (simp only [List.length_drop, List.length_take]; rfl)) ?_
               with_reducible refine (laws_toSpace.calls kj95 a0_0 _ _ l0_1 t154 t155 _ ?side1 ?side2 A138.out).mono ?_
               (case side1 => repeat (first | exact (Kd.C_below HR0_1.out HB.out) | (with_reducible refine Kd.C_alloc ?_ _) | (with_reducible refine Kd.C_drewN ?_ _) | (with_reducible refine Kd.C_drew ?_)))
               (case side2 => exact HC0_1.out)
               rintro e w151 ⟨v156, rfl, ho0, hb⟩
               refine ⟨_, rfl, ?_⟩
               have n0_ := asd (Kd.R_elder' (upR <| HO_119001.out) (Kd.R_base ho0) hb)
               have n1_ := asd (Kd.R_elder' (upR <| HO_135001.out) (Kd.R_base ho0) hb)
               have n2_ := asd (Kd.R_lower (Kd.R_new' (Kd.R_new' ho0 (Kd.R_lt (upR <| HO_119001.out))) (Kd.R_lt (upR <| HO_135001.out))) (below_size (by repeat (first | (with_reducible first | exact HB.out | apply below_alloc | apply pw_below_drewN | apply below_drew1 | refine below_set ?_ GE101.out | refine below_set ?_ GE102.out | refine below_set ?_ GE118.out | refine below_set ?_ GE134.out | refine below_set ?_ GE167.out) | exact HB.out))))
               have n3_ := asd (blk_below (upB BK101.out) hb)
               have n4_ := asd (blk_below (upB BK102.out) hb)
               have n5_ := asd (blk_below (upB BK118.out) hb)
               have n6_ := asd (blk_below (upB BK134.out) hb)
               have n7_ := asd (blk_below (upB BK167.out) hb)
               have n8_ := asd (below_step (by repeat (first | (with_reducible first | exact HB.out | apply below_alloc | apply pw_below_drewN | apply below_drew1 | refine below_set ?_ GE101.out | refine below_set ?_ GE102.out | refine below_set ?_ GE118.out | refine below_set ?_ GE134.out | refine below_set ?_ GE167.out) | exact HB.out)) hb)
               clear HO_119001
               clear HO_135001
               clear BK101
               clear BK102
               clear BK118
               clear BK134
               clear BK167
               clear HB
               have HO_119001 := n0_
               have HO_135001 := n1_
               have HO157 := n2_
               have BK101 := n3_
               have BK102 := n4_
               have BK118 := n5_
               have BK134 := n6_
               have BK167 := n7_
               have HB := n8_
               clear n0_ n1_ n2_ n3_ n4_ n5_ n6_ n7_ n8_
               (try clear hb)
               (try clear hb2)
               (try clear hk)
               (try clear hi)
               (try clear ho0)
               refine hK.out _ _ ⟨(blk_cell BK101.out 0).trans rfl, (blk_cell BK101.out 1).trans rfl, (blk_cell BK102.out 0).trans rfl, (blk_cell BK102.out 1).trans rfl⟩ (fun hHeld => ?_)
               clear hK K
               refine norm_ (a' := ?_) ?_ ?_
               rotate_left
               ·
                show Act.put _ (some 96) _ = _
                simp only [Act.put, List.setIfInBounds_toArray, List.set_cons_zero, List.set_cons_succ, i64_w, i32_w]
                rfl
               refine one_ (i := 3) (N := some 98) #[true, true, true, true, false, false, false, false, true, false, false] rfl rfl (one_of HT_.out (by kernel_rfl)) (by decide) (fun K hK => ?_)
               refine goes_ Try.func15 (by kernel_rfl) rfl #[.agg #[.int .i64 a1_0, .slice A1_1 l1_1.length c1_1]] (by rfl) rfl rfl (by (try simp only [List.map_toArray, List.map_cons, List.map_nil]); first | done | rfl | (simp only [List.length_drop, List.length_take]; rfl)) ?_
               with_reducible refine (laws_toSpace.calls kj95 a1_0 _ _ l1_1 t158 t159 _ ?side1 ?side2 A139.out).mono ?_
               (case side1 => repeat (first | exact (Kd.C_below HR1_1.out HB.out) | (with_reducible refine Kd.C_alloc ?_ _) | (with_reducible refine Kd.C_drewN ?_ _) | (with_reducible refine Kd.C_drew ?_)))
               (case side2 => exact HC1_1.out)
               rintro e w152 ⟨v160, rfl, ho0, hb⟩
               refine ⟨_, rfl, ?_⟩
               have n0_ := asd (Kd.R_elder' (upR <| HO_119001.out) (Kd.R_base ho0) hb)
               have n1_ := asd (Kd.R_elder' (upR <| HO_135001.out) (Kd.R_base ho0) hb)
               have n2_ := asd (Kd.R_elder' (upR <| HO157.out) (Kd.R_base ho0) hb)
               have n3_ := asd (Kd.R_lower (Kd.R_new' (Kd.R_new' (Kd.R_new' ho0 (Kd.R_lt (upR <| HO_119001.out))) (Kd.R_lt (upR <| HO_135001.out))) (Kd.R_lt (upR <| HO157.out))) (below_size (by repeat (first | (with_reducible first | exact HB.out | apply below_alloc | apply pw_below_drewN | apply below_drew1 | refine below_set ?_ GE101.out | refine below_set ?_ GE102.out | refine below_set ?_ GE118.out | refine below_set ?_ GE134.out | refine below_set ?_ GE167.out) | exact HB.out))))
               have n4_ := asd (blk_below (upB BK101.out) hb)
               have n5_ := asd (blk_below (upB BK102.out) hb)
               have n6_ := asd (blk_below (upB BK118.out) hb)
               have n7_ := asd (blk_below (upB BK134.out) hb)
               have n8_ := asd (blk_below (upB BK167.out) hb)
               have n9_ := asd (below_step (by repeat (first | (with_reducible first | exact HB.out | apply below_alloc | apply pw_below_drewN | apply below_drew1 | refine below_set ?_ GE101.out | refine below_set ?_ GE102.out | refine below_set ?_ GE118.out | refine below_set ?_ GE134.out | refine below_set ?_ GE167.out) | exact HB.out)) hb)
               clear HO_119001
               clear HO_135001
               clear HO157
               clear BK101
               clear BK102
               clear BK118
               clear BK134
               clear BK167
               clear HB
               have HO_119001 := n0_
               have HO_135001 := n1_
               have HO157 := n2_
               have HO161 := n3_
               have BK101 := n4_
               have BK102 := n5_
               have BK118 := n6_
               have BK134 := n7_
               have BK167 := n8_
               have HB := n9_
               clear n0_ n1_ n2_ n3_ n4_ n5_ n6_ n7_ n8_ n9_
               (try clear hb)
               (try clear hb2)
               (try clear hk)
               (try clear hi)
               (try clear ho0)
               obtain ⟨Ao153, co153, eo153⟩ := Kd.R_slice HO157.out
               (first | subst eo153 | (injection eo153 with f1_ f2_ f3_; have f4_ := f1_.symm; have f5_ := f3_.symm; clear f1_ f2_ f3_; subst f4_; subst f5_))
               obtain ⟨Ao154, co154, eo154⟩ := Kd.R_slice HO161.out
               (first | subst eo154 | (injection eo154 with f1_ f2_ f3_; have f4_ := f1_.symm; have f5_ := f3_.symm; clear f1_ f2_ f3_; subst f4_; subst f5_))
               refine hK.out _ _ ⟨(blk_cell BK101.out 0).trans rfl, (blk_cell BK101.out 1).trans rfl, (blk_cell BK102.out 0).trans rfl, (blk_cell BK102.out 1).trans rfl⟩ (fun hHeld => ?_)
               clear hK K
               refine norm_ (a' := ?_) ?_ ?_
               rotate_left
               ·
                show Act.put _ (some 98) _ = _
                simp only [Act.put, List.setIfInBounds_toArray, List.set_cons_zero, List.set_cons_succ, i64_w, i32_w]
                rfl
               refine one_ (i := 4) (N := some 99) #[true, true, true, true, true, false, false, false, true, false, false] rfl rfl (one_of HT_.out (by kernel_rfl)) (by decide) (fun K hK => ?_)
               refine goes_ Try.func16 (by kernel_rfl) rfl #[.agg #[.int .i64 t154, .slice Ao153 t155.length co153], .agg #[.int .i64 t158, .slice Ao154 t159.length co154]] (by rfl) rfl rfl (by (try simp only [List.map_toArray, List.map_cons, List.map_nil]); first | done | rfl | (simp only [List.length_drop, List.length_take]; rfl)) ?_
               with_reducible refine (impl_MeetOfSpaces.calls t154 _ _ t155 t158 _ _ t159 t162 t163 t166 _ ?side1 ?side2 ?side3 ?side4 A140.out).mono ?_
               (case side1 => repeat (first | exact (Kd.R_reads' HO157.out).2.2 | (with_reducible refine Kd.C_alloc ?_ _) | (with_reducible refine Kd.C_drewN ?_ _) | (with_reducible refine Kd.C_drew ?_)))
               (case side2 => exact (Kd.R_reads' HO157.out).2.1)
               (case side3 => repeat (first | exact (Kd.R_reads' HO161.out).2.2 | (with_reducible refine Kd.C_alloc ?_ _) | (with_reducible refine Kd.C_drewN ?_ _) | (with_reducible refine Kd.C_drew ?_)))
               (case side4 => exact (Kd.R_reads' HO161.out).2.1)
               rintro e w155 ⟨v164, rfl, ho0, hb⟩
               refine ⟨_, rfl, ?_⟩
               have n0_ := asd (Kd.R_elder' (upR <| HO_119001.out) (Kd.R_base ho0) hb)
               have n1_ := asd (Kd.R_elder' (upR <| HO_135001.out) (Kd.R_base ho0) hb)
               have n2_ := asd (Kd.R_elder' (upR <| HO157.out) (Kd.R_base ho0) hb)
               have n3_ := asd (Kd.R_elder' (upR <| HO161.out) (Kd.R_base ho0) hb)
               have n4_ := asd (Kd.R_lower (Kd.R_new' (Kd.R_new' (Kd.R_new' (Kd.R_new' ho0 (Kd.R_lt (upR <| HO_119001.out))) (Kd.R_lt (upR <| HO_135001.out))) (Kd.R_lt (upR <| HO157.out))) (Kd.R_lt (upR <| HO161.out))) (below_size (by repeat (first | (with_reducible first | exact HB.out | apply below_alloc | apply pw_below_drewN | apply below_drew1 | refine below_set ?_ GE101.out | refine below_set ?_ GE102.out | refine below_set ?_ GE118.out | refine below_set ?_ GE134.out | refine below_set ?_ GE167.out) | exact HB.out))))
               have n5_ := asd (blk_below (upB BK101.out) hb)
               have n6_ := asd (blk_below (upB BK102.out) hb)
               have n7_ := asd (blk_below (upB BK118.out) hb)
               have n8_ := asd (blk_below (upB BK134.out) hb)
               have n9_ := asd (blk_below (upB BK167.out) hb)
               have n10_ := asd (below_step (by repeat (first | (with_reducible first | exact HB.out | apply below_alloc | apply pw_below_drewN | apply below_drew1 | refine below_set ?_ GE101.out | refine below_set ?_ GE102.out | refine below_set ?_ GE118.out | refine below_set ?_ GE134.out | refine below_set ?_ GE167.out) | exact HB.out)) hb)
               clear HO_119001
               clear HO_135001
               clear HO157
               clear HO161
               clear BK101
               clear BK102
               clear BK118
               clear BK134
               clear BK167
               clear HB
               have HO_119001 := n0_
               have HO_135001 := n1_
               have HO157 := n2_
               have HO161 := n3_
               have HO165 := n4_
               have BK101 := n5_
               have BK102 := n6_
               have BK118 := n7_
               have BK134 := n8_
               have BK167 := n9_
               have HB := n10_
               clear n0_ n1_ n2_ n3_ n4_ n5_ n6_ n7_ n8_ n9_ n10_
               (try clear hb)
               (try clear hb2)
               (try clear hk)
               (try clear hi)
               (try clear ho0)
               refine hK.out _ _ ⟨(blk_cell BK101.out 0).trans rfl, (blk_cell BK101.out 1).trans rfl, (blk_cell BK102.out 0).trans rfl, (blk_cell BK102.out 1).trans rfl⟩ (fun hHeld => ?_)
               clear hK K
               refine norm_ (a' := ?_) ?_ ?_
               rotate_left
               ·
                show Act.put _ (some 99) _ = _
                simp only [Act.put, List.setIfInBounds_toArray, List.set_cons_zero, List.set_cons_succ, i64_w, i32_w]
                rfl
               refine pure_ (i := 5) (N := some 94) (v := ?_) (a' := ?_) #[true, true, true, true, true, true, false, false, true, false, false] rfl rfl (any_of HT_.out (by kernel_rfl)) (fun _ _ _ h => h) (Or.inl ⟨by rfl, ?_⟩) ?_ ?_
               rotate_left
               ·
                intro w'
                go_simp
                with_reducible rfl
               rotate_left
               ·
                simp only [Act.put, List.setIfInBounds_toArray, List.set_cons_zero, List.set_cons_succ, i64_w, i32_w]
                rfl
               refine pure_ (i := 6) (N := some 100) (v := ?_) (a' := ?_) #[true, true, true, true, true, true, true, false, true, false, false] rfl rfl (any_of HT_.out (by kernel_rfl)) (fun _ _ _ h => h) (Or.inl ⟨by rfl, ?_⟩) ?_ ?_
               rotate_left
               ·
                intro w'
                go_simp
                with_reducible rfl
               rotate_left
               ·
                simp only [Act.put, List.setIfInBounds_toArray, List.set_cons_zero, List.set_cons_succ, i64_w, i32_w]
                rfl
               refine pure_ (i := 7) (N := some 101) (v := ?_) (a' := ?_) #[true, true, true, true, true, true, true, true, true, false, false] rfl rfl (any_of HT_.out (by kernel_rfl)) (fun _ _ _ h => h) (Or.inl ⟨by rfl, ?_⟩) ?_ ?_
               rotate_left
               ·
                intro w'
                go_simp
                with_reducible rfl
               rotate_left
               ·
                simp only [Act.put, List.setIfInBounds_toArray, List.set_cons_zero, List.set_cons_succ, i64_w, i32_w]
                rfl
               exact norm_ (by simp only [putAll, Act.put, List.setIfInBounds_toArray, List.set_cons_zero, List.set_cons_succ]) (hCont (.slice Ao153 t155.length co153, .slice Ao154 t159.length co154, v164, gb167) _ ⟨hHeld, (upR <| Kd.R_mono HO157.out (fun _ hk => ⟨hk.1.2, ⟨hk.2, ⟨hk.1.1.1.2, hk.1.1.2⟩⟩⟩)), (upR <| Kd.R_mono HO161.out (fun _ hk => ⟨hk.1.2, ⟨hk.2, ⟨hk.1.1.1.2, hk.1.1.2⟩⟩⟩)), (upR <| Kd.R_mono HO165.out (fun _ hk => ⟨hk.1.2, ⟨hk.2, ⟨hk.1.1.1.2, hk.1.1.2⟩⟩⟩)), (upR <| Kd.R_mono HO_119001.out (fun _ hk => ⟨hk.1.1.2, ⟨hk.1.2, ⟨hk.2, hk.1.1.1⟩⟩⟩)), (upR <| Kd.R_mono HO_135001.out (fun _ hk => ⟨hk.1.1.2, ⟨hk.1.2, ⟨hk.2, hk.1.1.1⟩⟩⟩)), (upB BK101.out), (upB BK102.out), (upB BK118.out), (upB BK134.out), (upB BK167.out), GW167.out, GE167.out, NB101_167.out, NB167_101.out, NB102_167.out, NB167_102.out, NB118_167.out, NB167_118.out, NB134_167.out, NB167_134.out, (by repeat (first | (with_reducible first | exact HB.out | apply below_alloc | apply pw_below_drewN | apply below_drew1 | refine below_set ?_ GE101.out | refine below_set ?_ GE102.out | refine below_set ?_ GE118.out | refine below_set ?_ GE134.out | refine below_set ?_ GE167.out) | exact HB.out))⟩)
             rintro ⟨v156, v160, v164, gb167⟩ w156 ⟨hS_, h0_, h1_, h2_, h3_, h4_, h5_, h6_, h7_, h8_, h9_, h10_, h11_, h12_, h13_, h14_, h15_, h16_, h17_, h18_, h19_, h20_⟩
             have n0_ : Aside0 (Kd.R (Kd.int .i64) 3 w156 w.heap.size (fun k_ => some k_ ≠ (v160 : Value).ownBlock ∧ some k_ ≠ (v164 : Value).ownBlock ∧ some k_ ≠ (.slice Ao42 t114.length co42 : Value).ownBlock ∧ some k_ ≠ (.slice Ao72 t130.length co72 : Value).ownBlock) v156 t155) := ⟨h0_⟩
             have n1_ : Aside0 (Kd.R (Kd.int .i64) 3 w156 w.heap.size (fun k_ => some k_ ≠ (v156 : Value).ownBlock ∧ some k_ ≠ (v164 : Value).ownBlock ∧ some k_ ≠ (.slice Ao42 t114.length co42 : Value).ownBlock ∧ some k_ ≠ (.slice Ao72 t130.length co72 : Value).ownBlock) v160 t159) := ⟨h1_⟩
             have n2_ : Aside0 (Kd.R (Kd.int .i64) 3 w156 w.heap.size (fun k_ => some k_ ≠ (v156 : Value).ownBlock ∧ some k_ ≠ (v160 : Value).ownBlock ∧ some k_ ≠ (.slice Ao42 t114.length co42 : Value).ownBlock ∧ some k_ ≠ (.slice Ao72 t130.length co72 : Value).ownBlock) v164 t163) := ⟨h2_⟩
             have n3_ : Aside0 (Kd.R (Kd.int .i64) 3 w156 w.heap.size (fun k_ => some k_ ≠ (v156 : Value).ownBlock ∧ some k_ ≠ (v160 : Value).ownBlock ∧ some k_ ≠ (v164 : Value).ownBlock ∧ some k_ ≠ (.slice Ao72 t130.length co72 : Value).ownBlock) (.slice Ao42 t114.length co42) t114) := ⟨h3_⟩
             have n4_ : Aside0 (Kd.R (Kd.int .i64) 3 w156 w.heap.size (fun k_ => some k_ ≠ (v156 : Value).ownBlock ∧ some k_ ≠ (v160 : Value).ownBlock ∧ some k_ ≠ (v164 : Value).ownBlock ∧ some k_ ≠ (.slice Ao42 t114.length co42 : Value).ownBlock) (.slice Ao72 t130.length co72) t152) := ⟨h4_⟩
             have n5_ : Aside0 (w156.heap[gb101]? = some (.cells #[.int .i64 a0_0, .slice A0_1 l0_1.length c0_1] 24 (0, 0))) := ⟨h5_⟩
             have n6_ : Aside0 (w156.heap[gb102]? = some (.cells #[.int .i64 a1_0, .slice A1_1 l1_1.length c1_1] 24 (0, 0))) := ⟨h6_⟩
             have n7_ : Aside0 (w156.heap[gb118]? = some (.cells #[.int .i64 t113, .slice Ao42 t114.length co42] 26 (0, 0))) := ⟨h7_⟩
             have n8_ : Aside0 (w156.heap[gb134]? = some (.cells #[.int .i64 t129, .slice Ao72 t130.length co72] 26 (0, 0))) := ⟨h8_⟩
             have n9_ : Aside0 (w156.heap[gb167]? = some (.cells #[.int .i64 0, .slice none 0 0] 26 (0, 0))) := ⟨h9_⟩
             have n10_ : Aside0 (w.heap.size ≤ gb167) := ⟨h10_⟩
             have n11_ : Aside0 (w.heap.size ≤ gb167) := ⟨h11_⟩
             have n12_ : Aside0 (gb101 ≠ gb167) := ⟨h12_⟩
             have n13_ : Aside0 (gb167 ≠ gb101) := ⟨h13_⟩
             have n14_ : Aside0 (gb102 ≠ gb167) := ⟨h14_⟩
             have n15_ : Aside0 (gb167 ≠ gb102) := ⟨h15_⟩
             have n16_ : Aside0 (gb118 ≠ gb167) := ⟨h16_⟩
             have n17_ : Aside0 (gb167 ≠ gb118) := ⟨h17_⟩
             have n18_ : Aside0 (gb134 ≠ gb167) := ⟨h18_⟩
             have n19_ : Aside0 (gb167 ≠ gb134) := ⟨h19_⟩
             have n20_ : Aside0 (Below w.heap.size w w156) := ⟨h20_⟩
             clear HO_119001
             clear HO_135001
             clear BK101
             clear BK102
             clear BK118
             clear BK134
             clear HB
             clear h0_ h1_ h2_ h3_ h4_ h5_ h6_ h7_ h8_ h9_ h10_ h11_ h12_ h13_ h14_ h15_ h16_ h17_ h18_ h19_ h20_
             have HO157 := n0_
             have HO161 := n1_
             have HO165 := n2_
             have HO_119001 := n3_
             have HO_135001 := n4_
             have BK101 := n5_
             have BK102 := n6_
             have BK118 := n7_
             have BK134 := n8_
             have BK167 := n9_
             have GW167 := n10_
             have GE167 := n11_
             have NB101_167 := n12_
             have NB167_101 := n13_
             have NB102_167 := n14_
             have NB167_102 := n15_
             have NB118_167 := n16_
             have NB167_118 := n17_
             have NB134_167 := n18_
             have NB167_134 := n19_
             have HB := n20_
             clear n0_ n1_ n2_ n3_ n4_ n5_ n6_ n7_ n8_ n9_ n10_ n11_ n12_ n13_ n14_ n15_ n16_ n17_ n18_ n19_ n20_
             have hHeld : w156.cell? ⟨gb101, 0, none⟩ = some (.int .i64 a0_0) ∧ w156.cell? ⟨gb101, 1, none⟩ = some (.slice A0_1 l0_1.length c0_1) ∧ w156.cell? ⟨gb102, 0, none⟩ = some (.int .i64 a1_0) ∧ w156.cell? ⟨gb102, 1, none⟩ = some (.slice A1_1 l1_1.length c1_1) := hS_
             obtain ⟨Ao158, co158, eo158⟩ := Kd.R_slice HO165.out
             (first | subst eo158 | (injection eo158 with f1_ f2_ f3_; have f4_ := f1_.symm; have f5_ := f3_.symm; clear f1_ f2_ f3_; subst f4_; subst f5_))
             refine norm_ (a' := ?_) ?_ ?_
             rotate_left
             ·
              simp only [putAll, Act.put, List.setIfInBounds_toArray, List.set_cons_zero, List.set_cons_succ]
              rfl
             refine one_ (i := 9) (N := none) #[true, true, true, true, true, true, true, true, true, true, false] rfl rfl (one_of HT_.out (by kernel_rfl)) (by decide) (fun K hK => ?_)
             have hs157 : w156.cell? ⟨gb167, 0, none⟩ = some (.int .i64 0) := (blk_cell BK167.out 0).trans rfl
             have hfs157 := blk_frozen BK167.out 0
             have hns157_0 := NB101_167.out
             have hns157_1 := NB102_167.out
             have hns157_2 := NB118_167.out
             have hns157_3 := NB134_167.out
             have hms157_0 := NB167_101.out
             have hms157_1 := NB167_102.out
             have hms157_2 := NB167_118.out
             have hms157_3 := NB167_134.out
             have hs159 : w156.cell? ⟨gb167, 1, none⟩ = some (.slice none 0 0) := (blk_cell BK167.out 1).trans rfl
             have hfs159 := blk_frozen BK167.out 1
             have hns159_0 := NB101_167.out
             have hns159_1 := NB102_167.out
             have hns159_2 := NB118_167.out
             have hns159_3 := NB134_167.out
             have hms159_0 := NB167_101.out
             have hms159_1 := NB167_102.out
             have hms159_2 := NB167_118.out
             have hms159_3 := NB167_134.out
             refine skip_ (w1 := ?_) (by rfl) rfl ?_ ?_
             rotate_left
             ·
              go_simp
              rfl
             refine hK.out _ _ ⟨((cell_far (p := ⟨gb167, _, none⟩) NB101_167.out _).trans (((cell_far (p := ⟨gb167, _, none⟩) NB101_167.out _).trans (hHeld.1)))), ((cell_far (p := ⟨gb167, _, none⟩) NB101_167.out _).trans (((cell_far (p := ⟨gb167, _, none⟩) NB101_167.out _).trans (hHeld.2.1)))), ((cell_far (p := ⟨gb167, _, none⟩) NB102_167.out _).trans (((cell_far (p := ⟨gb167, _, none⟩) NB102_167.out _).trans (hHeld.2.2.1)))), ((cell_far (p := ⟨gb167, _, none⟩) NB102_167.out _).trans (((cell_far (p := ⟨gb167, _, none⟩) NB102_167.out _).trans (hHeld.2.2.2))))⟩ (fun hHeld => ?_)
             clear hK K
             refine pure_ (i := 10) (N := some 16) (v := ?_) (a' := ?_) #[true, true, true, true, true, true, true, true, true, true, true] rfl rfl (any_of HT_.out (by kernel_rfl)) (fun _ _ _ h => h) (Or.inl ⟨by rfl, ?_⟩) ?_ ?_
             rotate_left
             ·
              intro w'
              go_simp
              with_reducible rfl
             rotate_left
             ·
              simp only [Act.put, List.setIfInBounds_toArray, List.set_cons_zero, List.set_cons_succ, i64_w, i32_w]
              rfl
             refine done_ (done_of HT_.out (by kernel_rfl)) ?_
             go_upto_region 32 with (fail)
             go_cut [110] (fun v110 wc => ∃ (kq : Nat) (x110_140 : Bool), v110 = .bool x110_140 ∧ Aside0 (laws_FnExactMeetOfSpaces.j2 kq t151 x110_140 t129 t152 = some r) ∧ Aside0 (kq ≤ kj95) ∧ Aside0 (Kd.R (Kd.int .i64) 3 wc w.heap.size (fun _ => True) (.slice Ao72 t130.length co72) t152) ∧ Aside0 (wc.heap[gb134]? = some (.cells #[.int .i64 t129, (.slice Ao72 t130.length co72)] 26 (0, 0))) ∧ Aside0 (Below w.heap.size w wc))
             case first =>
              have H := HC141.out
              clear HC141
              replace H := Option.bind_eq_some_iff.mp H
              obtain ⟨t168, A1600, H⟩ := H
              replace H : (if t168 = true then (laws_FnExactMeetOfSpaces.j2 kj95 t151 (t166 != t117) t129 t152) else (laws_FnExactMeetOfSpaces.j2 kj95 t151 true t129 t152)) = some r := H
              have A160 := asd A1600
              clear A1600
              by_cases c161 : t168 = true
              ·
               subst c161
               have H1 : (laws_FnExactMeetOfSpaces.j2 kj95 t151 (t166 != t117) t129 t152) = some r := by rw [if_pos rfl] at H; exact H
               clear H
               have H := H1
               clear H1
               have H' := asd H
               clear H
               have hnb162 := NB167_101.out
               have hnc162 := NB101_167.out
               have hnb163 := NB167_102.out
               have hnc163 := NB102_167.out
               have hnb164 := NB167_118.out
               have hnc164 := NB118_167.out
               have hnb165 := NB167_134.out
               have hnc165 := NB134_167.out
               have hcz166_0 : w156.cell? ⟨gb167, 0, none⟩ = some (.int .i64 0) := (blk_cell BK167.out 0).trans rfl
               have hcz166_1 : w156.cell? ⟨gb167, 1, none⟩ = some (.slice none 0 0) := (blk_cell BK167.out 1).trans rfl
               have hfz166_0 := blk_frozen BK167.out 0
               have hfz166_1 := blk_frozen BK167.out 1
               have hnb167 := NB118_101.out
               have hnc167 := NB101_118.out
               have hnb168 := NB118_102.out
               have hnc168 := NB102_118.out
               have hnb169 := NB118_134.out
               have hnc169 := NB134_118.out
               have hcz170_0 : w156.cell? ⟨gb118, 0, none⟩ = some (.int .i64 t113) := (blk_cell BK118.out 0).trans rfl
               have hcz170_1 : w156.cell? ⟨gb118, 1, none⟩ = some (.slice Ao42 t114.length co42) := (blk_cell BK118.out 1).trans rfl
               have hfz170_0 := blk_frozen BK118.out 0
               have hfz170_1 := blk_frozen BK118.out 1
               go_wp2_with (first | ((with_reducible refine gate_callee (f := 17) rfl ?_); refine goesL_ (some 104) rfl rfl Try.func17 (by kernel_rfl) rfl #[.agg #[.int .i64 t162, .slice Ao158 t163.length co158], .agg #[.int .i64 t113, .slice Ao42 t114.length co42]] rfl (by (try simp only [List.map_toArray, List.map_cons, List.map_nil]); first | done | rfl | (simp only [List.length_drop, List.length_take]; rfl)) ?_; (with_reducible refine (laws_eqSpace.calls kj95 t162 _ _ t163 t113 _ _ t114 true _ ?side1 ?side2 ?side3 ?side4 A160.out).mono ?_); (case side1 => refine (Kd.R_reads' (e := 3) (base := w.heap.size) (ok := fun k_ => (some k_ ≠ (v156 : Value).ownBlock ∧ (some k_ ≠ (v160 : Value).ownBlock ∧ (some k_ ≠ (.slice Ao42 t114.length co42 : Value).ownBlock ∧ some k_ ≠ (.slice Ao72 t130.length co72 : Value).ownBlock)))) (n := t163.length) (c := co158) ?_).2.2; exact (upR <| (Kd.R_mono (Kd.R_far (p := ⟨gb167, 1, none⟩) (Kd.R_far (p := ⟨gb167, 0, none⟩) (Kd.R_types HO165.out BK167.out (by decide)) (fun _ hk => hk.2) (.int .i64 t162)) (fun _ hk => hk.2) (.slice Ao158 t163.length co158)) (fun _ h_ => h_.1)))); (case side2 => exact (Kd.R_reads' HO165.out).2.1); (case side3 => refine (Kd.R_reads' (e := 3) (base := w.heap.size) (ok := fun k_ => (some k_ ≠ (v156 : Value).ownBlock ∧ (some k_ ≠ (v160 : Value).ownBlock ∧ (some k_ ≠ (.slice Ao158 t163.length co158 : Value).ownBlock ∧ some k_ ≠ (.slice Ao72 t130.length co72 : Value).ownBlock)))) (n := t114.length) (c := co42) ?_).2.2; exact (upR <| (Kd.R_mono (Kd.R_far (p := ⟨gb167, 1, none⟩) (Kd.R_far (p := ⟨gb167, 0, none⟩) (Kd.R_types HO_119001.out BK167.out (by decide)) (fun _ hk => hk.2) (.int .i64 t162)) (fun _ hk => hk.2) (.slice Ao158 t163.length co158)) (fun _ h_ => h_.1)))); (case side4 => exact (Kd.R_reads' HO_119001.out).2.1); rintro e w171 ⟨rfl, hb⟩; refine ⟨_, rfl, ?_⟩; have n0_ := asd (Kd.R_below (upR <| (Kd.R_mono (Kd.R_far (p := ⟨gb167, 1, none⟩) (Kd.R_far (p := ⟨gb167, 0, none⟩) (Kd.R_types HO_119001.out BK167.out (by decide)) (fun _ hk => hk.2) (.int .i64 t162)) (fun _ hk => hk.2) (.slice Ao158 t163.length co158)) (fun _ h_ => h_.1))) hb); have n1_ := asd (Kd.R_below (upR <| (Kd.R_mono (Kd.R_far (p := ⟨gb167, 1, none⟩) (Kd.R_far (p := ⟨gb167, 0, none⟩) (Kd.R_types HO_135001.out BK167.out (by decide)) (fun _ hk => hk.2) (.int .i64 t162)) (fun _ hk => hk.2) (.slice Ao158 t163.length co158)) (fun _ h_ => h_.1))) hb); have n2_ := asd (Kd.R_below (upR <| (Kd.R_mono (Kd.R_far (p := ⟨gb167, 1, none⟩) (Kd.R_far (p := ⟨gb167, 0, none⟩) (Kd.R_types HO157.out BK167.out (by decide)) (fun _ hk => hk.2) (.int .i64 t162)) (fun _ hk => hk.2) (.slice Ao158 t163.length co158)) (fun _ h_ => h_.1))) hb); have n3_ := asd (Kd.R_below (upR <| (Kd.R_mono (Kd.R_far (p := ⟨gb167, 1, none⟩) (Kd.R_far (p := ⟨gb167, 0, none⟩) (Kd.R_types HO161.out BK167.out (by decide)) (fun _ hk => hk.2) (.int .i64 t162)) (fun _ hk => hk.2) (.slice Ao158 t163.length co158)) (fun _ h_ => h_.1))) hb); have n4_ := asd (Kd.R_below (upR <| (Kd.R_mono (Kd.R_far (p := ⟨gb167, 1, none⟩) (Kd.R_far (p := ⟨gb167, 0, none⟩) (Kd.R_types HO165.out BK167.out (by decide)) (fun _ hk => hk.2) (.int .i64 t162)) (fun _ hk => hk.2) (.slice Ao158 t163.length co158)) (fun _ h_ => h_.1))) hb); have n5_ := asd (blk_below (g := gb101) (o := .cells #[.int .i64 a0_0, .slice A0_1 l0_1.length c0_1] 24 (0, 0)) (by (with_reducible repeat (first | refine blk_drewN ?_ _ | refine blk_drew ?_ | refine blk_alloc ?_ _)); refine blk_far ?_ NB101_167.out _; (with_reducible repeat (first | refine blk_drewN ?_ _ | refine blk_drew ?_ | refine blk_alloc ?_ _)); refine blk_far ?_ NB101_167.out _; (with_reducible repeat (first | refine blk_drewN ?_ _ | refine blk_drew ?_ | refine blk_alloc ?_ _)); exact BK101.out) hb); have n6_ := asd (blk_below (g := gb102) (o := .cells #[.int .i64 a1_0, .slice A1_1 l1_1.length c1_1] 24 (0, 0)) (by (with_reducible repeat (first | refine blk_drewN ?_ _ | refine blk_drew ?_ | refine blk_alloc ?_ _)); refine blk_far ?_ NB102_167.out _; (with_reducible repeat (first | refine blk_drewN ?_ _ | refine blk_drew ?_ | refine blk_alloc ?_ _)); refine blk_far ?_ NB102_167.out _; (with_reducible repeat (first | refine blk_drewN ?_ _ | refine blk_drew ?_ | refine blk_alloc ?_ _)); exact BK102.out) hb); have n7_ := asd (blk_below (g := gb118) (o := .cells #[.int .i64 t113, .slice Ao42 t114.length co42] 26 (0, 0)) (by (with_reducible repeat (first | refine blk_drewN ?_ _ | refine blk_drew ?_ | refine blk_alloc ?_ _)); refine blk_far ?_ NB118_167.out _; (with_reducible repeat (first | refine blk_drewN ?_ _ | refine blk_drew ?_ | refine blk_alloc ?_ _)); refine blk_far ?_ NB118_167.out _; (with_reducible repeat (first | refine blk_drewN ?_ _ | refine blk_drew ?_ | refine blk_alloc ?_ _)); exact BK118.out) hb); have n8_ := asd (blk_below (g := gb134) (o := .cells #[.int .i64 t129, .slice Ao72 t130.length co72] 26 (0, 0)) (by (with_reducible repeat (first | refine blk_drewN ?_ _ | refine blk_drew ?_ | refine blk_alloc ?_ _)); refine blk_far ?_ NB134_167.out _; (with_reducible repeat (first | refine blk_drewN ?_ _ | refine blk_drew ?_ | refine blk_alloc ?_ _)); refine blk_far ?_ NB134_167.out _; (with_reducible repeat (first | refine blk_drewN ?_ _ | refine blk_drew ?_ | refine blk_alloc ?_ _)); exact BK134.out) hb); have n9_ := asd (blk_below (g := gb167) (o := .cells #[.int .i64 t162, .slice Ao158 t163.length co158] 26 (0, 0)) (by (with_reducible repeat (first | refine blk_drewN ?_ _ | refine blk_drew ?_ | refine blk_alloc ?_ _)); refine blk_put (cs := #[.int .i64 t162, .slice none 0 0]) ?_ 1 _ rfl; (with_reducible repeat (first | refine blk_drewN ?_ _ | refine blk_drew ?_ | refine blk_alloc ?_ _)); refine blk_put (cs := #[.int .i64 0, .slice none 0 0]) ?_ 0 _ rfl; (with_reducible repeat (first | refine blk_drewN ?_ _ | refine blk_drew ?_ | refine blk_alloc ?_ _)); exact BK167.out) hb); have n10_ := asd (below_step (by repeat (first | (with_reducible first | exact HB.out | apply below_alloc | apply pw_below_drewN | apply below_drew1 | refine below_set ?_ GE101.out | refine below_set ?_ GE102.out | refine below_set ?_ GE118.out | refine below_set ?_ GE134.out | refine below_set ?_ GE167.out) | exact HB.out)) hb); clear HO_119001; clear HO_135001; clear HO157; clear HO161; clear HO165; clear BK101; clear BK102; clear BK118; clear BK134; clear BK167; clear HB; have HO_119001 := n0_; have HO_135001 := n1_; have HO157 := n2_; have HO161 := n3_; have HO165 := n4_; have BK101 := n5_; have BK102 := n6_; have BK118 := n7_; have BK134 := n8_; have BK167 := n9_; have HB := n10_; clear n0_ n1_ n2_ n3_ n4_ n5_ n6_ n7_ n8_ n9_ n10_; (try clear hb); (try clear hb2); (try clear hk); (try clear hi)))
               go_meet
               case rel => exact ⟨_, ((t166 != t117)), (by first | rfl | (simp; done) | (simp [*]; done)), H', ⟨by have := HJ24.out; have := HJ95.out; first | omega | exact Nat.le_refl _⟩, ⟨by (with_reducible repeat (first | apply Kd.R_alloc | apply Kd.R_drewN | apply Kd.R_drew)); exact Kd.R_mono HO_135001.out (fun _ hk => trivial)⟩, ⟨by (with_reducible repeat (first | refine blk_drewN ?_ _ | refine blk_drew ?_ | refine blk_alloc ?_ _)); exact BK134.out⟩, ⟨by repeat (first | (with_reducible first | exact HB.out | apply below_alloc | apply pw_below_drewN | apply below_drew1 | refine below_set ?_ GE101.out | refine below_set ?_ GE102.out | refine below_set ?_ GE118.out | refine below_set ?_ GE134.out | refine below_set ?_ GE167.out) | exact HB.out)⟩⟩
              ·
               replace c161 := Bool.eq_false_iff.mpr c161
               subst c161
               have H1 : (laws_FnExactMeetOfSpaces.j2 kj95 t151 true t129 t152) = some r := by rw [if_neg (show ¬ (false = true) by decide)] at H; exact H
               clear H
               have H := H1
               clear H1
               rcases kj95 with _ | kk_
               ·
                exact absurd H (by simp [laws_FnExactMeetOfSpaces.j2])
               ·
                simp only [laws_FnExactMeetOfSpaces.j2] at H
                rw [if_pos trivial] at H
                exact absurd ((Option.some.inj H).trans hT_.out) (by decide)
             case rest =>
              clear HC141
              try clear c1
              try clear p2
              try clear c15
              try clear c16
              try clear c17
              try clear c161
              try clear c162
              try clear c163
              try clear c164
              try clear c165
              try clear c167
              try clear c168
              try clear c169
              try clear hcz166_0
              try clear hcz166_1
              try clear hcz170_0
              try clear hcz170_1
              try clear hfz166_0
              try clear hfz166_1
              try clear hfz170_0
              try clear hfz170_1
              obtain ⟨kq, x110_140, rfl, HA, HJ140, HO_135001, BK134, HB⟩ := hcut
              have hl135001_140 := (Kd.R_reads' HO_135001.out).1
              rw [hl135001_140] at HO_135001
              (try simp only [hl135001_140])
              (try simp only [hl135001_140] at BK134)
              cases kq with
              | zero => exact absurd HA.out (by simp [laws_FnExactMeetOfSpaces.j2])
              | succ kj140 =>
               have H := HA.out
               clear HA
               simp only [laws_FnExactMeetOfSpaces.j2] at H
               by_cases c172 : x110_140 = true
               ·
                subst c172
                have H1 : (some false) = some r := by rw [if_pos rfl] at H; exact H
                clear H
                have H := H1
                clear H1
                exact absurd ((Option.some.inj H).trans hT_.out) (by decide)
               ·
                replace c172 := Bool.eq_false_iff.mpr c172
                subst c172
                have H1 : ((laws_heldSpace.f kj140 t129 t152 1).bind fun t169 => (if t169 < 0 then (some false) else (if t169 = t151 then (some true) else (some false)))) = some r := by rw [if_neg (show ¬ (false = true) by decide)] at H; exact H
                clear H
                have H := H1
                clear H1
                replace H := Option.bind_eq_some_iff.mp H
                obtain ⟨t169, A1730, H⟩ := H
                replace H : (if t169 < 0 then (some false) else (if t169 = t151 then (some true) else (some false))) = some r := H
                have A173 := asd A1730
                clear A1730
                by_cases c174 : t169 < 0
                ·
                 rw [if_pos c174] at H
                 have c174b0 : decide (t169 < 0) = true := decide_eq_true c174
                 clear c174
                 exact absurd ((Option.some.inj H).trans hT_.out) (by decide)
                ·
                 rw [if_neg c174] at H
                 have c174b0 : decide (t169 < 0) = false := decide_eq_false c174
                 clear c174
                 by_cases c175 : t169 = t151
                 ·
                  rw [if_pos c175] at H
                  have c175b0 : (t169 == t151) = true := beq_iff_eq.mpr c175
                  have c175b1 : (t169 != t151) = false := bne_eq_false_iff_eq.mpr c175
                  clear c175
                  obtain rfl := Option.some.inj H
                  have hcz176_0 : wc.cell? ⟨gb134, 0, none⟩ = some (.int .i64 t129) := (blk_cell BK134.out 0).trans rfl
                  have hcz176_1 : wc.cell? ⟨gb134, 1, none⟩ = some (.slice Ao72 t152.length co72) := (blk_cell BK134.out 1).trans rfl
                  have hfz176_0 := blk_frozen BK134.out 0
                  have hfz176_1 := blk_frozen BK134.out 1
                  go_wp2_with (first | ((with_reducible refine gate_callee (f := 19) rfl ?_); refine goesL_ (some 113) rfl rfl Try.func19 (by kernel_rfl) rfl #[.agg #[.int .i64 t129, .slice Ao72 t152.length co72], .int .i64 1] rfl (by (try simp only [List.map_toArray, List.map_cons, List.map_nil]); first | done | rfl | (simp only [List.length_drop, List.length_take]; rfl)) ?_; (with_reducible refine (laws_heldSpace.calls kj140 t129 _ _ t152 1 t169 _ ?side1 ?side2 A173.out).mono ?_); (case side1 => repeat (first | exact (Kd.R_reads' HO_135001.out).2.2 | (with_reducible refine Kd.C_alloc ?_ _) | (with_reducible refine Kd.C_drewN ?_ _) | (with_reducible refine Kd.C_drew ?_))); (case side2 => exact (Kd.R_reads' HO_135001.out).2.1); rintro e w177 ⟨rfl, hb⟩; refine ⟨_, rfl, ?_⟩; have n0_ := asd (Kd.R_below (upR <| HO_135001.out) hb); have n1_ := asd (blk_below (upB BK134.out) hb); have n2_ := asd (below_step (by repeat (first | (with_reducible first | exact HB.out | apply below_alloc | apply pw_below_drewN | apply below_drew1 | refine below_set ?_ GE134.out) | exact HB.out)) hb); clear HO_135001; clear BK134; clear HB; have HO_135001 := n0_; have BK134 := n1_; have HB := n2_; clear n0_ n1_ n2_; (try clear hb); (try clear hb2); (try clear hk); (try clear hi)))
                  go_ret
                  exact ⟨by first | rfl | (simp [errW_none, errW_some] <;> rfl) | (simp [*, errW_none, errW_some] <;> rfl), by repeat (first | (with_reducible first | exact HB.out | apply below_alloc | apply pw_below_drewN | apply below_drew1 | refine below_set ?_ GE134.out) | exact HB.out)⟩
                 ·
                  rw [if_neg c175] at H
                  have c175b0 : (t169 == t151) = false := beq_eq_false_iff_ne.mpr c175
                  have c175b1 : (t169 != t151) = true := bne_iff_ne.mpr c175
                  exact absurd ((Option.some.inj H).trans hT_.out) (by decide)
            ·
             rw [if_neg c137] at H
             have c137b0 : (t153 == t151) = false := beq_eq_false_iff_ne.mpr c137
             have c137b1 : (t153 != t151) = true := bne_iff_ne.mpr c137
             exact absurd ((Option.some.inj H).trans hT_.out) (by decide)
       ·
        replace c93 := Bool.eq_false_iff.mpr c93
        subst c93
        have H1 : (some false) = some r := by rw [if_neg (show ¬ (false = true) by decide)] at H; exact H
        clear H
        have H := H1
        clear H1
        exact absurd ((Option.some.inj H).trans hT_.out) (by decide)
      ·
       replace c90 := Bool.eq_false_iff.mpr c90
       subst c90
       have H1 : (some false) = some r := by rw [if_neg (show ¬ (false = true) by decide)] at H; exact H
       clear H
       have H := H1
       clear H1
       exact absurd ((Option.some.inj H).trans hT_.out) (by decide)

end Go.Proofs.Ytpilnkaiepdemaa.Q
