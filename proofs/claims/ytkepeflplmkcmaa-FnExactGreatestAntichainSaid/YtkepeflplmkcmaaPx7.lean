/- Contracts of functions that the laws reach: a call returns what the plain Lean function of the same name tells. Conditions: those of each theorem. Made by gen.py, a program of this session, over the print of the translation. -/
import Derived.Test.YtkepeflplmkcmaaPx0
import Derived.Test.YtkepeflplmkcmaaPx1
import Derived.Test.YtkepeflplmkcmaaPx2
import Derived.Test.YtkepeflplmkcmaaPx5
namespace Go.Proofs.Ytkepeflplmkcmaa.Q
open Go.RowKit Go.Proofs.YtkepeflplmkcmaaW.PrintWords Go.Proofs.YtkepeflplmkcmaaW.PrintLast Go.Proofs.YtkepeflplmkcmaaW.PrintMore
attribute [local go_sem] max2_int min2_int max_two min_two max_three min_three max_four min_four   -- for this text's walks alone
set_option linter.unusedVariables false
set_option linter.unusedSimpArgs false

/-! ### spec_cnGet: function 135 -/
mutual
def spec_cnGet.l0 : Nat → List Int → List Int → List Int → List Bool → Int → List Int → Int → Int → Option (Bool × List Int × List Int × List Bool)
 | 0, _, _, _, _, _, _, _, _ => none
 | k + 1, x0, x1, x2, x3, x4, x13, x14, x15 => if x15 < x14 then (if 0 ≤ x15 then (if x15 < (x13.length : Int) then (if x4 = x15 then (spec_cnGet.j1 k x0 x1 x2 x3 x4 x15 x13 x14 x15 true) else (if 0 ≤ x4 then (if x4 < (x0.length : Int) then ((spec_cnParts.f (rd x13 x15) (rd x0 x4)).bind fun t103 => (if t103 = true then (if x15 < (x3.length : Int) then (spec_cnGet.j1 k x0 x1 x2 x3 x4 x15 x13 x14 x15 (rdOf false x3 x15)) else (none)) else (spec_cnGet.j1 k x0 x1 x2 x3 x4 x15 x13 x14 x15 true))) else (none)) else (none))) else (none)) else (none)) else (some (false, x1, x2, x3))
def spec_cnGet.j1 : Nat → List Int → List Int → List Int → List Bool → Int → Int → List Int → Int → Int → Bool → Option (Bool × List Int × List Int × List Bool)
 | 0, _, _, _, _, _, _, _, _, _, _ => none
 | k + 1, x0, x1, x2, x3, x4, x11, x13, x14, x15, x37 => if x37 = true then (spec_cnGet.l0 k x0 x1 x2 x3 x4 x13 x14 (wrap64 (x15 + 1))) else (if 0 ≤ x11 then (if x11 < (x3.length : Int) then ((some (x3.set (x11 : Int).toNat true : List Bool)).bind fun y105 => (if x11 < (x2.length : Int) then (if (rd x2 x11) < 0 then (if 0 ≤ x4 then (if x4 < (x1.length : Int) then (some (true, (x1.set (x4 : Int).toNat x11), (x2.set (x11 : Int).toNat x4), y105)) else (none)) else (none)) else ((spec_cnGet.f k x0 x1 x2 y105 (rd x2 x11)).bind fun bt110 => (if bt110.1 = true then (if 0 ≤ x4 then (if x4 < (x1.length : Int) then (some (true, (bt110.2.1.set (x4 : Int).toNat x11), (bt110.2.2.1.set (x11 : Int).toNat x4), bt110.2.2.2)) else (none)) else (none)) else (spec_cnGet.l0 k x0 bt110.2.1 bt110.2.2.1 bt110.2.2.2 x4 x13 x14 (wrap64 (x15 + 1)))))) else (none))) else (none)) else (none))
def spec_cnGet.f : Nat → List Int → List Int → List Int → List Bool → Int → Option (Bool × List Int × List Int × List Bool)
 | 0, _, _, _, _, _ => none
 | k + 1, l0, l1, l2, l3, a4 => spec_cnGet.l0 k l0 l1 l2 l3 a4 l0 (l0.length : Int) 0
end
theorem spec_cnGet.mono_l : ∀ k, (∀ y0 y1 y2 y3 y4, LeO (spec_cnGet.f k y0 y1 y2 y3 y4) (spec_cnGet.f (k + 1) y0 y1 y2 y3 y4)) ∧ (∀ y0 y1 y2 y3 y4 y5 y6 y7, LeO (spec_cnGet.l0 k y0 y1 y2 y3 y4 y5 y6 y7) (spec_cnGet.l0 (k + 1) y0 y1 y2 y3 y4 y5 y6 y7)) ∧ (∀ y0 y1 y2 y3 y4 y5 y6 y7 y8 y9, LeO (spec_cnGet.j1 k y0 y1 y2 y3 y4 y5 y6 y7 y8 y9) (spec_cnGet.j1 (k + 1) y0 y1 y2 y3 y4 y5 y6 y7 y8 y9))
 | 0 => ⟨fun _ _ _ _ _ r h => by simp [spec_cnGet.f] at h, fun _ _ _ _ _ _ _ _ r h => by simp [spec_cnGet.l0] at h, fun _ _ _ _ _ _ _ _ _ _ r h => by simp [spec_cnGet.j1] at h⟩
 | k + 1 => by
  obtain ⟨ih0, ih1, ih2⟩ := spec_cnGet.mono_l k
  refine ⟨?_, ?_, ?_⟩
  ·
   intro y0 y1 y2 y3 y4
   unfold spec_cnGet.f
   repeat' first
   | (with_reducible exact ih0 _ _ _ _ _)
   | (with_reducible exact ih1 _ _ _ _ _ _ _ _)
   | (with_reducible exact ih2 _ _ _ _ _ _ _ _ _ _)
   | (with_reducible exact LeO.refl _)
   | (with_reducible exact LeO.none _)
   | (with_reducible refine LeO.ite ?_ ?_)
   | (with_reducible refine LeO.bind ?_ (fun _ => ?_))
   | exact ih0 _ _ _ _ _
   | exact ih1 _ _ _ _ _ _ _ _
   | exact ih2 _ _ _ _ _ _ _ _ _ _
   | exact LeO.none _
   | refine LeO.ite ?_ ?_
   | refine LeO.bind ?_ (fun _ => ?_)
  ·
   intro y0 y1 y2 y3 y4 y5 y6 y7
   unfold spec_cnGet.l0
   repeat' first
   | (with_reducible exact ih0 _ _ _ _ _)
   | (with_reducible exact ih1 _ _ _ _ _ _ _ _)
   | (with_reducible exact ih2 _ _ _ _ _ _ _ _ _ _)
   | (with_reducible exact LeO.refl _)
   | (with_reducible exact LeO.none _)
   | (with_reducible refine LeO.ite ?_ ?_)
   | (with_reducible refine LeO.bind ?_ (fun _ => ?_))
   | exact ih0 _ _ _ _ _
   | exact ih1 _ _ _ _ _ _ _ _
   | exact ih2 _ _ _ _ _ _ _ _ _ _
   | exact LeO.none _
   | refine LeO.ite ?_ ?_
   | refine LeO.bind ?_ (fun _ => ?_)
  ·
   intro y0 y1 y2 y3 y4 y5 y6 y7 y8 y9
   unfold spec_cnGet.j1
   repeat' first
   | (with_reducible exact ih0 _ _ _ _ _)
   | (with_reducible exact ih1 _ _ _ _ _ _ _ _)
   | (with_reducible exact ih2 _ _ _ _ _ _ _ _ _ _)
   | (with_reducible exact LeO.refl _)
   | (with_reducible exact LeO.none _)
   | (with_reducible refine LeO.ite ?_ ?_)
   | (with_reducible refine LeO.bind ?_ (fun _ => ?_))
   | exact ih0 _ _ _ _ _
   | exact ih1 _ _ _ _ _ _ _ _
   | exact ih2 _ _ _ _ _ _ _ _ _ _
   | exact LeO.none _
   | refine LeO.ite ?_ ?_
   | refine LeO.bind ?_ (fun _ => ?_)
theorem spec_cnGet.mono : ∀ a0 a1 a2 a3 a4 k, LeO (spec_cnGet.f k a0 a1 a2 a3 a4) (spec_cnGet.f (k + 1) a0 a1 a2 a3 a4) := by
 intro a0 a1 a2 a3 a4 k
 obtain ⟨ih0, ih1, ih2⟩ := spec_cnGet.mono_l k
 exact ih0 a0 a1 a2 a3 a4
set_option maxHeartbeats 8000000 in
set_option maxRecDepth 100000 in
theorem spec_cnGet.calls (k : Nat) : ∀ (A0 : Option Addr) (c0 : Nat) (l0 : List Int) (P1_ : Nat → Prop) (u9000_ : Value) (l1 : List Int) (P2_ : Nat → Prop) (u9001_ : Value) (l2 : List Int) (P3_ : Nat → Prop) (u9002_ : Value) (l3 : List Bool) (a4 : Int) (r1 : Bool) (r2 : List Int) (r3 : List Int) (r4 : List Bool) (w0 w : World) (hB : Below w0.heap.size w0 w) (hr0 : ∀ W_, Kept w W_ (fun k_ => P1_ k_ ∨ P2_ k_ ∨ P3_ k_) → Kd.C (Kd.int .i64) W_ A0 l0.length l0) (hc0 : l0.length ≤ c0) (ho1 : Kd.R (Kd.int .i64) 3 w w0.heap.size P1_ u9000_ l1) (hp1_2 : ∀ k_, P1_ k_ → ¬ P2_ k_) (ho2 : Kd.R (Kd.int .i64) 3 w w0.heap.size P2_ u9001_ l2) (hp2_1 : ∀ k_, P2_ k_ → ¬ P1_ k_) (ho3 : Kd.R Kd.bool 4 w w0.heap.size P3_ u9002_ l3) (h : spec_cnGet.f k l0 l1 l2 l3 a4 = some (r1, r2, r3, r4)),
  Calls Try.prog 135 #[.slice A0 l0.length c0, u9000_, u9001_, u9002_, .int .i64 a4] w fun e w' => e = .returned (.bool r1) ∧ Kd.R (Kd.int .i64) 3 w' w0.heap.size (fun k_ => ((P1_ k_ ∨ P2_ k_ ∨ P3_ k_) ∨ w.heap.size ≤ k_)) u9000_ r2 ∧ Kd.R (Kd.int .i64) 3 w' w0.heap.size (fun k_ => ((P1_ k_ ∨ P2_ k_ ∨ P3_ k_) ∨ w.heap.size ≤ k_)) u9001_ r3 ∧ Kd.R Kd.bool 4 w' w0.heap.size (fun k_ => ((P1_ k_ ∨ P2_ k_ ∨ P3_ k_) ∨ w.heap.size ≤ k_)) u9002_ r4 ∧ Below w0.heap.size w0 w' ∧ Kept w w' (fun k_ => P1_ k_ ∨ P2_ k_ ∨ P3_ k_) := by
 induction k using Nat.strongRecOn with
 | _ k ih =>
 intro A0 c0 l0 P1_ u9000_ l1 P2_ u9001_ l2 P3_ u9002_ l3 a4 r1 r2 r3 r4 w0 w hB hr0 hc0 ho1 hp1_2 ho2 hp2_1 ho3 h
 cases k with
 | zero => exact absurd h (by simp [spec_cnGet.f])
 | succ k =>
 simp only [spec_cnGet.f] at h
 have HR0 := asd hr0
 have HC0 := asd hc0
 clear hr0 hc0
 have HO1 := asd (show Kd.R (Kd.int .i64) 3 w w0.heap.size (fun k_ => ((P1_ k_ ∨ P2_ k_ ∨ P3_ k_) ∨ w.heap.size ≤ k_) ∧ some k_ ≠ (u9001_ : Value).ownBlock) u9000_ l1 from Kd.R_mono ho1 (fun k_ hk => ⟨(.inl (.inl hk)), fun e_ => hp1_2 k_ hk (ho2.1 k_ e_.symm)⟩))
 have HO2 := asd (show Kd.R (Kd.int .i64) 3 w w0.heap.size (fun k_ => ((P1_ k_ ∨ P2_ k_ ∨ P3_ k_) ∨ w.heap.size ≤ k_) ∧ some k_ ≠ (u9000_ : Value).ownBlock) u9001_ l2 from Kd.R_mono ho2 (fun k_ hk => ⟨(.inl (.inr (.inl hk))), fun e_ => hp2_1 k_ hk (ho1.1 k_ e_.symm)⟩))
 have HO3 := asd (show Kd.R Kd.bool 4 w w0.heap.size (fun k_ => ((P1_ k_ ∨ P2_ k_ ∨ P3_ k_) ∨ w.heap.size ≤ k_)) u9002_ l3 from Kd.R_mono ho3 (fun k_ hk => (.inl (.inr (.inr hk)))))
 have HK := asd (Kept.refl w (fun k_ => P1_ k_ ∨ P2_ k_ ∨ P3_ k_))
 have HW0 := asd hB.size
 have HB := asd hB
 clear hB
 have H : (spec_cnGet.l0 k l0 l1 l2 l3 a4 l0 (l0.length : Int) 0) = some (r1, r2, r3, r4) := h
 clear h
 have H' := asd H
 clear H
 go_enter Try.func135, Try.ntmps135
 go_wp2
 go_loopg [15] k (fun kq v15 w' => ∃ (x1_1 : List Int) (x2_1 : List Int) (x3_1 : List Bool) (x15_1 : Int), v15 = .int .i64 x15_1 ∧ Aside0 (spec_cnGet.l0 kq l0 x1_1 x2_1 x3_1 a4 l0 (l0.length : Int) x15_1 = some (r1, r2, r3, r4)) ∧ Aside0 (kq ≤ k) ∧ Aside0 (Kd.R (Kd.int .i64) 3 w' w0.heap.size (fun k_ => ((P1_ k_ ∨ P2_ k_ ∨ P3_ k_) ∨ w.heap.size ≤ k_) ∧ some k_ ≠ (u9001_ : Value).ownBlock) u9000_ x1_1) ∧ Aside0 (Kd.R (Kd.int .i64) 3 w' w0.heap.size (fun k_ => ((P1_ k_ ∨ P2_ k_ ∨ P3_ k_) ∨ w.heap.size ≤ k_) ∧ some k_ ≠ (u9000_ : Value).ownBlock) u9001_ x2_1) ∧ Aside0 (Kd.R Kd.bool 4 w' w0.heap.size (fun k_ => ((P1_ k_ ∨ P2_ k_ ∨ P3_ k_) ∨ w.heap.size ≤ k_)) u9002_ x3_1) ∧ Aside0 (Kept w w' (fun k_ => P1_ k_ ∨ P2_ k_ ∨ P3_ k_)) ∧ Aside0 (Below w0.heap.size w0 w'))
 case atStart => exact ⟨(l1), (l2), (l3), (0), (by first | rfl | (simp; done) | (simp [*]; done)), H', ⟨Nat.le_refl _⟩, ⟨by (with_reducible repeat (first | apply Kd.R_alloc | apply Kd.R_drewN | apply Kd.R_drew)); exact HO1.out⟩, ⟨by (with_reducible repeat (first | apply Kd.R_alloc | apply Kd.R_drewN | apply Kd.R_drew)); exact HO2.out⟩, ⟨by (with_reducible repeat (first | apply Kd.R_alloc | apply Kd.R_drewN | apply Kd.R_drew)); exact HO3.out⟩, ⟨by repeat (first | (with_reducible first | exact HK.out | apply Kept.alloc | apply Kept.drewN | apply Kept.drew) | exact HK.out)⟩, ⟨by repeat (first | (with_reducible first | exact HB.out | apply below_alloc | apply pw_below_drewN | apply below_drew1) | exact HB.out)⟩⟩
 case round =>
  clear H'
  try clear c1
  try clear p1
  try clear p2
  try clear HO_1; try clear HO_2; try clear HO_3; try clear HK; skip
  obtain ⟨x1_1, x2_1, x3_1, x15_1, rfl, HA, HK1, HO_1, HO_2, HO_3, HK, HB⟩ := hrel
  cases gk with
  | zero => exact absurd HA.out (by simp [spec_cnGet.l0])
  | succ k1 =>
   have H := HA.out
   clear HA
   simp only [spec_cnGet.l0] at H
   by_cases c6 : x15_1 < (l0.length : Int)
   ·
    rw [if_pos c6] at H
    have c6b0 : decide (x15_1 < (l0.length : Int)) = true := decide_eq_true c6
    clear c6
    by_cases c7 : 0 ≤ x15_1
    ·
     rw [if_pos c7] at H
     have c7b0 : decide (0 ≤ x15_1) = true := decide_eq_true c7
     clear c7
     by_cases c8 : x15_1 < (l0.length : Int)
     ·
      rw [if_pos c8] at H
      have c8b0 : decide (x15_1 < (l0.length : Int)) = true := decide_eq_true c8
      clear c8
      have HC9 := asd H
      clear H
      have p101 : 0 ≤ (x15_1 : Int) := of_decide_eq_true (by first | (with_reducible assumption) | assumption)
      have q101 : x15_1 < (l0.length : Int) := of_decide_eq_true (by first | (with_reducible assumption) | assumption)
      obtain ⟨ad101, e101, hx101_0⟩ := Kd.at_int (Kd.C_kept_now HR0.out HK.out) x15_1 p101 q101
      cases e101
      replace p101 := eq_true p101
      replace q101 := eq_true q101
      go_upto_region 4 with (fail)
      go_cut [37] (fun v37 wc => ∃ (kq : Nat) (x37_8 : Bool), v37 = .bool x37_8 ∧ Aside0 (spec_cnGet.j1 kq l0 x1_1 x2_1 x3_1 a4 x15_1 l0 (l0.length : Int) x15_1 x37_8 = some (r1, r2, r3, r4)) ∧ Aside0 (kq ≤ k1) ∧ Aside0 (Kd.R (Kd.int .i64) 3 wc w0.heap.size (fun k_ => ((P1_ k_ ∨ P2_ k_ ∨ P3_ k_) ∨ w.heap.size ≤ k_) ∧ some k_ ≠ (u9001_ : Value).ownBlock) u9000_ x1_1) ∧ Aside0 (Kd.R (Kd.int .i64) 3 wc w0.heap.size (fun k_ => ((P1_ k_ ∨ P2_ k_ ∨ P3_ k_) ∨ w.heap.size ≤ k_) ∧ some k_ ≠ (u9000_ : Value).ownBlock) u9001_ x2_1) ∧ Aside0 (Kd.R Kd.bool 4 wc w0.heap.size (fun k_ => ((P1_ k_ ∨ P2_ k_ ∨ P3_ k_) ∨ w.heap.size ≤ k_)) u9002_ x3_1) ∧ Aside0 (Kept w wc (fun k_ => P1_ k_ ∨ P2_ k_ ∨ P3_ k_)) ∧ Aside0 (Below w0.heap.size w0 wc))
      case first =>
       have H := HC9.out
       clear HC9
       by_cases c10 : a4 = x15_1
       ·
        rw [if_pos c10] at H
        have c10b0 : (a4 == x15_1) = true := beq_iff_eq.mpr c10
        have c10b1 : (a4 != x15_1) = false := bne_eq_false_iff_eq.mpr c10
        clear c10
        (first | rw [c10b0] | (simp only [i64_w, i32_w]; rw [c10b0]) | skip)
        have H' := asd H
        clear H
        go_wp2
        go_meet
        case rel => exact ⟨_, (true), (by first | rfl | (simp; done) | (simp [*]; done)), H', ⟨by have := HK1.out; first | omega | exact Nat.le_refl _⟩, ⟨by (with_reducible repeat (first | apply Kd.R_alloc | apply Kd.R_drewN | apply Kd.R_drew)); exact HO_1.out⟩, ⟨by (with_reducible repeat (first | apply Kd.R_alloc | apply Kd.R_drewN | apply Kd.R_drew)); exact HO_2.out⟩, ⟨by (with_reducible repeat (first | apply Kd.R_alloc | apply Kd.R_drewN | apply Kd.R_drew)); exact HO_3.out⟩, ⟨by repeat (first | (with_reducible first | exact HK.out | apply Kept.alloc | apply Kept.drewN | apply Kept.drew) | exact HK.out)⟩, ⟨by repeat (first | (with_reducible first | exact HB.out | apply below_alloc | apply pw_below_drewN | apply below_drew1) | exact HB.out)⟩⟩
       ·
        rw [if_neg c10] at H
        have c10b0 : (a4 == x15_1) = false := beq_eq_false_iff_ne.mpr c10
        have c10b1 : (a4 != x15_1) = true := bne_iff_ne.mpr c10
        (first | rw [c10b0] | (simp only [i64_w, i32_w]; rw [c10b0]) | skip)
        by_cases c11 : 0 ≤ a4
        ·
         rw [if_pos c11] at H
         have c11b0 : decide (0 ≤ a4) = true := decide_eq_true c11
         clear c11
         by_cases c12 : a4 < (l0.length : Int)
         ·
          rw [if_pos c12] at H
          have c12b0 : decide (a4 < (l0.length : Int)) = true := decide_eq_true c12
          clear c12
          replace H := Option.bind_eq_some_iff.mp H
          obtain ⟨t103, A130, H⟩ := H
          replace H : (if t103 = true then (if x15_1 < (x3_1.length : Int) then (spec_cnGet.j1 k1 l0 x1_1 x2_1 x3_1 a4 x15_1 l0 (l0.length : Int) x15_1 (rdOf false x3_1 x15_1)) else (none)) else (spec_cnGet.j1 k1 l0 x1_1 x2_1 x3_1 a4 x15_1 l0 (l0.length : Int) x15_1 true)) = some (r1, r2, r3, r4) := H
          have A13 := asd A130
          clear A130
          by_cases c14 : t103 = true
          ·
           subst c14
           have H1 : (if x15_1 < (x3_1.length : Int) then (spec_cnGet.j1 k1 l0 x1_1 x2_1 x3_1 a4 x15_1 l0 (l0.length : Int) x15_1 (rdOf false x3_1 x15_1)) else (none)) = some (r1, r2, r3, r4) := by rw [if_pos rfl] at H; exact H
           clear H
           have H := H1
           clear H1
           by_cases c15 : x15_1 < (x3_1.length : Int)
           ·
            rw [if_pos c15] at H
            have c15b0 : decide (x15_1 < (x3_1.length : Int)) = true := decide_eq_true c15
            clear c15
            have H' := asd H
            clear H
            have p102 : 0 ≤ (a4 : Int) := of_decide_eq_true (by first | (with_reducible assumption) | assumption)
            have q102 : a4 < (l0.length : Int) := of_decide_eq_true (by first | (with_reducible assumption) | assumption)
            obtain ⟨ad102, e102, hx102_0⟩ := Kd.at_int (Kd.C_kept_now HR0.out HK.out) a4 p102 q102
            obtain rfl : ad101 = ad102 := (by injection e102)
            replace p102 := eq_true p102
            replace q102 := eq_true q102
            go_wp2_with (first | (go_at_call 134; (with_reducible refine (spec_cnParts.calls (rd l0 x15_1) (rd l0 a4) true _ A13.out).mono ?_); rintro e w' ⟨rfl, ⟨nd, rfl⟩⟩; obtain ⟨Ao16, co16, eo16⟩ := Kd.R_slice HO_3.out; subst eo16; have p104 : 0 ≤ (x15_1 : Int) := of_decide_eq_true (by first | (with_reducible assumption) | assumption); have q104 : x15_1 < (x3_1.length : Int) := of_decide_eq_true (by first | (with_reducible assumption) | assumption); obtain ⟨ad104, e104, hx104_0⟩ := Kd.at_bool (Kd.R_reads' HO_3.out).2.2 x15_1 p104 q104; cases e104; replace p104 := eq_true p104; replace q104 := eq_true q104))
            go_meet
            case rel => exact ⟨_, (rdOf false x3_1 x15_1), (by first | rfl | (simp; done) | (simp [*]; done)), H', ⟨by have := HK1.out; first | omega | exact Nat.le_refl _⟩, ⟨by (with_reducible repeat (first | apply Kd.R_alloc | apply Kd.R_drewN | apply Kd.R_drew)); exact HO_1.out⟩, ⟨by (with_reducible repeat (first | apply Kd.R_alloc | apply Kd.R_drewN | apply Kd.R_drew)); exact HO_2.out⟩, ⟨by (with_reducible repeat (first | apply Kd.R_alloc | apply Kd.R_drewN | apply Kd.R_drew)); exact HO_3.out⟩, ⟨by repeat (first | (with_reducible first | exact HK.out | apply Kept.alloc | apply Kept.drewN | apply Kept.drew) | exact HK.out)⟩, ⟨by repeat (first | (with_reducible first | exact HB.out | apply below_alloc | apply pw_below_drewN | apply below_drew1) | exact HB.out)⟩⟩
           ·
            rw [if_neg c15] at H
            exact absurd H (by simp)
          ·
           replace c14 := Bool.eq_false_iff.mpr c14
           subst c14
           have H1 : (spec_cnGet.j1 k1 l0 x1_1 x2_1 x3_1 a4 x15_1 l0 (l0.length : Int) x15_1 true) = some (r1, r2, r3, r4) := by rw [if_neg (show ¬ (false = true) by decide)] at H; exact H
           clear H
           have H := H1
           clear H1
           have H' := asd H
           clear H
           have p102 : 0 ≤ (a4 : Int) := of_decide_eq_true (by first | (with_reducible assumption) | assumption)
           have q102 : a4 < (l0.length : Int) := of_decide_eq_true (by first | (with_reducible assumption) | assumption)
           obtain ⟨ad102, e102, hx102_0⟩ := Kd.at_int (Kd.C_kept_now HR0.out HK.out) a4 p102 q102
           obtain rfl : ad101 = ad102 := (by injection e102)
           replace p102 := eq_true p102
           replace q102 := eq_true q102
           go_wp2_with (first | (go_at_call 134; (with_reducible refine (spec_cnParts.calls (rd l0 x15_1) (rd l0 a4) false _ A13.out).mono ?_); rintro e w' ⟨rfl, ⟨nd, rfl⟩⟩))
           go_meet
           case rel => exact ⟨_, (true), (by first | rfl | (simp; done) | (simp [*]; done)), H', ⟨by have := HK1.out; first | omega | exact Nat.le_refl _⟩, ⟨by (with_reducible repeat (first | apply Kd.R_alloc | apply Kd.R_drewN | apply Kd.R_drew)); exact HO_1.out⟩, ⟨by (with_reducible repeat (first | apply Kd.R_alloc | apply Kd.R_drewN | apply Kd.R_drew)); exact HO_2.out⟩, ⟨by (with_reducible repeat (first | apply Kd.R_alloc | apply Kd.R_drewN | apply Kd.R_drew)); exact HO_3.out⟩, ⟨by repeat (first | (with_reducible first | exact HK.out | apply Kept.alloc | apply Kept.drewN | apply Kept.drew) | exact HK.out)⟩, ⟨by repeat (first | (with_reducible first | exact HB.out | apply below_alloc | apply pw_below_drewN | apply below_drew1) | exact HB.out)⟩⟩
         ·
          rw [if_neg c12] at H
          exact absurd H (by simp)
        ·
         rw [if_neg c11] at H
         exact absurd H (by simp)
      case rest =>
       clear HC9
       try clear c1
       try clear p1
       try clear q1
       try clear hx1
       try clear p2
       try clear c6
       try clear c6b0
       try clear c7
       try clear c7b0
       try clear c8
       try clear c8b0
       try clear c10
       try clear c10b0
       try clear c10b1
       try clear p10
       try clear q10
       try clear hx10
       try clear c11
       try clear c11b0
       try clear c12
       try clear c12b0
       try clear c13
       try clear c14
       try clear c15
       try clear c15b0
       try clear hx101_0
       try clear hx102_0
       try clear hx104_0
       try clear p1
       try clear p101
       try clear p102
       try clear p104
       try clear p2
       try clear q101
       try clear q102
       try clear q104
       obtain ⟨kq, x37_8, rfl, HA, HJ8, HO_1, HO_2, HO_3, HK, HB⟩ := hcut
       cases kq with
       | zero => exact absurd HA.out (by simp [spec_cnGet.j1])
       | succ kj8 =>
        have H := HA.out
        clear HA
        simp only [spec_cnGet.j1] at H
        by_cases c17 : x37_8 = true
        ·
         subst c17
         have H1 : (spec_cnGet.l0 kj8 l0 x1_1 x2_1 x3_1 a4 l0 (l0.length : Int) (wrap64 (x15_1 + 1))) = some (r1, r2, r3, r4) := by rw [if_pos rfl] at H; exact H
         clear H
         have H := H1
         clear H1
         have H' := asd H
         clear H
         go_wp2
         go_roundg kj8
         case measure => have := HK1.out; have := HJ8.out; omega
         case rel => exact ⟨(x1_1), (x2_1), (x3_1), (wrap64 (x15_1 + 1)), (by first | rfl | (simp; done) | (simp [*]; done)), H', ⟨by have := HK1.out; have := HJ8.out; omega⟩, ⟨by (with_reducible repeat (first | apply Kd.R_alloc | apply Kd.R_drewN | apply Kd.R_drew)); exact HO_1.out⟩, ⟨by (with_reducible repeat (first | apply Kd.R_alloc | apply Kd.R_drewN | apply Kd.R_drew)); exact HO_2.out⟩, ⟨by (with_reducible repeat (first | apply Kd.R_alloc | apply Kd.R_drewN | apply Kd.R_drew)); exact HO_3.out⟩, ⟨by repeat (first | (with_reducible first | exact HK.out | apply Kept.alloc | apply Kept.drewN | apply Kept.drew) | exact HK.out)⟩, ⟨by repeat (first | (with_reducible first | exact HB.out | apply below_alloc | apply pw_below_drewN | apply below_drew1) | exact HB.out)⟩⟩
        ·
         replace c17 := Bool.eq_false_iff.mpr c17
         subst c17
         have H1 : (if 0 ≤ x15_1 then (if x15_1 < (x3_1.length : Int) then ((some (x3_1.set (x15_1 : Int).toNat true : List Bool)).bind fun y105 => (if x15_1 < (x2_1.length : Int) then (if (rd x2_1 x15_1) < 0 then (if 0 ≤ a4 then (if a4 < (x1_1.length : Int) then (some (true, (x1_1.set (a4 : Int).toNat x15_1), (x2_1.set (x15_1 : Int).toNat a4), y105)) else (none)) else (none)) else ((spec_cnGet.f kj8 l0 x1_1 x2_1 y105 (rd x2_1 x15_1)).bind fun bt110 => (if bt110.1 = true then (if 0 ≤ a4 then (if a4 < (x1_1.length : Int) then (some (true, (bt110.2.1.set (a4 : Int).toNat x15_1), (bt110.2.2.1.set (x15_1 : Int).toNat a4), bt110.2.2.2)) else (none)) else (none)) else (spec_cnGet.l0 kj8 l0 bt110.2.1 bt110.2.2.1 bt110.2.2.2 a4 l0 (l0.length : Int) (wrap64 (x15_1 + 1)))))) else (none))) else (none)) else (none)) = some (r1, r2, r3, r4) := by rw [if_neg (show ¬ (false = true) by decide)] at H; exact H
         clear H
         have H := H1
         clear H1
         by_cases c18 : 0 ≤ x15_1
         ·
          rw [if_pos c18] at H
          have c18b0 : decide (0 ≤ x15_1) = true := decide_eq_true c18
          clear c18
          by_cases c19 : x15_1 < (x3_1.length : Int)
          ·
           rw [if_pos c19] at H
           have c19b0 : decide (x15_1 < (x3_1.length : Int)) = true := decide_eq_true c19
           clear c19
           obtain ⟨y105, hy105⟩ : ∃ y_ : List Bool, y_ = (x3_1.set (x15_1 : Int).toNat true) := ⟨_, rfl⟩
           replace H : (if x15_1 < (x2_1.length : Int) then (if (rd x2_1 x15_1) < 0 then (if 0 ≤ a4 then (if a4 < (x1_1.length : Int) then (some (true, (x1_1.set (a4 : Int).toNat x15_1), (x2_1.set (x15_1 : Int).toNat a4), y105)) else (none)) else (none)) else ((spec_cnGet.f kj8 l0 x1_1 x2_1 y105 (rd x2_1 x15_1)).bind fun bt110 => (if bt110.1 = true then (if 0 ≤ a4 then (if a4 < (x1_1.length : Int) then (some (true, (bt110.2.1.set (a4 : Int).toNat x15_1), (bt110.2.2.1.set (x15_1 : Int).toNat a4), bt110.2.2.2)) else (none)) else (none)) else (spec_cnGet.l0 kj8 l0 bt110.2.1 bt110.2.2.1 bt110.2.2.2 a4 l0 (l0.length : Int) (wrap64 (x15_1 + 1)))))) else (none)) = some (r1, r2, r3, r4) := by first | (rw [hy105]; with_reducible exact H) | (have H2_ := (Option.bind_some _ _).symm.trans H; rw [hy105]; with_reducible exact H2_) | (have H2_ := (Option.bind_some _ _).symm.trans H; with_reducible exact H2_) | with_reducible exact H | (rw [hy105]; exact H) | exact H
           have Ny105 := asd hy105
           clear hy105
           by_cases c21 : x15_1 < (x2_1.length : Int)
           ·
            rw [if_pos c21] at H
            have c21b0 : decide (x15_1 < (x2_1.length : Int)) = true := decide_eq_true c21
            clear c21
            by_cases c22 : (rd x2_1 x15_1) < 0
            ·
             rw [if_pos c22] at H
             have c22b0 : decide ((rd x2_1 x15_1) < 0) = true := decide_eq_true c22
             clear c22
             by_cases c23 : 0 ≤ a4
             ·
              rw [if_pos c23] at H
              have c23b0 : decide (0 ≤ a4) = true := decide_eq_true c23
              clear c23
              by_cases c24 : a4 < (x1_1.length : Int)
              ·
               rw [if_pos c24] at H
               have c24b0 : decide (a4 < (x1_1.length : Int)) = true := decide_eq_true c24
               clear c24
               obtain ⟨y107, hy107⟩ : ∃ y_ : List Int, y_ = (x1_1.set (a4 : Int).toNat x15_1) := ⟨_, rfl⟩
               replace H : (some (true, y107, (x2_1.set (x15_1 : Int).toNat a4), y105)) = some (r1, r2, r3, r4) := by first | (rw [hy107]; with_reducible exact H) | (have H2_ := (Option.bind_some _ _).symm.trans H; rw [hy107]; with_reducible exact H2_) | (have H2_ := (Option.bind_some _ _).symm.trans H; with_reducible exact H2_) | with_reducible exact H | (rw [hy107]; exact H) | exact H
               have Ny107 := asd hy107
               clear hy107
               obtain ⟨y108, hy108⟩ : ∃ y_ : List Int, y_ = (x2_1.set (x15_1 : Int).toNat a4) := ⟨_, rfl⟩
               replace H : (some (true, y107, y108, y105)) = some (r1, r2, r3, r4) := by first | (rw [hy108]; with_reducible exact H) | (have H2_ := (Option.bind_some _ _).symm.trans H; rw [hy108]; with_reducible exact H2_) | (have H2_ := (Option.bind_some _ _).symm.trans H; with_reducible exact H2_) | with_reducible exact H | (rw [hy108]; exact H) | exact H
               have Ny108 := asd hy108
               clear hy108
               simp only [Option.some.injEq, Prod.mk.injEq] at H
               obtain ⟨rfl, rfl, rfl, rfl⟩ := H
               have p20 : 0 ≤ (x15_1 : Int) := of_decide_eq_true (by first | (with_reducible assumption) | assumption)
               have q20 : (x15_1 : Int) < ((x3_1.length : Int) : Int) := of_decide_eq_true (by first | (with_reducible assumption) | assumption)
               obtain ⟨go20, co20, eo20, gb20, gl20, cl20, HG20⟩ := Kd.R_form HO_3.out (by first | omega | (have hy0l_ := HLhy0.out; have hy1l_ := HLhy1.out; have hy2l_ := HLhy2.out; omega))
               (first | cases eo20 | (injection eo20 with ea_ en_ ec_; (first | subst ea_ | (injection ea_ with ea_; subst ea_)); subst ec_; clear en_))
               have GB20 := asd gb20
               have GG20 := asd HG20
               clear gb20 gl20 HG20
               have HMgo20 := asd (show ((P1_ go20 ∨ P2_ go20 ∨ P3_ go20) ∨ w.heap.size ≤ go20) from (HO_3.out.1 _ rfl))
               obtain ⟨hx20_0, hf20_0⟩ := Kd.R_celln false HO_3.out (x15_1 : Int) p20 q20
               replace p20 := eq_true p20
               replace q20 := eq_true q20
               have HP27 := Kd.R_putg HO_3.out (x15_1 : Int) true
               go_wp2_with (first | ((with_reducible refine gate_store (t := 4) (p := 40) rfl ?_); refine store_event (t := 4) (p := 40) (v := ?vo_w28) (w1 := (wc.setCell ⟨go20, (x15_1 : Int).toNat, none⟩ (.bool true))) ?hg ?ho ?hn ?hr ?_; (case ho => rfl); (case hg => rfl); (case hn => rfl); (case hr => first | (go_simp; done) | (go_simp; rfl)); intro w28 hw; have hg : wc.grownBy w28 (some go20) := (by rw [hw]; exact HP27.2); have hp_ : Kd.R Kd.bool 4 w28 w0.heap.size (fun k_ => ((P1_ k_ ∨ P2_ k_ ∨ P3_ k_) ∨ w.heap.size ≤ k_)) (.slice (some ⟨go20, 0, none⟩) x3_1.length co20) y105 := (by rw [hw, Ny105.out]; exact HP27.1); clear HP27; have n0_ := asd (Kd.R_over' (v := (.slice (some ⟨go20, 0, none⟩) x3_1.length co20)) (upR <| HO_1.out) (Kd.R_typed HO_3.out) (by decide) hg); have n1_ := asd (Kd.R_over' (v := (.slice (some ⟨go20, 0, none⟩) x3_1.length co20)) (upR <| HO_2.out) (Kd.R_typed HO_3.out) (by decide) hg); have n2_ := asd (hp_); have n3_ := asd ((by rw [hw]; exact below_set (HB.out) GB20.out : Below w0.heap.size w0 w28)); have n4_ := asd (Kept.of_grown (S := (fun k_ => P1_ k_ ∨ P2_ k_ ∨ P3_ k_)) hg (by repeat (first | (with_reducible first | exact HK.out | apply Kept.alloc | apply Kept.drewN | apply Kept.drew) | exact HK.out)) (fun k_ e_ => (HO_3.out.1 k_ e_))); clear HO_1; clear HO_2; clear HO_3; clear HB; clear HK; have HO_1 := n0_; have HO_2 := n1_; have HO_3 := n2_; have HB := n3_; have HK := n4_; clear n0_ n1_ n2_ n3_ n4_; clear hg hw hp_; obtain ⟨Ao29, co29, eo29⟩ := Kd.R_slice HO_2.out; subst eo29; have p106 : 0 ≤ (x15_1 : Int) := of_decide_eq_true (by first | (with_reducible assumption) | assumption); have q106 : x15_1 < (x2_1.length : Int) := of_decide_eq_true (by first | (with_reducible assumption) | assumption); obtain ⟨ad106, e106, hx106_0⟩ := Kd.at_int (Kd.R_reads' HO_2.out).2.2 x15_1 p106 q106; cases e106; replace p106 := eq_true p106; replace q106 := eq_true q106; have p25 : 0 ≤ (a4 : Int) := of_decide_eq_true (by first | (with_reducible assumption) | assumption); have q25 : (a4 : Int) < ((x1_1.length : Int) : Int) := of_decide_eq_true (by first | (with_reducible assumption) | assumption); obtain ⟨go25, co25, eo25, gb25, gl25, cl25, HG25⟩ := Kd.R_form HO_1.out (by first | omega | (have hy0l_ := HLhy0.out; have hy1l_ := HLhy1.out; have hy2l_ := HLhy2.out; omega)); (first | cases eo25 | (injection eo25 with ea_ en_ ec_; (first | subst ea_ | (injection ea_ with ea_; subst ea_)); subst ec_; clear en_)); have GB25 := asd gb25; have GG25 := asd HG25; clear gb25 gl25 HG25; have HMgo25 := asd (show ((P1_ go25 ∨ P2_ go25 ∨ P3_ go25) ∨ w.heap.size ≤ go25) from (HO_1.out.1 _ rfl).1); obtain ⟨hx25_0, hf25_0⟩ := Kd.R_celln 0 HO_1.out (a4 : Int) p25 q25; replace p25 := eq_true p25; replace q25 := eq_true q25; obtain ⟨hy30_, hz30_⟩ := Kd.R_celln 0 HO_1.out (a4 : Int) (of_decide_eq_true (by first | (with_reducible assumption) | assumption)) (of_decide_eq_true (by first | (with_reducible assumption) | assumption)); have HP30 := Kd.R_putg HO_1.out (a4 : Int) x15_1) | ((with_reducible refine gate_store (t := 3) (p := 60) rfl ?_); refine store_event (t := 3) (p := 60) (v := ?vo_w31) (w1 := (w28.setCell ⟨go25, (a4 : Int).toNat, none⟩ (.int .i64 x15_1))) ?hg ?ho ?hn ?hr ?_; (case ho => rfl); (case hg => rfl); (case hn => rfl); (case hr => first | (go_simp; done) | (go_simp; rfl)); intro w31 hw; have hg : w28.grownBy w31 (some go25) := (by rw [hw]; exact HP30.2); have hp_ : Kd.R (Kd.int .i64) 3 w31 w0.heap.size (fun k_ => ((P1_ k_ ∨ P2_ k_ ∨ P3_ k_) ∨ w.heap.size ≤ k_) ∧ some k_ ≠ (.slice (some ad106) x2_1.length co29 : Value).ownBlock) (.slice (some ⟨go25, 0, none⟩) x1_1.length co25) y107 := (by rw [hw, Ny107.out]; exact HP30.1); clear HP30; have n0_ := asd (hp_); have n1_ := asd (Kd.R_after (v := (.slice (some ⟨go25, 0, none⟩) x1_1.length co25)) (v1 := (.slice (some ⟨go25, 0, none⟩) x1_1.length co25)) (ok := (fun k_ => ((P1_ k_ ∨ P2_ k_ ∨ P3_ k_) ∨ w.heap.size ≤ k_))) (upR <| HO_2.out) hg (.inl rfl)); have n2_ := asd (Kd.R_over' (v := (.slice (some ⟨go25, 0, none⟩) x1_1.length co25)) (upR <| HO_3.out) (Kd.R_typed HO_1.out) (by decide) hg); have n3_ := asd ((by rw [hw]; exact below_set (HB.out) GB25.out : Below w0.heap.size w0 w31)); have n4_ := asd (Kept.of_grown (S := (fun k_ => P1_ k_ ∨ P2_ k_ ∨ P3_ k_)) hg (by repeat (first | (with_reducible first | exact HK.out | apply Kept.alloc | apply Kept.drewN | apply Kept.drew) | exact HK.out)) (fun k_ e_ => (HO_1.out.1 k_ e_).1)); clear HO_1; clear HO_2; clear HO_3; clear HB; clear HK; have HO_1 := n0_; have HO_2 := n1_; have HO_3 := n2_; have HB := n3_; have HK := n4_; clear n0_ n1_ n2_ n3_ n4_; clear hg hw hp_; have p26 : 0 ≤ (x15_1 : Int) := of_decide_eq_true (by first | (with_reducible assumption) | assumption); have q26 : (x15_1 : Int) < ((x2_1.length : Int) : Int) := of_decide_eq_true (by first | (with_reducible assumption) | assumption); obtain ⟨go26, co26, eo26, gb26, gl26, cl26, HG26⟩ := Kd.R_form HO_2.out (by first | omega | (have hy0l_ := HLhy0.out; have hy1l_ := HLhy1.out; have hy2l_ := HLhy2.out; omega)); (first | cases eo26 | (injection eo26 with ea_ en_ ec_; (first | subst ea_ | (injection ea_ with ea_; subst ea_)); subst ec_; clear en_)); have GB26 := asd gb26; have GG26 := asd HG26; clear gb26 gl26 HG26; have HMgo26 := asd (show ((P1_ go26 ∨ P2_ go26 ∨ P3_ go26) ∨ w.heap.size ≤ go26) from (HO_2.out.1 _ rfl).1); (first | simp only [add_plain] at hx106_0 | skip); obtain ⟨hx26_0, hf26_0⟩ := Kd.R_celln 0 HO_2.out (x15_1 : Int) p26 q26; replace p26 := eq_true p26; replace q26 := eq_true q26; obtain ⟨hy32_, hz32_⟩ := Kd.R_celln 0 HO_2.out (x15_1 : Int) (of_decide_eq_true (by first | (with_reducible assumption) | assumption)) (of_decide_eq_true (by first | (with_reducible assumption) | assumption)); have HP32 := Kd.R_putg HO_2.out (x15_1 : Int) a4) | ((with_reducible refine gate_store (t := 3) (p := 64) rfl ?_); refine store_event (t := 3) (p := 64) (v := ?vo_w33) (w1 := (w31.setCell ⟨go26, (x15_1 : Int).toNat, none⟩ (.int .i64 a4))) ?hg ?ho ?hn ?hr ?_; (case ho => rfl); (case hg => rfl); (case hn => rfl); (case hr => first | (go_simp; done) | (go_simp; rfl)); intro w33 hw; have hg : w31.grownBy w33 (some go26) := (by rw [hw]; exact HP32.2); have hp_ : Kd.R (Kd.int .i64) 3 w33 w0.heap.size (fun k_ => ((P1_ k_ ∨ P2_ k_ ∨ P3_ k_) ∨ w.heap.size ≤ k_) ∧ some k_ ≠ (.slice (some ⟨go25, 0, none⟩) x1_1.length co25 : Value).ownBlock) (.slice (some ⟨go26, 0, none⟩) x2_1.length co29) y108 := (by rw [hw, Ny108.out]; exact HP32.1); clear HP32; have n0_ := asd (Kd.R_after (v := (.slice (some ⟨go26, 0, none⟩) x2_1.length co29)) (v1 := (.slice (some ⟨go26, 0, none⟩) x2_1.length co29)) (ok := (fun k_ => ((P1_ k_ ∨ P2_ k_ ∨ P3_ k_) ∨ w.heap.size ≤ k_))) (upR <| HO_1.out) hg (.inl rfl)); have n1_ := asd (hp_); have n2_ := asd (Kd.R_over' (v := (.slice (some ⟨go26, 0, none⟩) x2_1.length co29)) (upR <| HO_3.out) (Kd.R_typed HO_2.out) (by decide) hg); have n3_ := asd ((by rw [hw]; exact below_set (HB.out) GB26.out : Below w0.heap.size w0 w33)); have n4_ := asd (Kept.of_grown (S := (fun k_ => P1_ k_ ∨ P2_ k_ ∨ P3_ k_)) hg (by repeat (first | (with_reducible first | exact HK.out | apply Kept.alloc | apply Kept.drewN | apply Kept.drew) | exact HK.out)) (fun k_ e_ => (HO_2.out.1 k_ e_).1)); clear HO_1; clear HO_2; clear HO_3; clear HB; clear HK; have HO_1 := n0_; have HO_2 := n1_; have HO_3 := n2_; have HB := n3_; have HK := n4_; clear n0_ n1_ n2_ n3_ n4_; clear hg hw hp_))
               go_ret
               exact ⟨by first | rfl | (simp [errW_none, errW_some] <;> rfl) | (simp [*, errW_none, errW_some] <;> rfl), by (with_reducible repeat (first | apply Kd.R_alloc | apply Kd.R_drewN | apply Kd.R_drew)); exact Kd.R_mono HO_1.out (fun _ hk => hk.1), by (with_reducible repeat (first | apply Kd.R_alloc | apply Kd.R_drewN | apply Kd.R_drew)); exact Kd.R_mono HO_2.out (fun _ hk => hk.1), by (with_reducible repeat (first | apply Kd.R_alloc | apply Kd.R_drewN | apply Kd.R_drew)); exact HO_3.out, by repeat (first | (with_reducible first | exact HB.out | apply below_alloc | apply pw_below_drewN | apply below_drew1) | exact HB.out), by repeat (first | (with_reducible first | exact HK.out | apply Kept.alloc | apply Kept.drewN | apply Kept.drew) | exact HK.out)⟩
              ·
               rw [if_neg c24] at H
               exact absurd H (by simp)
             ·
              rw [if_neg c23] at H
              exact absurd H (by simp)
            ·
             rw [if_neg c22] at H
             have c22b0 : decide ((rd x2_1 x15_1) < 0) = false := decide_eq_false c22
             clear c22
             replace H := Option.bind_eq_some_iff.mp H
             obtain ⟨⟨t110, t111, t112, t113⟩, A340, H⟩ := H
             replace H : (if t110 = true then (if 0 ≤ a4 then (if a4 < (x1_1.length : Int) then (some (true, (t111.set (a4 : Int).toNat x15_1), (t112.set (x15_1 : Int).toNat a4), t113)) else (none)) else (none)) else (spec_cnGet.l0 kj8 l0 t111 t112 t113 a4 l0 (l0.length : Int) (wrap64 (x15_1 + 1)))) = some (r1, r2, r3, r4) := H
             have A34 := asd A340
             clear A340
             by_cases c35 : t110 = true
             ·
              subst c35
              have H1 : (if 0 ≤ a4 then (if a4 < (x1_1.length : Int) then (some (true, (t111.set (a4 : Int).toNat x15_1), (t112.set (x15_1 : Int).toNat a4), t113)) else (none)) else (none)) = some (r1, r2, r3, r4) := by rw [if_pos rfl] at H; exact H
              clear H
              have H := H1
              clear H1
              by_cases c36 : 0 ≤ a4
              ·
               rw [if_pos c36] at H
               have c36b0 : decide (0 ≤ a4) = true := decide_eq_true c36
               clear c36
               by_cases c37 : a4 < (x1_1.length : Int)
               ·
                rw [if_pos c37] at H
                have c37b0 : decide (a4 < (x1_1.length : Int)) = true := decide_eq_true c37
                clear c37
                obtain ⟨y114, hy114⟩ : ∃ y_ : List Int, y_ = (t111.set (a4 : Int).toNat x15_1) := ⟨_, rfl⟩
                replace H : (some (true, y114, (t112.set (x15_1 : Int).toNat a4), t113)) = some (r1, r2, r3, r4) := by first | (rw [hy114]; with_reducible exact H) | (have H2_ := (Option.bind_some _ _).symm.trans H; rw [hy114]; with_reducible exact H2_) | (have H2_ := (Option.bind_some _ _).symm.trans H; with_reducible exact H2_) | with_reducible exact H | (rw [hy114]; exact H) | exact H
                have Ny114 := asd hy114
                clear hy114
                obtain ⟨y115, hy115⟩ : ∃ y_ : List Int, y_ = (t112.set (x15_1 : Int).toNat a4) := ⟨_, rfl⟩
                replace H : (some (true, y114, y115, t113)) = some (r1, r2, r3, r4) := by first | (rw [hy115]; with_reducible exact H) | (have H2_ := (Option.bind_some _ _).symm.trans H; rw [hy115]; with_reducible exact H2_) | (have H2_ := (Option.bind_some _ _).symm.trans H; with_reducible exact H2_) | with_reducible exact H | (rw [hy115]; exact H) | exact H
                have Ny115 := asd hy115
                clear hy115
                simp only [Option.some.injEq, Prod.mk.injEq] at H
                obtain ⟨rfl, rfl, rfl, rfl⟩ := H
                have p20 : 0 ≤ (x15_1 : Int) := of_decide_eq_true (by first | (with_reducible assumption) | assumption)
                have q20 : (x15_1 : Int) < ((x3_1.length : Int) : Int) := of_decide_eq_true (by first | (with_reducible assumption) | assumption)
                obtain ⟨go20, co20, eo20, gb20, gl20, cl20, HG20⟩ := Kd.R_form HO_3.out (by first | omega | (have hy0l_ := HLhy0.out; have hy1l_ := HLhy1.out; have hy2l_ := HLhy2.out; omega))
                (first | cases eo20 | (injection eo20 with ea_ en_ ec_; (first | subst ea_ | (injection ea_ with ea_; subst ea_)); subst ec_; clear en_))
                have GB20 := asd gb20
                have GG20 := asd HG20
                clear gb20 gl20 HG20
                have HMgo20 := asd (show ((P1_ go20 ∨ P2_ go20 ∨ P3_ go20) ∨ w.heap.size ≤ go20) from (HO_3.out.1 _ rfl))
                obtain ⟨hx20_0, hf20_0⟩ := Kd.R_celln false HO_3.out (x15_1 : Int) p20 q20
                replace p20 := eq_true p20
                replace q20 := eq_true q20
                have HP40 := Kd.R_putg HO_3.out (x15_1 : Int) true
                go_wp2_with (first | ((with_reducible refine gate_store (t := 4) (p := 40) rfl ?_); refine store_event (t := 4) (p := 40) (v := ?vo_w41) (w1 := (wc.setCell ⟨go20, (x15_1 : Int).toNat, none⟩ (.bool true))) ?hg ?ho ?hn ?hr ?_; (case ho => rfl); (case hg => rfl); (case hn => rfl); (case hr => first | (go_simp; done) | (go_simp; rfl)); intro w41 hw; have hg : wc.grownBy w41 (some go20) := (by rw [hw]; exact HP40.2); have hp_ : Kd.R Kd.bool 4 w41 w0.heap.size (fun k_ => ((P1_ k_ ∨ P2_ k_ ∨ P3_ k_) ∨ w.heap.size ≤ k_)) (.slice (some ⟨go20, 0, none⟩) x3_1.length co20) y105 := (by rw [hw, Ny105.out]; exact HP40.1); clear HP40; have n0_ := asd (Kd.R_over' (v := (.slice (some ⟨go20, 0, none⟩) x3_1.length co20)) (upR <| HO_1.out) (Kd.R_typed HO_3.out) (by decide) hg); have n1_ := asd (Kd.R_over' (v := (.slice (some ⟨go20, 0, none⟩) x3_1.length co20)) (upR <| HO_2.out) (Kd.R_typed HO_3.out) (by decide) hg); have n2_ := asd (hp_); have n3_ := asd ((by rw [hw]; exact below_set (HB.out) GB20.out : Below w0.heap.size w0 w41)); have n4_ := asd (Kept.of_grown (S := (fun k_ => P1_ k_ ∨ P2_ k_ ∨ P3_ k_)) hg (by repeat (first | (with_reducible first | exact HK.out | apply Kept.alloc | apply Kept.drewN | apply Kept.drew) | exact HK.out)) (fun k_ e_ => (HO_3.out.1 k_ e_))); clear HO_1; clear HO_2; clear HO_3; clear HB; clear HK; have HO_1 := n0_; have HO_2 := n1_; have HO_3 := n2_; have HB := n3_; have HK := n4_; clear n0_ n1_ n2_ n3_ n4_; clear hg hw hp_; obtain ⟨Ao42, co42, eo42⟩ := Kd.R_slice HO_2.out; subst eo42; have p106 : 0 ≤ (x15_1 : Int) := of_decide_eq_true (by first | (with_reducible assumption) | assumption); have q106 : x15_1 < (x2_1.length : Int) := of_decide_eq_true (by first | (with_reducible assumption) | assumption); obtain ⟨ad106, e106, hx106_0⟩ := Kd.at_int (Kd.R_reads' HO_2.out).2.2 x15_1 p106 q106; cases e106; replace p106 := eq_true p106; replace q106 := eq_true q106; have p109 : 0 ≤ (x15_1 : Int) := of_decide_eq_true (by first | (with_reducible assumption) | assumption); have q109 : x15_1 < (x2_1.length : Int) := of_decide_eq_true (by first | (with_reducible assumption) | assumption); obtain ⟨ad109, e109, hx109_0⟩ := Kd.at_int (Kd.R_reads' HO_2.out).2.2 x15_1 p109 q109; obtain rfl : ad106 = ad109 := (by injection e109); replace p109 := eq_true p109; replace q109 := eq_true q109; obtain ⟨Ao43, co43, eo43⟩ := Kd.R_slice HO_1.out; subst eo43) | (go_at_call 135; (with_reducible refine (ih kj8 (by have := HK1.out; have := HJ8.out; omega) _ _ l0 (fun k_ => some k_ = (.slice Ao43 x1_1.length co43 : Value).ownBlock) (.slice Ao43 x1_1.length co43) x1_1 (fun k_ => some k_ = (.slice (some ad106) x2_1.length co42 : Value).ownBlock) (.slice (some ad106) x2_1.length co42) x2_1 (fun k_ => some k_ = (.slice (some ⟨go20, 0, none⟩) x3_1.length co20 : Value).ownBlock) (.slice (some ⟨go20, 0, none⟩) x3_1.length co20) y105 (rd x2_1 x15_1) true t111 t112 t113 w0 _ ?side1 ?side2 ?side3 ?side4 ?side5 ?side6 ?side7 ?side8 A34.out).mono ?_); (case side1 => repeat (first | (with_reducible first | exact HB.out | apply below_alloc | apply pw_below_drewN | apply below_drew1) | exact HB.out)); (case side2 => exact Kd.C_kept_call HR0.out (by repeat (first | (with_reducible first | exact HK.out | apply Kept.alloc | apply Kept.drewN | apply Kept.drew) | exact HK.out)) (fun k_ hs_ => Or.elim hs_ (fun e_ => (fun e_ => (HO_1.out.1 k_ e_.symm).1) e_) (fun e_ => Or.elim e_ (fun e_ => (fun e_ => (HO_2.out.1 k_ e_.symm).1) e_) (fun e_ => (fun e_ => (HO_3.out.1 k_ e_.symm)) e_)))); (case side3 => exact HC0.out); (case side4 => exact Kd.R_tight rfl HO_1.out); (case side5 => exact fun k_ e_ => (HO_1.out.1 k_ e_.symm).2); (case side6 => exact Kd.R_tight rfl HO_2.out); (case side7 => exact fun k_ e_ => (HO_2.out.1 k_ e_.symm).2); (case side8 => exact Kd.R_tight rfl HO_3.out); rintro e w44 ⟨rfl, hy0, hy1, hy2, hb, hkp⟩; have HLhy0 := asd (R_len HO_1.out hy0); have n0_ := asd (Kd.R_reok rfl hy0 (fun k_ e_ => HO_1.out.1 k_ e_)); have HLhy1 := asd (R_len HO_2.out hy1); have n1_ := asd (Kd.R_reok rfl hy1 (fun k_ e_ => HO_2.out.1 k_ e_)); have HLhy2 := asd (R_len HO_3.out hy2); have n2_ := asd (Kd.R_reok rfl hy2 (fun k_ e_ => HO_3.out.1 k_ e_)); have n3_ := asd (Kept.then_ (S := (fun k_ => P1_ k_ ∨ P2_ k_ ∨ P3_ k_)) (by repeat (first | (with_reducible first | exact HK.out | apply Kept.alloc | apply Kept.drewN | apply Kept.drew) | exact HK.out)) hkp (fun k_ hs_ => Or.elim hs_ (fun e_ => (fun e_ => (HO_1.out.1 k_ e_.symm).1) e_) (fun e_ => Or.elim e_ (fun e_ => (fun e_ => (HO_2.out.1 k_ e_.symm).1) e_) (fun e_ => (fun e_ => (HO_3.out.1 k_ e_.symm)) e_)))); have n4_ := asd (hb); clear HO_1; clear HO_2; clear HO_3; clear HK; clear HB; have HO_1 := n0_; have HO_2 := n1_; have HO_3 := n2_; have HK := n3_; have HB := n4_; clear n0_ n1_ n2_ n3_ n4_; (try clear hb); (try clear hkp); (try clear hy0); (try clear hy1); (try clear hy2); have p38 : 0 ≤ (a4 : Int) := of_decide_eq_true (by first | (with_reducible assumption) | assumption); have q38 : (a4 : Int) < ((x1_1.length : Int) : Int) := of_decide_eq_true (by first | (with_reducible assumption) | assumption); obtain ⟨go38, co38, eo38, gb38, gl38, cl38, HG38⟩ := Kd.R_form HO_1.out (by first | omega | (have hy0l_ := HLhy0.out; have hy1l_ := HLhy1.out; have hy2l_ := HLhy2.out; omega)); (first | cases eo38 | (injection eo38 with ea_ en_ ec_; (first | subst ea_ | (injection ea_ with ea_; subst ea_)); subst ec_; clear en_)); have GB38 := asd gb38; have GG38 := asd HG38; clear gb38 gl38 HG38; have HMgo38 := asd (show ((P1_ go38 ∨ P2_ go38 ∨ P3_ go38) ∨ w.heap.size ≤ go38) from (HO_1.out.1 _ rfl).1); obtain ⟨hx38_0, hf38_0⟩ := Kd.R_celln 0 HO_1.out (a4 : Int) p38 q38; replace p38 := eq_true p38; replace q38 := eq_true q38; obtain ⟨hy45_, hz45_⟩ := Kd.R_celln 0 HO_1.out (a4 : Int) (of_decide_eq_true (by first | (with_reducible assumption) | assumption)) (of_decide_eq_true (by first | (with_reducible assumption) | assumption)); have HP45 := Kd.R_putg HO_1.out (a4 : Int) x15_1) | ((with_reducible refine gate_store (t := 3) (p := 60) rfl ?_); refine store_event (t := 3) (p := 60) (v := ?vo_w46) (w1 := (w44.setCell ⟨go38, (a4 : Int).toNat, none⟩ (.int .i64 x15_1))) ?hg ?ho ?hn ?hr ?_; (case ho => rfl); (case hg => rfl); (case hn => rfl); (case hr => first | (go_simp; done) | (go_simp; rfl)); intro w46 hw; have hg : w44.grownBy w46 (some go38) := (by rw [hw]; exact HP45.2); have hp_ : Kd.R (Kd.int .i64) 3 w46 w0.heap.size (fun k_ => ((P1_ k_ ∨ P2_ k_ ∨ P3_ k_) ∨ w.heap.size ≤ k_) ∧ some k_ ≠ (.slice (some ad106) x2_1.length co42 : Value).ownBlock) (.slice (some ⟨go38, 0, none⟩) x1_1.length co43) y114 := (by rw [hw, Ny114.out]; exact HP45.1); clear HP45; have n0_ := asd (hp_); have n1_ := asd (Kd.R_after (v := (.slice (some ⟨go38, 0, none⟩) x1_1.length co43)) (v1 := (.slice (some ⟨go38, 0, none⟩) x1_1.length co43)) (ok := (fun k_ => ((P1_ k_ ∨ P2_ k_ ∨ P3_ k_) ∨ w.heap.size ≤ k_))) (upR <| HO_2.out) hg (.inl rfl)); have n2_ := asd (Kd.R_over' (v := (.slice (some ⟨go38, 0, none⟩) x1_1.length co43)) (upR <| HO_3.out) (Kd.R_typed HO_1.out) (by decide) hg); have n3_ := asd ((by rw [hw]; exact below_set (HB.out) GB38.out : Below w0.heap.size w0 w46)); have n4_ := asd (Kept.of_grown (S := (fun k_ => P1_ k_ ∨ P2_ k_ ∨ P3_ k_)) hg (by repeat (first | (with_reducible first | exact HK.out | apply Kept.alloc | apply Kept.drewN | apply Kept.drew) | exact HK.out)) (fun k_ e_ => (HO_1.out.1 k_ e_).1)); clear HO_1; clear HO_2; clear HO_3; clear HB; clear HK; have HO_1 := n0_; have HO_2 := n1_; have HO_3 := n2_; have HB := n3_; have HK := n4_; clear n0_ n1_ n2_ n3_ n4_; clear hg hw hp_; have p39 : 0 ≤ (x15_1 : Int) := of_decide_eq_true (by first | (with_reducible assumption) | assumption); have q39 : (x15_1 : Int) < ((x2_1.length : Int) : Int) := of_decide_eq_true (by first | (with_reducible assumption) | assumption); obtain ⟨go39, co39, eo39, gb39, gl39, cl39, HG39⟩ := Kd.R_form HO_2.out (by first | omega | (have hy0l_ := HLhy0.out; have hy1l_ := HLhy1.out; have hy2l_ := HLhy2.out; omega)); (first | cases eo39 | (injection eo39 with ea_ en_ ec_; (first | subst ea_ | (injection ea_ with ea_; subst ea_)); subst ec_; clear en_)); have GB39 := asd gb39; have GG39 := asd HG39; clear gb39 gl39 HG39; have HMgo39 := asd (show ((P1_ go39 ∨ P2_ go39 ∨ P3_ go39) ∨ w.heap.size ≤ go39) from (HO_2.out.1 _ rfl).1); (first | simp only [add_plain] at hx106_0 | skip); (first | simp only [add_plain] at hx109_0 | skip); obtain ⟨hx39_0, hf39_0⟩ := Kd.R_celln 0 HO_2.out (x15_1 : Int) p39 q39; replace p39 := eq_true p39; replace q39 := eq_true q39; obtain ⟨hy47_, hz47_⟩ := Kd.R_celln 0 HO_2.out (x15_1 : Int) (of_decide_eq_true (by first | (with_reducible assumption) | assumption)) (of_decide_eq_true (by first | (with_reducible assumption) | assumption)); have HP47 := Kd.R_putg HO_2.out (x15_1 : Int) a4) | ((with_reducible refine gate_store (t := 3) (p := 64) rfl ?_); refine store_event (t := 3) (p := 64) (v := ?vo_w48) (w1 := (w46.setCell ⟨go39, (x15_1 : Int).toNat, none⟩ (.int .i64 a4))) ?hg ?ho ?hn ?hr ?_; (case ho => rfl); (case hg => rfl); (case hn => rfl); (case hr => first | (go_simp; done) | (go_simp; rfl)); intro w48 hw; have hg : w46.grownBy w48 (some go39) := (by rw [hw]; exact HP47.2); have hp_ : Kd.R (Kd.int .i64) 3 w48 w0.heap.size (fun k_ => ((P1_ k_ ∨ P2_ k_ ∨ P3_ k_) ∨ w.heap.size ≤ k_) ∧ some k_ ≠ (.slice (some ⟨go38, 0, none⟩) x1_1.length co43 : Value).ownBlock) (.slice (some ⟨go39, 0, none⟩) x2_1.length co42) y115 := (by rw [hw, Ny115.out]; exact HP47.1); clear HP47; have n0_ := asd (Kd.R_after (v := (.slice (some ⟨go39, 0, none⟩) x2_1.length co42)) (v1 := (.slice (some ⟨go39, 0, none⟩) x2_1.length co42)) (ok := (fun k_ => ((P1_ k_ ∨ P2_ k_ ∨ P3_ k_) ∨ w.heap.size ≤ k_))) (upR <| HO_1.out) hg (.inl rfl)); have n1_ := asd (hp_); have n2_ := asd (Kd.R_over' (v := (.slice (some ⟨go39, 0, none⟩) x2_1.length co42)) (upR <| HO_3.out) (Kd.R_typed HO_2.out) (by decide) hg); have n3_ := asd ((by rw [hw]; exact below_set (HB.out) GB39.out : Below w0.heap.size w0 w48)); have n4_ := asd (Kept.of_grown (S := (fun k_ => P1_ k_ ∨ P2_ k_ ∨ P3_ k_)) hg (by repeat (first | (with_reducible first | exact HK.out | apply Kept.alloc | apply Kept.drewN | apply Kept.drew) | exact HK.out)) (fun k_ e_ => (HO_2.out.1 k_ e_).1)); clear HO_1; clear HO_2; clear HO_3; clear HB; clear HK; have HO_1 := n0_; have HO_2 := n1_; have HO_3 := n2_; have HB := n3_; have HK := n4_; clear n0_ n1_ n2_ n3_ n4_; clear hg hw hp_))
                go_ret
                exact ⟨by first | rfl | (simp [errW_none, errW_some] <;> rfl) | (simp [*, errW_none, errW_some] <;> rfl), by (with_reducible repeat (first | apply Kd.R_alloc | apply Kd.R_drewN | apply Kd.R_drew)); exact Kd.R_mono HO_1.out (fun _ hk => hk.1), by (with_reducible repeat (first | apply Kd.R_alloc | apply Kd.R_drewN | apply Kd.R_drew)); exact Kd.R_mono HO_2.out (fun _ hk => hk.1), by (with_reducible repeat (first | apply Kd.R_alloc | apply Kd.R_drewN | apply Kd.R_drew)); exact HO_3.out, by repeat (first | (with_reducible first | exact HB.out | apply below_alloc | apply pw_below_drewN | apply below_drew1) | exact HB.out), by repeat (first | (with_reducible first | exact HK.out | apply Kept.alloc | apply Kept.drewN | apply Kept.drew) | exact HK.out)⟩
               ·
                rw [if_neg c37] at H
                exact absurd H (by simp)
              ·
               rw [if_neg c36] at H
               exact absurd H (by simp)
             ·
              replace c35 := Bool.eq_false_iff.mpr c35
              subst c35
              have H1 : (spec_cnGet.l0 kj8 l0 t111 t112 t113 a4 l0 (l0.length : Int) (wrap64 (x15_1 + 1))) = some (r1, r2, r3, r4) := by rw [if_neg (show ¬ (false = true) by decide)] at H; exact H
              clear H
              have H := H1
              clear H1
              have H' := asd H
              clear H
              have p20 : 0 ≤ (x15_1 : Int) := of_decide_eq_true (by first | (with_reducible assumption) | assumption)
              have q20 : (x15_1 : Int) < ((x3_1.length : Int) : Int) := of_decide_eq_true (by first | (with_reducible assumption) | assumption)
              obtain ⟨go20, co20, eo20, gb20, gl20, cl20, HG20⟩ := Kd.R_form HO_3.out (by first | omega | (have hy0l_ := HLhy0.out; have hy1l_ := HLhy1.out; have hy2l_ := HLhy2.out; omega))
              (first | cases eo20 | (injection eo20 with ea_ en_ ec_; (first | subst ea_ | (injection ea_ with ea_; subst ea_)); subst ec_; clear en_))
              have GB20 := asd gb20
              have GG20 := asd HG20
              clear gb20 gl20 HG20
              have HMgo20 := asd (show ((P1_ go20 ∨ P2_ go20 ∨ P3_ go20) ∨ w.heap.size ≤ go20) from (HO_3.out.1 _ rfl))
              obtain ⟨hx20_0, hf20_0⟩ := Kd.R_celln false HO_3.out (x15_1 : Int) p20 q20
              replace p20 := eq_true p20
              replace q20 := eq_true q20
              have HP49 := Kd.R_putg HO_3.out (x15_1 : Int) true
              go_wp2_with (first | ((with_reducible refine gate_store (t := 4) (p := 40) rfl ?_); refine store_event (t := 4) (p := 40) (v := ?vo_w50) (w1 := (wc.setCell ⟨go20, (x15_1 : Int).toNat, none⟩ (.bool true))) ?hg ?ho ?hn ?hr ?_; (case ho => rfl); (case hg => rfl); (case hn => rfl); (case hr => first | (go_simp; done) | (go_simp; rfl)); intro w50 hw; have hg : wc.grownBy w50 (some go20) := (by rw [hw]; exact HP49.2); have hp_ : Kd.R Kd.bool 4 w50 w0.heap.size (fun k_ => ((P1_ k_ ∨ P2_ k_ ∨ P3_ k_) ∨ w.heap.size ≤ k_)) (.slice (some ⟨go20, 0, none⟩) x3_1.length co20) y105 := (by rw [hw, Ny105.out]; exact HP49.1); clear HP49; have n0_ := asd (Kd.R_over' (v := (.slice (some ⟨go20, 0, none⟩) x3_1.length co20)) (upR <| HO_1.out) (Kd.R_typed HO_3.out) (by decide) hg); have n1_ := asd (Kd.R_over' (v := (.slice (some ⟨go20, 0, none⟩) x3_1.length co20)) (upR <| HO_2.out) (Kd.R_typed HO_3.out) (by decide) hg); have n2_ := asd (hp_); have n3_ := asd ((by rw [hw]; exact below_set (HB.out) GB20.out : Below w0.heap.size w0 w50)); have n4_ := asd (Kept.of_grown (S := (fun k_ => P1_ k_ ∨ P2_ k_ ∨ P3_ k_)) hg (by repeat (first | (with_reducible first | exact HK.out | apply Kept.alloc | apply Kept.drewN | apply Kept.drew) | exact HK.out)) (fun k_ e_ => (HO_3.out.1 k_ e_))); clear HO_1; clear HO_2; clear HO_3; clear HB; clear HK; have HO_1 := n0_; have HO_2 := n1_; have HO_3 := n2_; have HB := n3_; have HK := n4_; clear n0_ n1_ n2_ n3_ n4_; clear hg hw hp_; obtain ⟨Ao51, co51, eo51⟩ := Kd.R_slice HO_2.out; subst eo51; have p106 : 0 ≤ (x15_1 : Int) := of_decide_eq_true (by first | (with_reducible assumption) | assumption); have q106 : x15_1 < (x2_1.length : Int) := of_decide_eq_true (by first | (with_reducible assumption) | assumption); obtain ⟨ad106, e106, hx106_0⟩ := Kd.at_int (Kd.R_reads' HO_2.out).2.2 x15_1 p106 q106; cases e106; replace p106 := eq_true p106; replace q106 := eq_true q106; have p109 : 0 ≤ (x15_1 : Int) := of_decide_eq_true (by first | (with_reducible assumption) | assumption); have q109 : x15_1 < (x2_1.length : Int) := of_decide_eq_true (by first | (with_reducible assumption) | assumption); obtain ⟨ad109, e109, hx109_0⟩ := Kd.at_int (Kd.R_reads' HO_2.out).2.2 x15_1 p109 q109; obtain rfl : ad106 = ad109 := (by injection e109); replace p109 := eq_true p109; replace q109 := eq_true q109; obtain ⟨Ao52, co52, eo52⟩ := Kd.R_slice HO_1.out; subst eo52) | (go_at_call 135; (with_reducible refine (ih kj8 (by have := HK1.out; have := HJ8.out; omega) _ _ l0 (fun k_ => some k_ = (.slice Ao52 x1_1.length co52 : Value).ownBlock) (.slice Ao52 x1_1.length co52) x1_1 (fun k_ => some k_ = (.slice (some ad106) x2_1.length co51 : Value).ownBlock) (.slice (some ad106) x2_1.length co51) x2_1 (fun k_ => some k_ = (.slice (some ⟨go20, 0, none⟩) x3_1.length co20 : Value).ownBlock) (.slice (some ⟨go20, 0, none⟩) x3_1.length co20) y105 (rd x2_1 x15_1) false t111 t112 t113 w0 _ ?side1 ?side2 ?side3 ?side4 ?side5 ?side6 ?side7 ?side8 A34.out).mono ?_); (case side1 => repeat (first | (with_reducible first | exact HB.out | apply below_alloc | apply pw_below_drewN | apply below_drew1) | exact HB.out)); (case side2 => exact Kd.C_kept_call HR0.out (by repeat (first | (with_reducible first | exact HK.out | apply Kept.alloc | apply Kept.drewN | apply Kept.drew) | exact HK.out)) (fun k_ hs_ => Or.elim hs_ (fun e_ => (fun e_ => (HO_1.out.1 k_ e_.symm).1) e_) (fun e_ => Or.elim e_ (fun e_ => (fun e_ => (HO_2.out.1 k_ e_.symm).1) e_) (fun e_ => (fun e_ => (HO_3.out.1 k_ e_.symm)) e_)))); (case side3 => exact HC0.out); (case side4 => exact Kd.R_tight rfl HO_1.out); (case side5 => exact fun k_ e_ => (HO_1.out.1 k_ e_.symm).2); (case side6 => exact Kd.R_tight rfl HO_2.out); (case side7 => exact fun k_ e_ => (HO_2.out.1 k_ e_.symm).2); (case side8 => exact Kd.R_tight rfl HO_3.out); rintro e w53 ⟨rfl, hy0, hy1, hy2, hb, hkp⟩; have HLhy0 := asd (R_len HO_1.out hy0); have n0_ := asd (Kd.R_reok rfl hy0 (fun k_ e_ => HO_1.out.1 k_ e_)); have HLhy1 := asd (R_len HO_2.out hy1); have n1_ := asd (Kd.R_reok rfl hy1 (fun k_ e_ => HO_2.out.1 k_ e_)); have HLhy2 := asd (R_len HO_3.out hy2); have n2_ := asd (Kd.R_reok rfl hy2 (fun k_ e_ => HO_3.out.1 k_ e_)); have n3_ := asd (Kept.then_ (S := (fun k_ => P1_ k_ ∨ P2_ k_ ∨ P3_ k_)) (by repeat (first | (with_reducible first | exact HK.out | apply Kept.alloc | apply Kept.drewN | apply Kept.drew) | exact HK.out)) hkp (fun k_ hs_ => Or.elim hs_ (fun e_ => (fun e_ => (HO_1.out.1 k_ e_.symm).1) e_) (fun e_ => Or.elim e_ (fun e_ => (fun e_ => (HO_2.out.1 k_ e_.symm).1) e_) (fun e_ => (fun e_ => (HO_3.out.1 k_ e_.symm)) e_)))); have n4_ := asd (hb); clear HO_1; clear HO_2; clear HO_3; clear HK; clear HB; have HO_1 := n0_; have HO_2 := n1_; have HO_3 := n2_; have HK := n3_; have HB := n4_; clear n0_ n1_ n2_ n3_ n4_; (try clear hb); (try clear hkp); (try clear hy0); (try clear hy1); (try clear hy2)))
              go_roundg kj8
              case measure => have := HK1.out; have := HJ8.out; omega
              case rel => exact ⟨(t111), (t112), (t113), (wrap64 (x15_1 + 1)), (by first | rfl | (simp; done) | (simp [*]; done)), H', ⟨by have := HK1.out; have := HJ8.out; omega⟩, ⟨by (with_reducible repeat (first | apply Kd.R_alloc | apply Kd.R_drewN | apply Kd.R_drew)); exact HO_1.out⟩, ⟨by (with_reducible repeat (first | apply Kd.R_alloc | apply Kd.R_drewN | apply Kd.R_drew)); exact HO_2.out⟩, ⟨by (with_reducible repeat (first | apply Kd.R_alloc | apply Kd.R_drewN | apply Kd.R_drew)); exact HO_3.out⟩, ⟨by repeat (first | (with_reducible first | exact HK.out | apply Kept.alloc | apply Kept.drewN | apply Kept.drew) | exact HK.out)⟩, ⟨by repeat (first | (with_reducible first | exact HB.out | apply below_alloc | apply pw_below_drewN | apply below_drew1) | exact HB.out)⟩⟩
           ·
            rw [if_neg c21] at H
            exact absurd H (by simp)
          ·
           rw [if_neg c19] at H
           exact absurd H (by simp)
         ·
          rw [if_neg c18] at H
          exact absurd H (by simp)
     ·
      rw [if_neg c8] at H
      exact absurd H (by simp)
    ·
     rw [if_neg c7] at H
     exact absurd H (by simp)
   ·
    rw [if_neg c6] at H
    have c6b0 : decide (x15_1 < (l0.length : Int)) = false := decide_eq_false c6
    clear c6
    simp only [Option.some.injEq, Prod.mk.injEq] at H
    obtain ⟨rfl, rfl, rfl, rfl⟩ := H
    go_wp2
    go_ret
    exact ⟨by first | rfl | (simp [errW_none, errW_some] <;> rfl) | (simp [*, errW_none, errW_some] <;> rfl), by (with_reducible repeat (first | apply Kd.R_alloc | apply Kd.R_drewN | apply Kd.R_drew)); exact Kd.R_mono HO_1.out (fun _ hk => hk.1), by (with_reducible repeat (first | apply Kd.R_alloc | apply Kd.R_drewN | apply Kd.R_drew)); exact Kd.R_mono HO_2.out (fun _ hk => hk.1), by (with_reducible repeat (first | apply Kd.R_alloc | apply Kd.R_drewN | apply Kd.R_drew)); exact HO_3.out, by repeat (first | (with_reducible first | exact HB.out | apply below_alloc | apply pw_below_drewN | apply below_drew1) | exact HB.out), by repeat (first | (with_reducible first | exact HK.out | apply Kept.alloc | apply Kept.drewN | apply Kept.drew) | exact HK.out)⟩

/-! ### spec_cnMatch: function 120 -/
mutual
def spec_cnMatch.l0 : Nat → List Int → List Int → List Int → Int → Int → Option (List Int)
 | 0, _, _, _, _, _ => none
 | k + 1, x0, x3, x4, x14, x15 => if x15 < x14 then (if 0 ≤ x15 then (if x15 < (x3.length : Int) then (if x15 < (x4.length : Int) then (spec_cnMatch.l0 k x0 (x3.set (x15 : Int).toNat (-1)) (x4.set (x15 : Int).toNat (-1)) x14 (wrap64 (x15 + 1))) else (none)) else (none)) else (none)) else (spec_cnMatch.l1 k x0 x3 x4 (x0.length : Int) 0)
def spec_cnMatch.l1 : Nat → List Int → List Int → List Int → Int → Int → Option (List Int)
 | 0, _, _, _, _, _ => none
 | k + 1, x0, x3, x4, x26, x27 => if x27 < x26 then (if 0 ≤ (x0.length : Int) then (if ((x0.length : Int) : Int).toNat ≤ 281474976710656 then ((spec_cnGet.f k x0 x3 x4 (List.replicate ((x0.length : Int) : Int).toNat false) x27).bind fun bt112 => (spec_cnMatch.l1 k x0 bt112.2.1 bt112.2.2.1 x26 (wrap64 (x27 + 1)))) else (none)) else (none)) else (some x3)
end
def spec_cnMatch.f (k : Nat) (l0 : List Int) : Option (List Int) := if 0 ≤ (l0.length : Int) then (if ((l0.length : Int) : Int).toNat ≤ 35184372088832 then (spec_cnMatch.l0 k l0 (List.replicate ((l0.length : Int) : Int).toNat 0) (List.replicate ((l0.length : Int) : Int).toNat 0) (l0.length : Int) 0) else (none)) else (none)
theorem spec_cnMatch.mono_l : ∀ k, (∀ y0 y1 y2 y3 y4, LeO (spec_cnMatch.l0 k y0 y1 y2 y3 y4) (spec_cnMatch.l0 (k + 1) y0 y1 y2 y3 y4)) ∧ (∀ y0 y1 y2 y3 y4, LeO (spec_cnMatch.l1 k y0 y1 y2 y3 y4) (spec_cnMatch.l1 (k + 1) y0 y1 y2 y3 y4))
 | 0 => ⟨fun _ _ _ _ _ r h => by simp [spec_cnMatch.l0] at h, fun _ _ _ _ _ r h => by simp [spec_cnMatch.l1] at h⟩
 | k + 1 => by
  obtain ⟨ih0, ih1⟩ := spec_cnMatch.mono_l k
  refine ⟨?_, ?_⟩
  ·
   intro y0 y1 y2 y3 y4
   unfold spec_cnMatch.l0
   repeat' first
   | (with_reducible exact ih0 _ _ _ _ _)
   | (with_reducible exact ih1 _ _ _ _ _)
   | (with_reducible exact spec_cnGet.mono _ _ _ _ _ _)
   | (with_reducible exact LeO.refl _)
   | (with_reducible exact LeO.none _)
   | (with_reducible refine LeO.ite ?_ ?_)
   | (with_reducible refine LeO.bind ?_ (fun _ => ?_))
   | exact ih0 _ _ _ _ _
   | exact ih1 _ _ _ _ _
   | exact spec_cnGet.mono _ _ _ _ _ _
   | exact LeO.none _
   | refine LeO.ite ?_ ?_
   | refine LeO.bind ?_ (fun _ => ?_)
  ·
   intro y0 y1 y2 y3 y4
   unfold spec_cnMatch.l1
   repeat' first
   | (with_reducible exact ih0 _ _ _ _ _)
   | (with_reducible exact ih1 _ _ _ _ _)
   | (with_reducible exact spec_cnGet.mono _ _ _ _ _ _)
   | (with_reducible exact LeO.refl _)
   | (with_reducible exact LeO.none _)
   | (with_reducible refine LeO.ite ?_ ?_)
   | (with_reducible refine LeO.bind ?_ (fun _ => ?_))
   | exact ih0 _ _ _ _ _
   | exact ih1 _ _ _ _ _
   | exact spec_cnGet.mono _ _ _ _ _ _
   | exact LeO.none _
   | refine LeO.ite ?_ ?_
   | refine LeO.bind ?_ (fun _ => ?_)
theorem spec_cnMatch.mono : ∀ a0 k, LeO (spec_cnMatch.f k a0) (spec_cnMatch.f (k + 1) a0) := by
 intro a0 k
 obtain ⟨ih0, ih1⟩ := spec_cnMatch.mono_l k
 unfold spec_cnMatch.f
 repeat' first
   | (with_reducible exact ih0 _ _ _ _ _)
   | (with_reducible exact ih1 _ _ _ _ _)
   | (with_reducible exact spec_cnGet.mono _ _ _ _ _ _)
   | (with_reducible exact LeO.refl _)
   | (with_reducible exact LeO.none _)
   | (with_reducible refine LeO.ite ?_ ?_)
   | (with_reducible refine LeO.bind ?_ (fun _ => ?_))
   | exact ih0 _ _ _ _ _
   | exact ih1 _ _ _ _ _
   | exact spec_cnGet.mono _ _ _ _ _ _
   | exact LeO.none _
   | refine LeO.ite ?_ ?_
   | refine LeO.bind ?_ (fun _ => ?_)
set_option maxHeartbeats 8000000 in
set_option maxRecDepth 100000 in
theorem spec_cnMatch.calls (k : Nat) (A0 : Option Addr) (c0 : Nat) (l0 : List Int) (r : List Int) (w : World) (hr0 : Kd.C (Kd.int .i64) w A0 l0.length l0) (hc0 : l0.length ≤ c0) (h : spec_cnMatch.f k l0 = some r) :
  Calls Try.prog 120 #[.slice A0 l0.length c0] w fun e w' => ∃ v0_ : Value, e = .returned (v0_) ∧ Kd.R (Kd.int .i64) 3 w' w.heap.size (fun _ => True) v0_ r ∧ Below w.heap.size w w' := by
 have HR0 := asd hr0
 have HC0 := asd hc0
 clear hr0 hc0
 have HB := asd (Below.refl w.heap.size w)
 have H : (if 0 ≤ (l0.length : Int) then (if ((l0.length : Int) : Int).toNat ≤ 35184372088832 then (spec_cnMatch.l0 k l0 (List.replicate ((l0.length : Int) : Int).toNat 0) (List.replicate ((l0.length : Int) : Int).toNat 0) (l0.length : Int) 0) else (none)) else (none)) = some r := h
 clear h
 by_cases c2 : 0 ≤ (l0.length : Int)
 ·
  rw [if_pos c2] at H
  have c2b0 := eq_true c2
  have c2b1 : decide (0 ≤ (l0.length : Int)) = true := decide_eq_true c2
  clear c2
  by_cases c3 : ((l0.length : Int) : Int).toNat ≤ 35184372088832
  ·
   rw [if_pos c3] at H
   have c3b0 := eq_true c3
   have c3b1 : decide (((l0.length : Int) : Int).toNat ≤ 35184372088832) = true := decide_eq_true c3
   clear c3
   obtain ⟨y101, hy101⟩ : ∃ y_ : List Int, y_ = (List.replicate ((l0.length : Int) : Int).toNat 0) := ⟨_, rfl⟩
   replace H : (spec_cnMatch.l0 k l0 y101 (List.replicate ((l0.length : Int) : Int).toNat 0) (l0.length : Int) 0) = some r := by first | (rw [hy101]; with_reducible exact H) | (have H2_ := (Option.bind_some _ _).symm.trans H; rw [hy101]; with_reducible exact H2_) | (have H2_ := (Option.bind_some _ _).symm.trans H; with_reducible exact H2_) | with_reducible exact H | (rw [hy101]; exact H) | exact H
   have Ny101 := asd hy101
   clear hy101
   obtain ⟨y104, hy104⟩ : ∃ y_ : List Int, y_ = (List.replicate ((l0.length : Int) : Int).toNat 0) := ⟨_, rfl⟩
   replace H : (spec_cnMatch.l0 k l0 y101 y104 (l0.length : Int) 0) = some r := by first | (rw [hy104]; with_reducible exact H) | (have H2_ := (Option.bind_some _ _).symm.trans H; rw [hy104]; with_reducible exact H2_) | (have H2_ := (Option.bind_some _ _).symm.trans H; with_reducible exact H2_) | with_reducible exact H | (rw [hy104]; exact H) | exact H
   have Ny104 := asd hy104
   clear hy104
   have H' := asd H
   clear H
   go_enter Try.func120, Try.ntmps120
   go_wp2_with (first | ((with_reducible refine gate_dst (N := 9) rfl ?_); refine Kd.R_make (Kd.int .i64) _ 3 rfl (N := 9) rfl 22 _ _ rfl (l0.length : Int) rfl rfl Try.underlying22 (.int .i64 0) 8 info3 rfl (by decide) (by omega) 0 (ok := fun _ => True) (okp := fun _ => True) rfl (fun _ hk => hk) trivial (of_decide_eq_true (by first | (with_reducible assumption) | assumption)) (Nat.le_trans (Nat.mul_le_mul_right _ (of_decide_eq_true (by first | (with_reducible assumption) | assumption) : (l0.length : Int).toNat ≤ 35184372088832)) (by omega)) (Below.refl _ _) (Nat.le_refl _) ?_; intro v102 w4 ho5 hb hg_ hnew_; clear hg_ hnew_; (first | rw [← Ny101.out] at ho5 | (simp only [Int.reduceToNat] at ho5; rw [← Ny101.out] at ho5)); have n0_ := asd (Kd.R_lower ho5 (below_size (by repeat (first | (with_reducible first | exact HB.out | apply below_alloc | apply pw_below_drewN | apply below_drew1) | exact HB.out)))); have n1_ := asd (below_step (by repeat (first | (with_reducible first | exact HB.out | apply below_alloc | apply pw_below_drewN | apply below_drew1) | exact HB.out)) hb); clear HB; have HO103 := n0_; have HB := n1_; clear n0_ n1_; clear hb ho5) | ((with_reducible refine gate_dst (N := 12) rfl ?_); refine Kd.R_make (Kd.int .i64) _ 3 rfl (N := 12) rfl 22 _ _ rfl (l0.length : Int) rfl rfl Try.underlying22 (.int .i64 0) 8 info3 rfl (by decide) (by omega) 0 (ok := fun _ => True) (okp := fun _ => True) rfl (fun _ hk => hk) trivial (of_decide_eq_true (by first | (with_reducible assumption) | assumption)) (Nat.le_trans (Nat.mul_le_mul_right _ (of_decide_eq_true (by first | (with_reducible assumption) | assumption) : (l0.length : Int).toNat ≤ 35184372088832)) (by omega)) (Below.refl _ _) (Nat.le_refl _) ?_; intro v105 w6 ho7 hb hg_ hnew_; clear hg_ hnew_; (first | rw [← Ny104.out] at ho7 | (simp only [Int.reduceToNat] at ho7; rw [← Ny104.out] at ho7)); have n0_ := asd (Kd.R_elder' (upR <| HO103.out) (Kd.R_base ho7) hb); have n1_ := asd (Kd.R_lower (Kd.R_new' ho7 (Kd.R_lt (upR <| HO103.out))) (below_size (by repeat (first | (with_reducible first | exact HB.out | apply below_alloc | apply pw_below_drewN | apply below_drew1) | exact HB.out)))); have n2_ := asd (below_step (by repeat (first | (with_reducible first | exact HB.out | apply below_alloc | apply pw_below_drewN | apply below_drew1) | exact HB.out)) hb); clear HO103; clear HB; have HO103 := n0_; have HO106 := n1_; have HB := n2_; clear n0_ n1_ n2_; clear hb ho7))
   go_loopg [15] k (fun kq v15 w' => ∃ (x3_1 : List Int) (x4_1 : List Int) (x15_1 : Int), v15 = .int .i64 x15_1 ∧ Aside0 (spec_cnMatch.l0 kq l0 x3_1 x4_1 (l0.length : Int) x15_1 = some r) ∧ Aside0 (kq ≤ k) ∧ Aside0 (Kd.R (Kd.int .i64) 3 w' w.heap.size (fun k_ => some k_ ≠ (v105 : Value).ownBlock) v102 x3_1) ∧ Aside0 (Kd.R (Kd.int .i64) 3 w' w.heap.size (fun k_ => some k_ ≠ (v102 : Value).ownBlock) v105 x4_1) ∧ Aside0 (Below w.heap.size w w'))
   case atStart => exact ⟨(y101), (y104), (0), (by first | rfl | (simp; done) | (simp [*]; done)), H', ⟨Nat.le_refl _⟩, ⟨by (with_reducible repeat (first | apply Kd.R_alloc | apply Kd.R_drewN | apply Kd.R_drew)); exact Kd.R_mono HO103.out (fun _ hk => hk.2)⟩, ⟨by (with_reducible repeat (first | apply Kd.R_alloc | apply Kd.R_drewN | apply Kd.R_drew)); exact Kd.R_mono HO106.out (fun _ hk => hk.2)⟩, ⟨by repeat (first | (with_reducible first | exact HB.out | apply below_alloc | apply pw_below_drewN | apply below_drew1) | exact HB.out)⟩⟩
   case round =>
    clear H'
    try clear c1
    try clear c2
    try clear c2b0
    try clear c2b1
    try clear p2
    try clear c3
    try clear c3b0
    try clear c3b1
    try clear HO_3; try clear HO_4; skip
    obtain ⟨x3_1, x4_1, x15_1, rfl, HA, HK1, HO_3, HO_4, HB⟩ := hrel
    cases gk with
    | zero => exact absurd HA.out (by simp [spec_cnMatch.l0])
    | succ k1 =>
     have H := HA.out
     clear HA
     simp only [spec_cnMatch.l0] at H
     by_cases c8 : x15_1 < (l0.length : Int)
     ·
      rw [if_pos c8] at H
      have c8b0 : decide (x15_1 < (l0.length : Int)) = true := decide_eq_true c8
      clear c8
      by_cases c9 : 0 ≤ x15_1
      ·
       rw [if_pos c9] at H
       have c9b0 : decide (0 ≤ x15_1) = true := decide_eq_true c9
       clear c9
       by_cases c10 : x15_1 < (x3_1.length : Int)
       ·
        rw [if_pos c10] at H
        have c10b0 : decide (x15_1 < (x3_1.length : Int)) = true := decide_eq_true c10
        clear c10
        obtain ⟨y107, hy107⟩ : ∃ y_ : List Int, y_ = (x3_1.set (x15_1 : Int).toNat (-1)) := ⟨_, rfl⟩
        replace H : (if x15_1 < (x4_1.length : Int) then (spec_cnMatch.l0 k1 l0 y107 (x4_1.set (x15_1 : Int).toNat (-1)) (l0.length : Int) (wrap64 (x15_1 + 1))) else (none)) = some r := by first | (rw [hy107]; with_reducible exact H) | (have H2_ := (Option.bind_some _ _).symm.trans H; rw [hy107]; with_reducible exact H2_) | (have H2_ := (Option.bind_some _ _).symm.trans H; with_reducible exact H2_) | with_reducible exact H | (rw [hy107]; exact H) | exact H
        have Ny107 := asd hy107
        clear hy107
        by_cases c12 : x15_1 < (x4_1.length : Int)
        ·
         rw [if_pos c12] at H
         have c12b0 : decide (x15_1 < (x4_1.length : Int)) = true := decide_eq_true c12
         clear c12
         obtain ⟨y108, hy108⟩ : ∃ y_ : List Int, y_ = (x4_1.set (x15_1 : Int).toNat (-1)) := ⟨_, rfl⟩
         replace H : (spec_cnMatch.l0 k1 l0 y107 y108 (l0.length : Int) (wrap64 (x15_1 + 1))) = some r := by first | (rw [hy108]; with_reducible exact H) | (have H2_ := (Option.bind_some _ _).symm.trans H; rw [hy108]; with_reducible exact H2_) | (have H2_ := (Option.bind_some _ _).symm.trans H; with_reducible exact H2_) | with_reducible exact H | (rw [hy108]; exact H) | exact H
         have Ny108 := asd hy108
         clear hy108
         have H' := asd H
         clear H
         have p11 : 0 ≤ (x15_1 : Int) := of_decide_eq_true (by first | (with_reducible assumption) | assumption)
         have q11 : (x15_1 : Int) < ((x3_1.length : Int) : Int) := of_decide_eq_true (by first | (with_reducible assumption) | assumption)
         obtain ⟨go11, co11, eo11, gb11, gl11, cl11, HG11⟩ := Kd.R_form HO_3.out (by omega)
         (first | cases eo11 | (injection eo11 with ea_ en_ ec_; (first | subst ea_ | (injection ea_ with ea_; subst ea_)); subst ec_; clear en_))
         have GB11 := asd gb11
         have GG11 := asd HG11
         clear gb11 gl11 HG11
         obtain ⟨hx11_0, hf11_0⟩ := Kd.R_celln 0 HO_3.out (x15_1 : Int) p11 q11
         replace p11 := eq_true p11
         replace q11 := eq_true q11
         have HP14 := Kd.R_putg HO_3.out (x15_1 : Int) (-1)
         go_wp2_with (first | ((with_reducible refine gate_store (t := 3) (p := 20) rfl ?_); refine store_event (t := 3) (p := 20) (v := ?vo_w15) (w1 := (wr.setCell ⟨go11, (x15_1 : Int).toNat, none⟩ (.int .i64 (-1)))) ?hg ?ho ?hn ?hr ?_; (case ho => rfl); (case hg => rfl); (case hn => rfl); (case hr => first | (go_simp; done) | (go_simp; rfl)); intro w15 hw; have hg : wr.grownBy w15 (some go11) := (by rw [hw]; exact HP14.2); have hp_ : Kd.R (Kd.int .i64) 3 w15 w.heap.size (fun k_ => some k_ ≠ (v105 : Value).ownBlock) (.slice (some ⟨go11, 0, none⟩) x3_1.length co11) y107 := (by rw [hw, Ny107.out]; exact HP14.1); clear HP14; have n0_ := asd (hp_); have n1_ := asd (Kd.R_after (v := (.slice (some ⟨go11, 0, none⟩) x3_1.length co11)) (v1 := (.slice (some ⟨go11, 0, none⟩) x3_1.length co11)) (ok := (fun _ => True)) (upR <| Kd.R_mono HO_4.out (fun _ hk => ⟨trivial, hk⟩)) hg (.inl rfl)); have n2_ := asd ((by rw [hw]; exact below_set (HB.out) GB11.out : Below w.heap.size w w15)); clear HO_3; clear HO_4; clear HB; have HO_3 := n0_; have HO_4 := n1_; have HB := n2_; clear n0_ n1_ n2_; clear hg hw hp_; have p13 : 0 ≤ (x15_1 : Int) := of_decide_eq_true (by first | (with_reducible assumption) | assumption); have q13 : (x15_1 : Int) < ((x4_1.length : Int) : Int) := of_decide_eq_true (by first | (with_reducible assumption) | assumption); obtain ⟨go13, co13, eo13, gb13, gl13, cl13, HG13⟩ := Kd.R_form HO_4.out (by omega); (first | cases eo13 | (injection eo13 with ea_ en_ ec_; (first | subst ea_ | (injection ea_ with ea_; subst ea_)); subst ec_; clear en_)); have GB13 := asd gb13; have GG13 := asd HG13; clear gb13 gl13 HG13; obtain ⟨hx13_0, hf13_0⟩ := Kd.R_celln 0 HO_4.out (x15_1 : Int) p13 q13; replace p13 := eq_true p13; replace q13 := eq_true q13; have n_ := asd (Kd.R_mono (ok' := (fun k_ => some k_ ≠ (.slice (some ⟨go11, 0, none⟩) x3_1.length co11 : Value).ownBlock)) HO_4.out (fun k_ hk => hk.2)); clear HO_4; have HO_4 := n_; clear n_; obtain ⟨hy16_, hz16_⟩ := Kd.R_celln 0 HO_4.out (x15_1 : Int) (of_decide_eq_true (by first | (with_reducible assumption) | assumption)) (of_decide_eq_true (by first | (with_reducible assumption) | assumption)); have HP16 := Kd.R_putg HO_4.out (x15_1 : Int) (-1)) | ((with_reducible refine gate_store (t := 3) (p := 23) rfl ?_); refine store_event (t := 3) (p := 23) (v := ?vo_w17) (w1 := (w15.setCell ⟨go13, (x15_1 : Int).toNat, none⟩ (.int .i64 (-1)))) ?hg ?ho ?hn ?hr ?_; (case ho => rfl); (case hg => rfl); (case hn => rfl); (case hr => first | (go_simp; done) | (go_simp; rfl)); intro w17 hw; have hg : w15.grownBy w17 (some go13) := (by rw [hw]; exact HP16.2); have hp_ : Kd.R (Kd.int .i64) 3 w17 w.heap.size (fun k_ => some k_ ≠ (.slice (some ⟨go11, 0, none⟩) x3_1.length co11 : Value).ownBlock) (.slice (some ⟨go13, 0, none⟩) x4_1.length co13) y108 := (by rw [hw, Ny108.out]; exact HP16.1); clear HP16; have n0_ := asd (Kd.R_after (v := (.slice (some ⟨go13, 0, none⟩) x4_1.length co13)) (v1 := (.slice (some ⟨go13, 0, none⟩) x4_1.length co13)) (ok := (fun _ => True)) (upR <| Kd.R_mono HO_3.out (fun _ hk => ⟨trivial, hk⟩)) hg (.inl rfl)); have n1_ := asd (hp_); have n2_ := asd ((by rw [hw]; exact below_set (HB.out) GB13.out : Below w.heap.size w w17)); clear HO_3; clear HO_4; clear HB; have HO_3 := n0_; have HO_4 := n1_; have HB := n2_; clear n0_ n1_ n2_; clear hg hw hp_))
         go_roundg k1
         case measure => have := HK1.out; omega
         case rel => exact ⟨(y107), (y108), (wrap64 (x15_1 + 1)), (by first | rfl | (simp; done) | (simp [*]; done)), H', ⟨by have := HK1.out; omega⟩, ⟨by (with_reducible repeat (first | apply Kd.R_alloc | apply Kd.R_drewN | apply Kd.R_drew)); exact Kd.R_mono HO_3.out (fun _ hk => hk.2)⟩, ⟨by (with_reducible repeat (first | apply Kd.R_alloc | apply Kd.R_drewN | apply Kd.R_drew)); exact HO_4.out⟩, ⟨by repeat (first | (with_reducible first | exact HB.out | apply below_alloc | apply pw_below_drewN | apply below_drew1) | exact HB.out)⟩⟩
        ·
         rw [if_neg c12] at H
         exact absurd H (by simp)
       ·
        rw [if_neg c10] at H
        exact absurd H (by simp)
      ·
       rw [if_neg c9] at H
       exact absurd H (by simp)
     ·
      rw [if_neg c8] at H
      have c8b0 : decide (x15_1 < (l0.length : Int)) = false := decide_eq_false c8
      clear c8
      have H' := asd H
      clear H
      go_wp2
      go_loopg [27] k1 (fun kq v27 w' => ∃ (x3_2 : List Int) (x4_2 : List Int) (x27_2 : Int), v27 = .int .i64 x27_2 ∧ Aside0 (spec_cnMatch.l1 kq l0 x3_2 x4_2 (l0.length : Int) x27_2 = some r) ∧ Aside0 (kq ≤ k1) ∧ Aside0 (Kd.R (Kd.int .i64) 3 w' w.heap.size (fun k_ => some k_ ≠ (v105 : Value).ownBlock) v102 x3_2) ∧ Aside0 (Kd.R (Kd.int .i64) 3 w' w.heap.size (fun k_ => some k_ ≠ (v102 : Value).ownBlock) v105 x4_2) ∧ Aside0 (Below w.heap.size w w'))
      case atStart => exact ⟨(x3_1), (x4_1), (0), (by first | rfl | (simp; done) | (simp [*]; done)), H', ⟨Nat.le_refl _⟩, ⟨by (with_reducible repeat (first | apply Kd.R_alloc | apply Kd.R_drewN | apply Kd.R_drew)); exact HO_3.out⟩, ⟨by (with_reducible repeat (first | apply Kd.R_alloc | apply Kd.R_drewN | apply Kd.R_drew)); exact HO_4.out⟩, ⟨by repeat (first | (with_reducible first | exact HB.out | apply below_alloc | apply pw_below_drewN | apply below_drew1) | exact HB.out)⟩⟩
      case round =>
       clear H'
       try clear c1
       try clear p1
       try clear q1
       try clear hx1
       try clear hf1
       try clear c2
       try clear c2b0
       try clear c2b1
       try clear p2
       try clear c3
       try clear c3b0
       try clear c3b1
       try clear p6
       try clear c8
       try clear c8b0
       try clear c9
       try clear c9b0
       try clear c10
       try clear c10b0
       try clear p11
       try clear q11
       try clear hx11
       try clear hf11
       try clear c12
       try clear c12b0
       try clear p13
       try clear q13
       try clear hx13
       try clear hf13
       try clear hx11_0
       try clear hx13_0
       try clear p11
       try clear p13
       try clear p2
       try clear q11
       try clear q13
       try clear HO_3; try clear HO_4; skip
       obtain ⟨x3_2, x4_2, x27_2, rfl, HA, HK2, HO_3, HO_4, HB⟩ := hrel
       cases gk with
       | zero => exact absurd HA.out (by simp [spec_cnMatch.l1])
       | succ k2 =>
        have H := HA.out
        clear HA
        simp only [spec_cnMatch.l1] at H
        by_cases c18 : x27_2 < (l0.length : Int)
        ·
         rw [if_pos c18] at H
         have c18b0 : decide (x27_2 < (l0.length : Int)) = true := decide_eq_true c18
         clear c18
         by_cases c19 : 0 ≤ (l0.length : Int)
         ·
          rw [if_pos c19] at H
          have c19b0 := eq_true c19
          have c19b1 : decide (0 ≤ (l0.length : Int)) = true := decide_eq_true c19
          clear c19
          by_cases c20 : ((l0.length : Int) : Int).toNat ≤ 281474976710656
          ·
           rw [if_pos c20] at H
           have c20b0 := eq_true c20
           have c20b1 : decide (((l0.length : Int) : Int).toNat ≤ 281474976710656) = true := decide_eq_true c20
           clear c20
           obtain ⟨y109, hy109⟩ : ∃ y_ : List Bool, y_ = (List.replicate ((l0.length : Int) : Int).toNat false) := ⟨_, rfl⟩
           replace H : ((spec_cnGet.f k2 l0 x3_2 x4_2 y109 x27_2).bind fun bt112 => (spec_cnMatch.l1 k2 l0 bt112.2.1 bt112.2.2.1 (l0.length : Int) (wrap64 (x27_2 + 1)))) = some r := by first | (rw [hy109]; with_reducible exact H) | (have H2_ := (Option.bind_some _ _).symm.trans H; rw [hy109]; with_reducible exact H2_) | (have H2_ := (Option.bind_some _ _).symm.trans H; with_reducible exact H2_) | with_reducible exact H | (rw [hy109]; exact H) | exact H
           have Ny109 := asd hy109
           clear hy109
           replace H := Option.bind_eq_some_iff.mp H
           obtain ⟨⟨t112, t113, t114, t115⟩, A210, H⟩ := H
           replace H : (spec_cnMatch.l1 k2 l0 t113 t114 (l0.length : Int) (wrap64 (x27_2 + 1))) = some r := H
           have A21 := asd A210
           clear A210
           have H' := asd H
           clear H
           go_wp2_with (first | ((with_reducible refine gate_dst (N := 35) rfl ?_); refine Kd.R_make Kd.bool _ 4 rfl (N := 35) rfl 131 _ _ rfl (l0.length : Int) rfl rfl Try.underlying131 (.bool false) 1 info4 rfl (by decide) (by omega) false (ok := fun _ => True) (okp := fun _ => True) rfl (fun _ hk => hk) trivial (of_decide_eq_true (by first | (with_reducible assumption) | assumption)) (Nat.le_trans (Nat.mul_le_mul_right _ (of_decide_eq_true (by first | (with_reducible assumption) | assumption) : (l0.length : Int).toNat ≤ 281474976710656)) (by omega)) (Below.refl _ _) (Nat.le_refl _) ?_; intro v110 w22 ho23 hb hg_ hnew_; clear hg_ hnew_; (first | rw [← Ny109.out] at ho23 | (simp only [Int.reduceToNat] at ho23; rw [← Ny109.out] at ho23)); have n0_ := asd (Kd.R_below (upR <| HO_3.out) hb); have n1_ := asd (Kd.R_below (upR <| HO_4.out) hb); have n2_ := asd (Kd.R_lower ho23 (below_size (by repeat (first | (with_reducible first | exact HB.out | apply below_alloc | apply pw_below_drewN | apply below_drew1) | exact HB.out)))); have n3_ := asd (below_step (by repeat (first | (with_reducible first | exact HB.out | apply below_alloc | apply pw_below_drewN | apply below_drew1) | exact HB.out)) hb); clear HO_3; clear HO_4; clear HB; have HO_3 := n0_; have HO_4 := n1_; have HO111 := n2_; have HB := n3_; clear n0_ n1_ n2_ n3_; clear hb ho23; obtain ⟨Ao24, co24, eo24⟩ := Kd.R_slice HO_3.out; subst eo24; obtain ⟨Ao25, co25, eo25⟩ := Kd.R_slice HO_4.out; subst eo25; obtain ⟨Ao26, co26, eo26⟩ := Kd.R_slice HO111.out; subst eo26) | ((with_reducible refine gate_callee (f := 135) rfl ?_); refine goesL_ (some 37) rfl rfl Try.func135 (by kernel_rfl) rfl #[.slice A0 l0.length c0, .slice Ao24 x3_2.length co24, .slice Ao25 x4_2.length co25, .slice Ao26 y109.length co26, .int .i64 x27_2] rfl (by (try simp only [List.map_toArray, List.map_cons, List.map_nil]); first | done | rfl | (simp only [List.length_drop, List.length_take]; rfl)) ?_; (with_reducible refine (spec_cnGet.calls k2 _ _ l0 (fun k_ => some k_ = (.slice Ao24 x3_2.length co24 : Value).ownBlock) (.slice Ao24 x3_2.length co24) x3_2 (fun k_ => some k_ = (.slice Ao25 x4_2.length co25 : Value).ownBlock) (.slice Ao25 x4_2.length co25) x4_2 (fun k_ => some k_ = (.slice Ao26 y109.length co26 : Value).ownBlock) (.slice Ao26 y109.length co26) y109 x27_2 t112 t113 t114 t115 w _ ?side1 ?side2 ?side3 ?side4 ?side5 ?side6 ?side7 ?side8 A21.out).mono ?_); (case side1 => repeat (first | (with_reducible first | exact HB.out | apply below_alloc | apply pw_below_drewN | apply below_drew1) | exact HB.out)); (case side2 => exact Kd.C_kept_came (Kd.heap_int .i64) HR0.out (by repeat (first | (with_reducible first | exact HB.out | apply below_alloc | apply pw_below_drewN | apply below_drew1) | exact HB.out)) (fun k_ hs_ => Or.elim hs_ (fun e_ => (fun e_ => Kd.R_base HO_3.out k_ e_.symm) e_) (fun e_ => Or.elim e_ (fun e_ => (fun e_ => Kd.R_base HO_4.out k_ e_.symm) e_) (fun e_ => (fun e_ => Kd.R_base HO111.out k_ e_.symm) e_)))); (case side3 => exact HC0.out); (case side4 => exact Kd.R_tight rfl HO_3.out); (case side5 => exact fun k_ e_ => (HO_3.out.1 k_ e_.symm)); (case side6 => exact Kd.R_tight rfl HO_4.out); (case side7 => exact fun k_ e_ => (HO_4.out.1 k_ e_.symm)); (case side8 => exact Kd.R_tight rfl HO111.out); rintro e w27 ⟨rfl, hy0, hy1, hy2, hb, hkp⟩; refine ⟨_, rfl, ?_⟩; have n0_ := asd (Kd.R_reok rfl hy0 (fun k_ e_ => HO_3.out.1 k_ e_)); have n1_ := asd (Kd.R_reok rfl hy1 (fun k_ e_ => HO_4.out.1 k_ e_)); have n2_ := asd (Kd.R_reok rfl hy2 (fun k_ e_ => HO111.out.1 k_ e_)); have n3_ := asd (hb); clear HO_3; clear HO_4; clear HO111; clear HB; have HO_3 := n0_; have HO_4 := n1_; have HO111 := n2_; have HB := n3_; clear n0_ n1_ n2_ n3_; (try clear hb); (try clear hkp); (try clear hy0); (try clear hy1); (try clear hy2)))
           go_roundg k2
           case measure => have := HK1.out; have := HK2.out; omega
           case rel => exact ⟨(t113), (t114), (wrap64 (x27_2 + 1)), (by first | rfl | (simp; done) | (simp [*]; done)), H', ⟨by have := HK1.out; have := HK2.out; omega⟩, ⟨by (with_reducible repeat (first | apply Kd.R_alloc | apply Kd.R_drewN | apply Kd.R_drew)); exact HO_3.out⟩, ⟨by (with_reducible repeat (first | apply Kd.R_alloc | apply Kd.R_drewN | apply Kd.R_drew)); exact HO_4.out⟩, ⟨by repeat (first | (with_reducible first | exact HB.out | apply below_alloc | apply pw_below_drewN | apply below_drew1) | exact HB.out)⟩⟩
          ·
           rw [if_neg c20] at H
           exact absurd H (by simp)
         ·
          rw [if_neg c19] at H
          exact absurd H (by simp)
        ·
         rw [if_neg c18] at H
         have c18b0 : decide (x27_2 < (l0.length : Int)) = false := decide_eq_false c18
         clear c18
         obtain rfl := Option.some.inj H
         go_wp2
         go_ret
         exact ⟨_, by first | rfl | (simp [errW_none, errW_some] <;> rfl) | (simp [*, errW_none, errW_some] <;> rfl), by (with_reducible repeat (first | apply Kd.R_alloc | apply Kd.R_drewN | apply Kd.R_drew)); exact Kd.R_mono HO_3.out (fun _ hk => trivial), by repeat (first | (with_reducible first | exact HB.out | apply below_alloc | apply pw_below_drewN | apply below_drew1) | exact HB.out)⟩
  ·
   rw [if_neg c3] at H
   exact absurd H (by simp)
 ·
  rw [if_neg c2] at H
  exact absurd H (by simp)

/-! ### spec_cnChains: function 77 -/
mutual
def spec_cnChains.l0 : Nat → List Int → List Int → List (List Int) → Int → Int → Option ((List (List Int)))
 | 0, _, _, _, _, _ => none
 | k + 1, x0, x3, x4, x14, x15 => if x15 < x14 then (if 0 ≤ x15 then (if x15 < (x3.length : Int) then (if (rd x3 x15) ≥ 0 then (spec_cnChains.l0 k x0 x3 x4 x14 (wrap64 (x15 + 1))) else (if x15 < (x0.length : Int) then (spec_cnChains.l1 k x0 x3 x4 (([rd x0 x15] : List Int)) x15 x14 x15) else (none))) else (none)) else (none)) else (some x4)
def spec_cnChains.l1 : Nat → List Int → List Int → List (List Int) → List Int → Int → Int → Int → Option ((List (List Int)))
 | 0, _, _, _, _, _, _, _ => none
 | k + 1, x0, x3, x4, x6, x7, x14, x15 => if x7 ≥ 0 then (spec_cnChains.l2 k x0 x3 x4 x6 x7 (-1) x14 x15 x3 (x3.length : Int) 0) else (if x4.length < 5864062014805 then (spec_cnChains.l0 k x0 x3 (x4 ++ [x6]) x14 (wrap64 (x15 + 1))) else (none))
def spec_cnChains.l2 : Nat → List Int → List Int → List (List Int) → List Int → Int → Int → Int → Int → List Int → Int → Int → Option ((List (List Int)))
 | 0, _, _, _, _, _, _, _, _, _, _, _ => none
 | k + 1, x0, x3, x4, x6, x7, x8, x14, x15, x31, x32, x33 => if x33 < x32 then (if 0 ≤ x33 then (if x33 < (x31.length : Int) then (if (rd x31 x33) = x7 then (spec_cnChains.l2 k x0 x3 x4 x6 x7 x33 x14 x15 x31 x32 (wrap64 (x33 + 1))) else (spec_cnChains.l2 k x0 x3 x4 x6 x7 x8 x14 x15 x31 x32 (wrap64 (x33 + 1)))) else (none)) else (none)) else (if x8 ≥ 0 then (if 0 ≤ x8 then (if x8 < (x0.length : Int) then (if x6.length < 17592186044416 then (spec_cnChains.l1 k x0 x3 x4 (x6 ++ [rd x0 x8]) x8 x14 x15) else (none)) else (none)) else (none)) else (spec_cnChains.l1 k x0 x3 x4 x6 x8 x14 x15))
end
def spec_cnChains.f (k : Nat) (l0 : List Int) : Option ((List (List Int))) := (spec_cnMatch.f k l0).bind fun t101 => (spec_cnChains.l0 k l0 t101 ([] : List (List Int)) (l0.length : Int) 0)
theorem spec_cnChains.mono_l : ∀ k, (∀ y0 y1 y2 y3 y4, LeO (spec_cnChains.l0 k y0 y1 y2 y3 y4) (spec_cnChains.l0 (k + 1) y0 y1 y2 y3 y4)) ∧ (∀ y0 y1 y2 y3 y4 y5 y6, LeO (spec_cnChains.l1 k y0 y1 y2 y3 y4 y5 y6) (spec_cnChains.l1 (k + 1) y0 y1 y2 y3 y4 y5 y6)) ∧ (∀ y0 y1 y2 y3 y4 y5 y6 y7 y8 y9 y10, LeO (spec_cnChains.l2 k y0 y1 y2 y3 y4 y5 y6 y7 y8 y9 y10) (spec_cnChains.l2 (k + 1) y0 y1 y2 y3 y4 y5 y6 y7 y8 y9 y10))
 | 0 => ⟨fun _ _ _ _ _ r h => by simp [spec_cnChains.l0] at h, fun _ _ _ _ _ _ _ r h => by simp [spec_cnChains.l1] at h, fun _ _ _ _ _ _ _ _ _ _ _ r h => by simp [spec_cnChains.l2] at h⟩
 | k + 1 => by
  obtain ⟨ih0, ih1, ih2⟩ := spec_cnChains.mono_l k
  refine ⟨?_, ?_, ?_⟩
  ·
   intro y0 y1 y2 y3 y4
   unfold spec_cnChains.l0
   repeat' first
   | (with_reducible exact ih0 _ _ _ _ _)
   | (with_reducible exact ih1 _ _ _ _ _ _ _)
   | (with_reducible exact ih2 _ _ _ _ _ _ _ _ _ _ _)
   | (with_reducible exact spec_cnMatch.mono _ _)
   | (with_reducible exact LeO.refl _)
   | (with_reducible exact LeO.none _)
   | (with_reducible refine LeO.ite ?_ ?_)
   | (with_reducible refine LeO.bind ?_ (fun _ => ?_))
   | exact ih0 _ _ _ _ _
   | exact ih1 _ _ _ _ _ _ _
   | exact ih2 _ _ _ _ _ _ _ _ _ _ _
   | exact spec_cnMatch.mono _ _
   | exact LeO.none _
   | refine LeO.ite ?_ ?_
   | refine LeO.bind ?_ (fun _ => ?_)
  ·
   intro y0 y1 y2 y3 y4 y5 y6
   unfold spec_cnChains.l1
   repeat' first
   | (with_reducible exact ih0 _ _ _ _ _)
   | (with_reducible exact ih1 _ _ _ _ _ _ _)
   | (with_reducible exact ih2 _ _ _ _ _ _ _ _ _ _ _)
   | (with_reducible exact spec_cnMatch.mono _ _)
   | (with_reducible exact LeO.refl _)
   | (with_reducible exact LeO.none _)
   | (with_reducible refine LeO.ite ?_ ?_)
   | (with_reducible refine LeO.bind ?_ (fun _ => ?_))
   | exact ih0 _ _ _ _ _
   | exact ih1 _ _ _ _ _ _ _
   | exact ih2 _ _ _ _ _ _ _ _ _ _ _
   | exact spec_cnMatch.mono _ _
   | exact LeO.none _
   | refine LeO.ite ?_ ?_
   | refine LeO.bind ?_ (fun _ => ?_)
  ·
   intro y0 y1 y2 y3 y4 y5 y6 y7 y8 y9 y10
   unfold spec_cnChains.l2
   repeat' first
   | (with_reducible exact ih0 _ _ _ _ _)
   | (with_reducible exact ih1 _ _ _ _ _ _ _)
   | (with_reducible exact ih2 _ _ _ _ _ _ _ _ _ _ _)
   | (with_reducible exact spec_cnMatch.mono _ _)
   | (with_reducible exact LeO.refl _)
   | (with_reducible exact LeO.none _)
   | (with_reducible refine LeO.ite ?_ ?_)
   | (with_reducible refine LeO.bind ?_ (fun _ => ?_))
   | exact ih0 _ _ _ _ _
   | exact ih1 _ _ _ _ _ _ _
   | exact ih2 _ _ _ _ _ _ _ _ _ _ _
   | exact spec_cnMatch.mono _ _
   | exact LeO.none _
   | refine LeO.ite ?_ ?_
   | refine LeO.bind ?_ (fun _ => ?_)
theorem spec_cnChains.mono : ∀ a0 k, LeO (spec_cnChains.f k a0) (spec_cnChains.f (k + 1) a0) := by
 intro a0 k
 obtain ⟨ih0, ih1, ih2⟩ := spec_cnChains.mono_l k
 unfold spec_cnChains.f
 repeat' first
   | (with_reducible exact ih0 _ _ _ _ _)
   | (with_reducible exact ih1 _ _ _ _ _ _ _)
   | (with_reducible exact ih2 _ _ _ _ _ _ _ _ _ _ _)
   | (with_reducible exact spec_cnMatch.mono _ _)
   | (with_reducible exact LeO.refl _)
   | (with_reducible exact LeO.none _)
   | (with_reducible refine LeO.ite ?_ ?_)
   | (with_reducible refine LeO.bind ?_ (fun _ => ?_))
   | exact ih0 _ _ _ _ _
   | exact ih1 _ _ _ _ _ _ _
   | exact ih2 _ _ _ _ _ _ _ _ _ _ _
   | exact spec_cnMatch.mono _ _
   | exact LeO.none _
   | refine LeO.ite ?_ ?_
   | refine LeO.bind ?_ (fun _ => ?_)
set_option maxHeartbeats 8000000 in
set_option maxRecDepth 100000 in
theorem spec_cnChains.calls (k : Nat) (A0 : Option Addr) (c0 : Nat) (l0 : List Int) (r : List (List Int)) (w : World) (hr0 : Kd.C (Kd.int .i64) w A0 l0.length l0) (hc0 : l0.length ≤ c0) (h : spec_cnChains.f k l0 = some r) :
  Calls Try.prog 77 #[.slice A0 l0.length c0] w fun e w' => ∃ v0_ : Value, e = .returned (v0_) ∧ Kd.S (Kd.slice 3 (Kd.int .i64)) 22 w' w.heap.size (fun _ => True) v0_ r ∧ Below w.heap.size w w' := by
 have HR0 := asd hr0
 have HC0 := asd hc0
 clear hr0 hc0
 have HB := asd (Below.refl w.heap.size w)
 have H : ((spec_cnMatch.f k l0).bind fun t101 => (spec_cnChains.l0 k l0 t101 ([] : List (List Int)) (l0.length : Int) 0)) = some r := h
 clear h
 replace H := Option.bind_eq_some_iff.mp H
 obtain ⟨t101, A20, H⟩ := H
 replace H : (spec_cnChains.l0 k l0 t101 ([] : List (List Int)) (l0.length : Int) 0) = some r := H
 have A2 := asd A20
 clear A20
 have H' := asd H
 clear H
 go_enter Try.func77, Try.ntmps77
 go_wp2_with (first | ((with_reducible refine gate_callee (f := 120) rfl ?_); refine goesL_ (some 12) rfl rfl Try.func120 (by kernel_rfl) rfl #[.slice A0 l0.length c0] rfl (by (try simp only [List.map_toArray, List.map_cons, List.map_nil]); first | done | rfl | (simp only [List.length_drop, List.length_take]; rfl)) ?_; (with_reducible refine (spec_cnMatch.calls k _ _ l0 t101 _ ?side1 ?side2 A2.out).mono ?_); (case side1 => repeat (first | exact HR0.out | (with_reducible refine Kd.C_alloc ?_ _) | (with_reducible refine Kd.C_drewN ?_ _) | (with_reducible refine Kd.C_drew ?_))); (case side2 => exact HC0.out); rintro e w3 ⟨v102, rfl, ho0, hb⟩; refine ⟨_, rfl, ?_⟩; have n0_ := asd (Kd.R_lower ho0 (below_size (by repeat (first | (with_reducible first | exact HB.out | apply below_alloc | apply pw_below_drewN | apply below_drew1) | exact HB.out)))); have n1_ := asd (below_step (by repeat (first | (with_reducible first | exact HB.out | apply below_alloc | apply pw_below_drewN | apply below_drew1) | exact HB.out)) hb); clear HB; have HO103 := n0_; have HB := n1_; clear n0_ n1_; (try clear hb); (try clear hb2); (try clear hk); (try clear hi); (try clear ho0)))
 go_loopg [4, 15] k (fun kq v4 v15 w' => ∃ (x4_1 : List (List Int)) (x15_1 : Int), v15 = .int .i64 x15_1 ∧ Aside0 (spec_cnChains.l0 kq l0 t101 x4_1 (l0.length : Int) x15_1 = some r) ∧ Aside0 (kq ≤ k) ∧ Aside0 (Kd.R (Kd.int .i64) 3 w' w.heap.size (fun _ => True) v102 t101) ∧ Aside0 (Kd.S (Kd.slice 3 (Kd.int .i64)) 22 w' w.heap.size (fun k_ => some k_ ≠ (v102 : Value).ownBlock) v4 x4_1) ∧ Aside0 (Below w.heap.size w w'))
 case atStart => exact ⟨(([] : List (List Int))), (0), (by first | rfl | (simp; done) | (simp [*]; done)), H', ⟨Nat.le_refl _⟩, ⟨by (with_reducible repeat (first | apply Kd.R_alloc | apply Kd.R_drewN | apply Kd.R_drew)); exact HO103.out⟩, ⟨by first | exact Kd.S_nil _ _ _ _ _ | exact Kd.N_nil _ _ _ _ _ | exact Kd.V_nil _ _ _ _ _ | exact Kd.Q_nil _ _ _ _ _ | exact Kd.R_nil _ _ _ _ _⟩, ⟨by repeat (first | (with_reducible first | exact HB.out | apply below_alloc | apply pw_below_drewN | apply below_drew1) | exact HB.out)⟩⟩
 case round =>
  clear H'
  try clear c1
  try clear p2
  try clear HO_3; try clear HO_4; skip
  obtain ⟨x4_1, x15_1, rfl, HA, HK1, HO_3, HO_4, HB⟩ := hrel
  cases gk with
  | zero => exact absurd HA.out (by simp [spec_cnChains.l0])
  | succ k1 =>
   have H := HA.out
   clear HA
   simp only [spec_cnChains.l0] at H
   by_cases c4 : x15_1 < (l0.length : Int)
   ·
    rw [if_pos c4] at H
    have c4b0 : decide (x15_1 < (l0.length : Int)) = true := decide_eq_true c4
    clear c4
    by_cases c5 : 0 ≤ x15_1
    ·
     rw [if_pos c5] at H
     have c5b0 : decide (0 ≤ x15_1) = true := decide_eq_true c5
     clear c5
     by_cases c6 : x15_1 < (t101.length : Int)
     ·
      rw [if_pos c6] at H
      have c6b0 : decide (x15_1 < (t101.length : Int)) = true := decide_eq_true c6
      clear c6
      by_cases c7 : (rd t101 x15_1) ≥ 0
      ·
       rw [if_pos c7] at H
       have c7b0 : decide (0 ≤ (rd t101 x15_1)) = true := decide_eq_true c7
       clear c7
       have H' := asd H
       clear H
       obtain ⟨Ao8, co8, eo8⟩ := Kd.R_slice HO_3.out
       subst eo8
       have p104 : 0 ≤ (x15_1 : Int) := of_decide_eq_true (by first | (with_reducible assumption) | assumption)
       have q104 : x15_1 < (t101.length : Int) := of_decide_eq_true (by first | (with_reducible assumption) | assumption)
       obtain ⟨ad104, e104, hx104_0⟩ := Kd.at_int (Kd.R_reads' HO_3.out).2.2 x15_1 p104 q104
       cases e104
       replace p104 := eq_true p104
       replace q104 := eq_true q104
       go_wp2
       go_roundg k1
       case measure => have := HK1.out; omega
       case rel => exact ⟨(x4_1), (wrap64 (x15_1 + 1)), (by first | rfl | (simp; done) | (simp [*]; done)), H', ⟨by have := HK1.out; omega⟩, ⟨by (with_reducible repeat (first | apply Kd.R_alloc | apply Kd.R_drewN | apply Kd.R_drew)); exact HO_3.out⟩, ⟨by (with_reducible repeat (first | apply Kd.S_alloc | apply Kd.S_drewN | apply Kd.S_drew)); exact HO_4.out⟩, ⟨by repeat (first | (with_reducible first | exact HB.out | apply below_alloc | apply pw_below_drewN | apply below_drew1) | exact HB.out)⟩⟩
      ·
       rw [if_neg c7] at H
       have c7b0 : decide (0 ≤ (rd t101 x15_1)) = false := decide_eq_false c7
       clear c7
       by_cases c9 : x15_1 < (l0.length : Int)
       ·
        rw [if_pos c9] at H
        have c9b0 : decide (x15_1 < (l0.length : Int)) = true := decide_eq_true c9
        clear c9
        obtain ⟨y106, hy106⟩ : ∃ y_ : List Int, y_ = (([rd l0 x15_1] : List Int)) := ⟨_, rfl⟩
        replace H : (spec_cnChains.l1 k1 l0 t101 x4_1 y106 x15_1 (l0.length : Int) x15_1) = some r := by first | (rw [hy106]; with_reducible exact H) | (have H2_ := (Option.bind_some _ _).symm.trans H; rw [hy106]; with_reducible exact H2_) | (have H2_ := (Option.bind_some _ _).symm.trans H; with_reducible exact H2_) | with_reducible exact H | (rw [hy106]; exact H) | exact H
        have Ny106 := asd hy106
        clear hy106
        have H' := asd H
        clear H
        obtain ⟨Ao10, co10, eo10⟩ := Kd.R_slice HO_3.out
        subst eo10
        have p104 : 0 ≤ (x15_1 : Int) := of_decide_eq_true (by first | (with_reducible assumption) | assumption)
        have q104 : x15_1 < (t101.length : Int) := of_decide_eq_true (by first | (with_reducible assumption) | assumption)
        obtain ⟨ad104, e104, hx104_0⟩ := Kd.at_int (Kd.R_reads' HO_3.out).2.2 x15_1 p104 q104
        cases e104
        replace p104 := eq_true p104
        replace q104 := eq_true q104
        have p105 : 0 ≤ (x15_1 : Int) := of_decide_eq_true (by first | (with_reducible assumption) | assumption)
        have q105 : x15_1 < (l0.length : Int) := of_decide_eq_true (by first | (with_reducible assumption) | assumption)
        obtain ⟨ad105, e105, hx105_0⟩ := Kd.at_int HR0.out x15_1 p105 q105
        cases e105
        replace hx105_0 := (HB.out.cell (World.block_lt_of_cell? w _ hx105_0)).trans hx105_0
        replace p105 := eq_true p105
        replace q105 := eq_true q105
        go_wp2_with (first | ((with_reducible refine gate_dst (N := 27) rfl ?_); refine Kd.R_lit (Kd.int .i64) _ 3 ?hg (N := 27) ?hd (xs := ([rd l0 x15_1] : List Int)) (inner := [.int .i64 (rd l0 x15_1)]) (ok := fun _ => True) (okp := fun _ => True) ?hr ?hp (fun _ hk => hk) trivial (Below.refl _ _) (Nat.le_refl _) (by simp) ?_; (case hd => rfl); (case hg => rfl); (case hr => first | (go_simp; done) | (go_simp; rfl)); (case hp => exact (Reps.one (show Kd.M (Kd.int .i64) _ _ _ (rd l0 x15_1) [.int .i64 (rd l0 x15_1)] from rfl) (Reps.none _ _))); intro v107 w11 ho12 hb hg_ hnew_; clear hg_ hnew_; (first | rw [← Ny106.out] at ho12 | (simp only [Int.reduceToNat] at ho12; rw [← Ny106.out] at ho12)); have n0_ := asd (Kd.R_elder' (upR <| HO_3.out) (Kd.R_base ho12) hb); have n1_ := asd (Kd.S_elder' (by (with_reducible repeat (first | apply Kd.S_alloc | apply Kd.S_drewN | apply Kd.S_drew)); exact HO_4.out) (Kd.R_base ho12) hb); have n2_ := asd (Kd.R_lower (Kd.R_new' ho12 (Kd.R_lt (upR <| HO_3.out))) (below_size (by repeat (first | (with_reducible first | exact HB.out | apply below_alloc | apply pw_below_drewN | apply below_drew1) | exact HB.out)))); have n3_ := asd (below_step (by repeat (first | (with_reducible first | exact HB.out | apply below_alloc | apply pw_below_drewN | apply below_drew1) | exact HB.out)) hb); clear HO_3; clear HO_4; clear HB; have HO_3 := n0_; have HO_4 := n1_; have HO108 := n2_; have HB := n3_; clear n0_ n1_ n2_ n3_; clear hb ho12))
        go_loopg [6, 7] k1 (fun kq v6 v7 w' => ∃ (x6_2 : List Int) (x7_2 : Int), v7 = .int .i64 x7_2 ∧ Aside0 (spec_cnChains.l1 kq l0 t101 x4_1 x6_2 x7_2 (l0.length : Int) x15_1 = some r) ∧ Aside0 (kq ≤ k1) ∧ Aside0 (Kd.R (Kd.int .i64) 3 w' w.heap.size (fun k_ => some k_ ≠ (v6 : Value).ownBlock) (.slice (some ad104) t101.length co10) t101) ∧ Aside0 (Kd.S (Kd.slice 3 (Kd.int .i64)) 22 w' w.heap.size (fun k_ => some k_ ≠ ((.slice (some ad104) t101.length co10) : Value).ownBlock ∧ some k_ ≠ (v6 : Value).ownBlock) u4 x4_1) ∧ Aside0 (Kd.R (Kd.int .i64) 3 w' w.heap.size (fun k_ => some k_ ≠ ((.slice (some ad104) t101.length co10) : Value).ownBlock) v6 x6_2) ∧ Aside0 (Below w.heap.size w w'))
        case atStart => exact ⟨(y106), (x15_1), (by first | rfl | (simp; done) | (simp [*]; done)), H', ⟨Nat.le_refl _⟩, ⟨by (with_reducible repeat (first | apply Kd.R_alloc | apply Kd.R_drewN | apply Kd.R_drew)); exact Kd.R_mono HO_3.out (fun _ hk => hk.2)⟩, ⟨by (with_reducible repeat (first | apply Kd.S_alloc | apply Kd.S_drewN | apply Kd.S_drew)); exact HO_4.out⟩, ⟨by (with_reducible repeat (first | apply Kd.R_alloc | apply Kd.R_drewN | apply Kd.R_drew)); exact Kd.R_mono HO108.out (fun _ hk => hk.2)⟩, ⟨by repeat (first | (with_reducible first | exact HB.out | apply below_alloc | apply pw_below_drewN | apply below_drew1) | exact HB.out)⟩⟩
        case round =>
         clear H'
         try clear c1
         try clear p1
         try clear q1
         try clear hx1
         try clear p2
         try clear c4
         try clear c4b0
         try clear c5
         try clear c5b0
         try clear c6
         try clear c6b0
         try clear p6
         try clear c7
         try clear c7b0
         try clear c9
         try clear c9b0
         try clear p10
         try clear q10
         try clear hx10
         try clear c12
         try clear hx104_0
         try clear hx105_0
         try clear p104
         try clear p105
         try clear p2
         try clear q104
         try clear q105
         try clear HO_3; try clear HO_4; try clear HO_6; skip
         obtain ⟨x6_2, x7_2, rfl, HA, HK2, HO_3, HO_4, HO_6, HB⟩ := hrel
         cases gk with
         | zero => exact absurd HA.out (by simp [spec_cnChains.l1])
         | succ k2 =>
          have H := HA.out
          clear HA
          simp only [spec_cnChains.l1] at H
          by_cases c13 : x7_2 ≥ 0
          ·
           rw [if_pos c13] at H
           have c13b0 : decide (0 ≤ x7_2) = true := decide_eq_true c13
           clear c13
           have H' := asd H
           clear H
           go_wp2
           go_loopg [8, 33] k2 (fun kq v8 v33 w' => ∃ (x8_3 : Int) (x33_3 : Int), v8 = .int .i64 x8_3 ∧ v33 = .int .i64 x33_3 ∧ Aside0 (spec_cnChains.l2 kq l0 t101 x4_1 x6_2 x7_2 x8_3 (l0.length : Int) x15_1 t101 (t101.length : Int) x33_3 = some r) ∧ Aside0 (kq ≤ k2) ∧ Aside0 (Kd.R (Kd.int .i64) 3 w' w.heap.size (fun k_ => some k_ ≠ (u6 : Value).ownBlock) (.slice (some ad104) t101.length co10) t101) ∧ Aside0 (Kd.S (Kd.slice 3 (Kd.int .i64)) 22 w' w.heap.size (fun k_ => some k_ ≠ ((.slice (some ad104) t101.length co10) : Value).ownBlock ∧ some k_ ≠ (u6 : Value).ownBlock ∧ some k_ ≠ ((.slice (some ad104) t101.length co10) : Value).ownBlock) u4 x4_1) ∧ Aside0 (Kd.R (Kd.int .i64) 3 w' w.heap.size (fun k_ => some k_ ≠ ((.slice (some ad104) t101.length co10) : Value).ownBlock ∧ some k_ ≠ ((.slice (some ad104) t101.length co10) : Value).ownBlock) u6 x6_2) ∧ Aside0 (Kd.R (Kd.int .i64) 3 w' w.heap.size (fun k_ => some k_ ≠ (u6 : Value).ownBlock) (.slice (some ad104) t101.length co10) t101) ∧ Aside0 (Below w.heap.size w w'))
           case atStart => exact ⟨((-1)), (0), (by first | rfl | (simp; done) | (simp [*]; done)), (by first | rfl | (simp; done) | (simp [*]; done)), H', ⟨Nat.le_refl _⟩, ⟨by (with_reducible repeat (first | apply Kd.R_alloc | apply Kd.R_drewN | apply Kd.R_drew)); exact HO_3.out⟩, ⟨by (with_reducible repeat (first | apply Kd.S_alloc | apply Kd.S_drewN | apply Kd.S_drew)); exact Kd.S_mono HO_4.out (fun _ hk => ⟨hk.1, ⟨hk.2, hk.1⟩⟩)⟩, ⟨by (with_reducible repeat (first | apply Kd.R_alloc | apply Kd.R_drewN | apply Kd.R_drew)); exact Kd.R_mono HO_6.out (fun _ hk => ⟨hk, hk⟩)⟩, ⟨by (with_reducible repeat (first | apply Kd.R_alloc | apply Kd.R_drewN | apply Kd.R_drew)); exact HO_3.out⟩, ⟨by repeat (first | (with_reducible first | exact HB.out | apply below_alloc | apply pw_below_drewN | apply below_drew1) | exact HB.out)⟩⟩
           case round =>
            clear H'
            try clear c1
            try clear p1
            try clear q1
            try clear hx1
            try clear p2
            try clear c4
            try clear c4b0
            try clear c5
            try clear c5b0
            try clear c6
            try clear c6b0
            try clear p6
            try clear c7
            try clear c7b0
            try clear c9
            try clear c9b0
            try clear p10
            try clear q10
            try clear hx10
            try clear c12
            try clear c13
            try clear c13b0
            try clear hx104_0
            try clear hx105_0
            try clear p1
            try clear p10
            try clear p104
            try clear p105
            try clear p2
            try clear p6
            try clear q1
            try clear q10
            try clear q104
            try clear q105
            try clear HO_3; try clear HO_4; try clear HO_6; try clear HO_31; skip
            obtain ⟨x8_3, x33_3, rfl, rfl, HA, HK3, HO_3, HO_4, HO_6, HO_31, HB⟩ := hrel
            cases gk with
            | zero => exact absurd HA.out (by simp [spec_cnChains.l2])
            | succ k3 =>
             have H := HA.out
             clear HA
             simp only [spec_cnChains.l2] at H
             by_cases c14 : x33_3 < (t101.length : Int)
             ·
              rw [if_pos c14] at H
              have c14b0 : decide (x33_3 < (t101.length : Int)) = true := decide_eq_true c14
              clear c14
              by_cases c15 : 0 ≤ x33_3
              ·
               rw [if_pos c15] at H
               have c15b0 : decide (0 ≤ x33_3) = true := decide_eq_true c15
               clear c15
               by_cases c16 : x33_3 < (t101.length : Int)
               ·
                rw [if_pos c16] at H
                have c16b0 : decide (x33_3 < (t101.length : Int)) = true := decide_eq_true c16
                clear c16
                by_cases c17 : (rd t101 x33_3) = x7_2
                ·
                 rw [if_pos c17] at H
                 have c17b0 : ((rd t101 x33_3) == x7_2) = true := beq_iff_eq.mpr c17
                 have c17b1 : ((rd t101 x33_3) != x7_2) = false := bne_eq_false_iff_eq.mpr c17
                 clear c17
                 have H' := asd H
                 clear H
                 have p112 : 0 ≤ (x33_3 : Int) := of_decide_eq_true (by first | (with_reducible assumption) | assumption)
                 have q112 : x33_3 < (t101.length : Int) := of_decide_eq_true (by first | (with_reducible assumption) | assumption)
                 obtain ⟨ad112, e112, hx112_0⟩ := Kd.at_int (Kd.R_reads' HO_31.out).2.2 x33_3 p112 q112
                 obtain rfl : ad104 = ad112 := (by injection e112)
                 replace p112 := eq_true p112
                 replace q112 := eq_true q112
                 go_wp2
                 go_roundg k3
                 case measure => have := HK1.out; have := HK2.out; have := HK3.out; omega
                 case rel => exact ⟨(x33_3), (wrap64 (x33_3 + 1)), (by first | rfl | (simp; done) | (simp [*]; done)), (by first | rfl | (simp; done) | (simp [*]; done)), H', ⟨by have := HK1.out; have := HK2.out; have := HK3.out; omega⟩, ⟨by (with_reducible repeat (first | apply Kd.R_alloc | apply Kd.R_drewN | apply Kd.R_drew)); exact HO_3.out⟩, ⟨by (with_reducible repeat (first | apply Kd.S_alloc | apply Kd.S_drewN | apply Kd.S_drew)); exact HO_4.out⟩, ⟨by (with_reducible repeat (first | apply Kd.R_alloc | apply Kd.R_drewN | apply Kd.R_drew)); exact HO_6.out⟩, ⟨by (with_reducible repeat (first | apply Kd.R_alloc | apply Kd.R_drewN | apply Kd.R_drew)); exact HO_31.out⟩, ⟨by repeat (first | (with_reducible first | exact HB.out | apply below_alloc | apply pw_below_drewN | apply below_drew1) | exact HB.out)⟩⟩
                ·
                 rw [if_neg c17] at H
                 have c17b0 : ((rd t101 x33_3) == x7_2) = false := beq_eq_false_iff_ne.mpr c17
                 have c17b1 : ((rd t101 x33_3) != x7_2) = true := bne_iff_ne.mpr c17
                 have H' := asd H
                 clear H
                 have p112 : 0 ≤ (x33_3 : Int) := of_decide_eq_true (by first | (with_reducible assumption) | assumption)
                 have q112 : x33_3 < (t101.length : Int) := of_decide_eq_true (by first | (with_reducible assumption) | assumption)
                 obtain ⟨ad112, e112, hx112_0⟩ := Kd.at_int (Kd.R_reads' HO_31.out).2.2 x33_3 p112 q112
                 obtain rfl : ad104 = ad112 := (by injection e112)
                 replace p112 := eq_true p112
                 replace q112 := eq_true q112
                 go_wp2
                 go_roundg k3
                 case measure => have := HK1.out; have := HK2.out; have := HK3.out; omega
                 case rel => exact ⟨(x8_3), (wrap64 (x33_3 + 1)), (by first | rfl | (simp; done) | (simp [*]; done)), (by first | rfl | (simp; done) | (simp [*]; done)), H', ⟨by have := HK1.out; have := HK2.out; have := HK3.out; omega⟩, ⟨by (with_reducible repeat (first | apply Kd.R_alloc | apply Kd.R_drewN | apply Kd.R_drew)); exact HO_3.out⟩, ⟨by (with_reducible repeat (first | apply Kd.S_alloc | apply Kd.S_drewN | apply Kd.S_drew)); exact HO_4.out⟩, ⟨by (with_reducible repeat (first | apply Kd.R_alloc | apply Kd.R_drewN | apply Kd.R_drew)); exact HO_6.out⟩, ⟨by (with_reducible repeat (first | apply Kd.R_alloc | apply Kd.R_drewN | apply Kd.R_drew)); exact HO_31.out⟩, ⟨by repeat (first | (with_reducible first | exact HB.out | apply below_alloc | apply pw_below_drewN | apply below_drew1) | exact HB.out)⟩⟩
               ·
                rw [if_neg c16] at H
                exact absurd H (by simp)
              ·
               rw [if_neg c15] at H
               exact absurd H (by simp)
             ·
              rw [if_neg c14] at H
              have c14b0 : decide (x33_3 < (t101.length : Int)) = false := decide_eq_false c14
              clear c14
              by_cases c18 : x8_3 ≥ 0
              ·
               rw [if_pos c18] at H
               have c18b0 : decide (0 ≤ x8_3) = true := decide_eq_true c18
               clear c18
               by_cases c19 : 0 ≤ x8_3
               ·
                rw [if_pos c19] at H
                have c19b0 : decide (0 ≤ x8_3) = true := decide_eq_true c19
                clear c19
                by_cases c20 : x8_3 < (l0.length : Int)
                ·
                 rw [if_pos c20] at H
                 have c20b0 : decide (x8_3 < (l0.length : Int)) = true := decide_eq_true c20
                 clear c20
                 by_cases c21 : x6_2.length < 17592186044416
                 ·
                  rw [if_pos c21] at H
                  have LMc21 := asd c21
                  clear c21
                  obtain ⟨y114, hy114⟩ : ∃ y_ : List Int, y_ = (x6_2 ++ [rd l0 x8_3]) := ⟨_, rfl⟩
                  replace H : (spec_cnChains.l1 k3 l0 t101 x4_1 y114 x8_3 (l0.length : Int) x15_1) = some r := by first | (rw [hy114]; with_reducible exact H) | (have H2_ := (Option.bind_some _ _).symm.trans H; rw [hy114]; with_reducible exact H2_) | (have H2_ := (Option.bind_some _ _).symm.trans H; with_reducible exact H2_) | with_reducible exact H | (rw [hy114]; exact H) | exact H
                  have Ny114 := asd hy114
                  clear hy114
                  have H' := asd H
                  clear H
                  have p113 : 0 ≤ (x8_3 : Int) := of_decide_eq_true (by first | (with_reducible assumption) | assumption)
                  have q113 : x8_3 < (l0.length : Int) := of_decide_eq_true (by first | (with_reducible assumption) | assumption)
                  obtain ⟨ad113, e113, hx113_0⟩ := Kd.at_int HR0.out x8_3 p113 q113
                  obtain rfl : ad105 = ad113 := (by injection e113)
                  replace hx113_0 := (HB.out.cell (World.block_lt_of_cell? w _ hx113_0)).trans hx113_0
                  replace p113 := eq_true p113
                  replace q113 := eq_true q113
                  go_wp2_with (first | ((with_reducible refine gate_builtin (b := .append) (xs := #[.tmp 45, .tmp 50]) rfl ?_); at_builtin; refine Kd.R_append (Kd.int .i64) (w0 := w) w.heap.size rfl (.tmp 45) (.tmp 50) 22 3 (.int .i64 0) 8 rfl Try.underlying22 info3 rfl (by decide) (by omega) u6 x6_2 (rd l0 x8_3) [.int .i64 (rd l0 x8_3)] (fun k_ => some k_ ≠ (.slice (some ad104) t101.length co10 : Value).ownBlock ∧ some k_ ≠ (.slice (some ad104) t101.length co10 : Value).ownBlock) (fun _ => False) rfl rfl ?aP (fun _ hk => hk.elim) ?aF ?aO ?aB ?aS ?aL ?_; (case aP => exact rfl); (case aB => exact (by repeat (first | (with_reducible first | exact HB.out | apply below_alloc | apply pw_below_drewN | apply below_drew1) | exact HB.out))); (case aF => exact (fun k_ hk => ⟨Kd.fresh' (Kd.R_lt (upR <| HO_3.out)) k_ hk, Kd.fresh' (Kd.R_lt (upR <| HO_31.out)) k_ hk⟩)); (case aO => exact (upR <| HO_6.out)); (case aS => exact (below_size (by repeat (first | (with_reducible first | exact HB.out | apply below_alloc | apply pw_below_drewN | apply below_drew1) | exact HB.out)))); (case aL => have := LMc21.out; omega); intro v115 w22 ho hb hg hat; rw [← Ny114.out] at ho; have n0_ := asd (Kd.R_after (ok := (fun _ => True)) (upR <| Kd.R_mono HO_3.out (fun _ hk => ⟨trivial, hk⟩)) hg hat); have n1_ := asd (Kd.S_after (ok := (fun k_ => some k_ ≠ (.slice (some ad104) t101.length co10 : Value).ownBlock ∧ some k_ ≠ (.slice (some ad104) t101.length co10 : Value).ownBlock)) (by (with_reducible repeat (first | apply Kd.S_alloc | apply Kd.S_drewN | apply Kd.S_drew)); exact Kd.S_mono HO_4.out (fun _ hk => ⟨⟨hk.1, hk.2.2⟩, hk.2.1⟩)) hg hat); have n2_ := asd (Kd.R_after (ok := (fun _ => True)) (upR <| Kd.R_mono HO_31.out (fun _ hk => ⟨trivial, hk⟩)) hg hat); have n3_ := asd (hb); have n4_ := asd (ho); clear HO_3; clear HO_4; clear HO_31; clear HB; clear HO_6; have HO_3 := n0_; have HO_4 := n1_; have HO_31 := n2_; have HB := n3_; have HO116 := n4_; clear n0_ n1_ n2_ n3_ n4_; clear ho hb hg hat))
                  go_roundg k3
                  case measure => have := HK1.out; have := HK2.out; have := HK3.out; omega
                  case rel => exact ⟨(y114), (x8_3), (by first | rfl | (simp; done) | (simp [*]; done)), H', ⟨by have := HK1.out; have := HK2.out; have := HK3.out; omega⟩, ⟨by (with_reducible repeat (first | apply Kd.R_alloc | apply Kd.R_drewN | apply Kd.R_drew)); exact Kd.R_mono HO_3.out (fun _ hk => hk.2)⟩, ⟨by (with_reducible repeat (first | apply Kd.S_alloc | apply Kd.S_drewN | apply Kd.S_drew)); exact Kd.S_mono HO_4.out (fun _ hk => ⟨hk.1.1, hk.2⟩)⟩, ⟨by (with_reducible repeat (first | apply Kd.R_alloc | apply Kd.R_drewN | apply Kd.R_drew)); exact Kd.R_mono HO116.out (fun _ hk => hk.1)⟩, ⟨by repeat (first | (with_reducible first | exact HB.out | apply below_alloc | apply pw_below_drewN | apply below_drew1) | exact HB.out)⟩⟩
                 ·
                  rw [if_neg c21] at H
                  exact absurd H (by simp)
                ·
                 rw [if_neg c20] at H
                 exact absurd H (by simp)
               ·
                rw [if_neg c19] at H
                exact absurd H (by simp)
              ·
               rw [if_neg c18] at H
               have c18b0 : decide (0 ≤ x8_3) = false := decide_eq_false c18
               clear c18
               have H' := asd H
               clear H
               go_wp2
               go_roundg k3
               case measure => have := HK1.out; have := HK2.out; have := HK3.out; omega
               case rel => exact ⟨(x6_2), (x8_3), (by first | rfl | (simp; done) | (simp [*]; done)), H', ⟨by have := HK1.out; have := HK2.out; have := HK3.out; omega⟩, ⟨by (with_reducible repeat (first | apply Kd.R_alloc | apply Kd.R_drewN | apply Kd.R_drew)); exact HO_3.out⟩, ⟨by (with_reducible repeat (first | apply Kd.S_alloc | apply Kd.S_drewN | apply Kd.S_drew)); exact Kd.S_mono HO_4.out (fun _ hk => ⟨hk.1, hk.2.1⟩)⟩, ⟨by (with_reducible repeat (first | apply Kd.R_alloc | apply Kd.R_drewN | apply Kd.R_drew)); exact Kd.R_mono HO_6.out (fun _ hk => hk.1)⟩, ⟨by repeat (first | (with_reducible first | exact HB.out | apply below_alloc | apply pw_below_drewN | apply below_drew1) | exact HB.out)⟩⟩
          ·
           rw [if_neg c13] at H
           have c13b0 : decide (0 ≤ x7_2) = false := decide_eq_false c13
           clear c13
           by_cases c23 : x4_1.length < 5864062014805
           ·
            rw [if_pos c23] at H
            have LMc23 := asd c23
            clear c23
            obtain ⟨y109, hy109⟩ : ∃ y_ : List (List Int), y_ = (x4_1 ++ [x6_2]) := ⟨_, rfl⟩
            replace H : (spec_cnChains.l0 k2 l0 t101 y109 (l0.length : Int) (wrap64 (x15_1 + 1))) = some r := by first | (rw [hy109]; with_reducible exact H) | (have H2_ := (Option.bind_some _ _).symm.trans H; rw [hy109]; with_reducible exact H2_) | (have H2_ := (Option.bind_some _ _).symm.trans H; with_reducible exact H2_) | with_reducible exact H | (rw [hy109]; exact H) | exact H
            have Ny109 := asd hy109
            clear hy109
            have H' := asd H
            clear H
            obtain ⟨Ao25, co25, eo25⟩ := Kd.R_slice HO_6.out
            subst eo25
            go_wp2_with (first | ((with_reducible refine gate_builtin (b := .append) (xs := #[.tmp 53, .tmp 55]) rfl ?_); at_builtin; refine Kd.S_append (Kd.slice 3 (Kd.int .i64)) (w0 := w) w.heap.size rfl (.tmp 53) (.tmp 55) 40 22 (.slice none 0 0) 24 rfl Try.underlying40 info22 rfl (by decide) (by omega) u4 x4_1 x6_2 [.slice Ao25 x6_2.length co25] (fun k_ => some k_ ≠ (.slice (some ad104) t101.length co10 : Value).ownBlock) (fun k_ => some k_ = (.slice Ao25 x6_2.length co25 : Value).ownBlock) rfl rfl ?aP (fun k_ hk_ => ((Kd.R_mono (ok' := fun k_ => ((fun k_ => some k_ ≠ (.slice (some ad104) t101.length co10 : Value).ownBlock)) k_ ∧ some k_ ≠ (u4 : Value).ownBlock) (Kd.R_apart' (HO_6.out) (Kd.S_typed HO_4.out) (by decide)) (fun k_ hk => ⟨hk.1, hk.2⟩))).1 k_ hk_.symm) ?aF ?aO ?aB ?aS ?aL ?_; (case aP => exact Kd.M_row (Kd.R_mono (Kd.R_tight rfl (Kd.R_mono (ok' := fun k_ => ((fun k_ => some k_ ≠ (.slice (some ad104) t101.length co10 : Value).ownBlock)) k_ ∧ some k_ ≠ (u4 : Value).ownBlock) (Kd.R_apart' (HO_6.out) (Kd.S_typed HO_4.out) (by decide)) (fun k_ hk => ⟨hk.1, hk.2⟩))) (fun _ h_ => h_))); (case aB => exact (by repeat (first | (with_reducible first | exact HB.out | apply below_alloc | apply pw_below_drewN | apply below_drew1) | exact HB.out))); (case aF => exact (fun k_ hk => Kd.fresh' (Kd.R_lt (upR <| HO_3.out)) k_ hk)); (case aO => exact (by (with_reducible repeat (first | apply Kd.S_alloc | apply Kd.S_drewN | apply Kd.S_drew)); exact Kd.S_mono HO_4.out (fun k_ hk => ⟨hk.1, fun e_ => hk.2 e_⟩))); (case aS => exact (below_size (by repeat (first | (with_reducible first | exact HB.out | apply below_alloc | apply pw_below_drewN | apply below_drew1) | exact HB.out)))); (case aL => have := LMc23.out; omega); intro v110 w24 ho hb hg hat; rw [← Ny109.out] at ho; have n0_ := asd (Kd.R_over' (upR <| HO_3.out) (Kd.S_typed (by (with_reducible repeat (first | apply Kd.S_alloc | apply Kd.S_drewN | apply Kd.S_drew)); exact HO_4.out)) (by decide) hg); have n1_ := asd (hb); have n2_ := asd (ho); clear HO_3; clear HB; clear HO_4; clear HO_6; have HO_3 := n0_; have HB := n1_; have HO111 := n2_; clear n0_ n1_ n2_; clear ho hb hg hat))
            go_roundg k2
            case measure => have := HK1.out; have := HK2.out; omega
            case rel => exact ⟨(y109), (wrap64 (x15_1 + 1)), (by first | rfl | (simp; done) | (simp [*]; done)), H', ⟨by have := HK1.out; have := HK2.out; omega⟩, ⟨by (with_reducible repeat (first | apply Kd.R_alloc | apply Kd.R_drewN | apply Kd.R_drew)); exact Kd.R_mono HO_3.out (fun _ hk => trivial)⟩, ⟨by (with_reducible repeat (first | apply Kd.S_alloc | apply Kd.S_drewN | apply Kd.S_drew)); exact HO111.out⟩, ⟨by repeat (first | (with_reducible first | exact HB.out | apply below_alloc | apply pw_below_drewN | apply below_drew1) | exact HB.out)⟩⟩
           ·
            rw [if_neg c23] at H
            exact absurd H (by simp)
       ·
        rw [if_neg c9] at H
        exact absurd H (by simp)
     ·
      rw [if_neg c6] at H
      exact absurd H (by simp)
    ·
     rw [if_neg c5] at H
     exact absurd H (by simp)
   ·
    rw [if_neg c4] at H
    have c4b0 : decide (x15_1 < (l0.length : Int)) = false := decide_eq_false c4
    clear c4
    obtain rfl := Option.some.inj H
    go_wp2
    go_ret
    exact ⟨_, by first | rfl | (simp [errW_none, errW_some] <;> rfl) | (simp [*, errW_none, errW_some] <;> rfl), by (with_reducible repeat (first | apply Kd.S_alloc | apply Kd.S_drewN | apply Kd.S_drew)); exact Kd.S_mono HO_4.out (fun _ hk => trivial), by repeat (first | (with_reducible first | exact HB.out | apply below_alloc | apply pw_below_drewN | apply below_drew1) | exact HB.out)⟩

-- HAND with spec.cnChains+spec.cnMatch
theorem nxt_ok {s b o : List Int} (hP : Pair s.length b o) (hlen : s.length ≤ 1024) {p : Nat} (hp : p < s.length) {acc : List (List Int)} {ch : List Int} {i : Int} {r : List (List Int)} (hch : ch.length ≤ 4096)
    (h : Ev (fun k => if 0 ≤ rd o p then spec_cnChains.l1 k s b acc (ch ++ [rd s (rd o p)]) (rd o p) s.length i else spec_cnChains.l1 k s b acc ch (-1) s.length i) r) : ∀ (d j : Nat), s.length - j = d → j ≤ s.length → Ev (fun k => spec_cnChains.l2 k s b acc ch p (if 0 ≤ rd o p ∧ rd o p < (j : Int) then rd o p else -1) s.length i b b.length j) r
  | 0, j, hd, hj => by
    have hb := hP.lb
    have hro := hP.ro p hp
    by_cases h0 : 0 ≤ rd o p
    · rw [if_pos (⟨h0, by omega⟩ : 0 ≤ rd o p ∧ rd o p < (j : Int))]
      refine Ev.succ (fun k => by simp only [spec_cnChains.l2]; rw [if_neg (by rw [hb]; omega), if_pos (by omega), if_pos h0, if_pos (by omega), if_pos (by omega)]) ?_
      exact Ev.to (fun k => by rw [if_pos h0]) h
    · rw [if_neg (fun hh : 0 ≤ rd o p ∧ rd o p < (j : Int) => h0 hh.1)]
      refine Ev.succ (fun k => by simp only [spec_cnChains.l2]; rw [if_neg (by rw [hb]; omega), if_neg (by decide)]) ?_
      exact Ev.to (fun k => by rw [if_neg h0]) h
  | d + 1, j, hd, hj => by
    have hb := hP.lb
    have hn := nxt_ok hP hlen hp hch h d (j + 1) (by omega) (by omega)
    push_cast at hn
    have hws : wrap64 ((j : Int) + 1) = j + 1 := wrap_succ (by omega) (by omega)
    have hbo := hP.bo j p (by omega) hp
    by_cases e : rd b j = (p : Int)
    · have e2 := hbo.1 e
      rw [if_neg (by omega)]
      rw [if_pos (by omega), e2] at hn
      exact Ev.succ (fun k => by simp only [spec_cnChains.l2]; rw [if_pos (by rw [hb]; omega), if_pos (by omega), if_pos (by rw [hb]; omega), if_pos e, hws]) hn
    · have e2 : rd o p ≠ (j : Int) := fun h => e (hbo.2 h)
      have e3 : (if 0 ≤ rd o p ∧ rd o p < (j : Int) + 1 then rd o p else -1) = if 0 ≤ rd o p ∧ rd o p < (j : Int) then rd o p else -1 := by
        by_cases h1 : 0 ≤ rd o p ∧ rd o p < (j : Int)
        · rw [if_pos h1, if_pos (by omega)]
        · rw [if_neg h1, if_neg (by omega)]
      rw [e3] at hn
      exact Ev.succ (fun k => by simp only [spec_cnChains.l2]; rw [if_pos (by rw [hb]; omega), if_pos (by omega), if_pos (by rw [hb]; omega), if_neg e, hws]) hn
theorem way_ok {s b o : List Int} (hP : Pair s.length b o) (hlen : s.length ≤ 1024) {acc : List (List Int)} (hacc : acc.length ≤ 1024) {i : Nat} (hi : i < s.length) {r : List (List Int)} : ∀ (f p : Nat) (ch : List Int), p < s.length → s.length - p ≤ f → ch.length + f ≤ 4096 → Ev (fun k => spec_cnChains.l0 k s b (acc ++ [ch ++ chainO s o f p]) s.length ((i : Int) + 1)) r → Ev (fun k => spec_cnChains.l1 k s b acc ch p s.length i) r
  | 0, p, ch, hp, hf, hc, h => by omega
  | f + 1, p, ch, hp, hf, hc, h => by
    have hws : wrap64 ((i : Int) + 1) = i + 1 := wrap_succ (by omega) (by omega)
    have hro := hP.ro p hp
    refine Ev.succ (fun k => by simp only [spec_cnChains.l1]; rw [if_pos (by omega)]) ?_
    have key := nxt_ok (acc := acc) (ch := ch) (i := (i : Int)) (r := r) hP hlen hp (by omega) (by
      by_cases h0 : 0 ≤ rd o p
      · refine Ev.to (fun k => by rw [if_pos h0]) ?_
        obtain ⟨q, hq, e⟩ := nat_of h0 hro.2
        have hup := hP.up p hp h0
        unfold chainO at h
        rw [if_pos h0] at h
        rw [e] at h hup ⊢
        refine way_ok hP hlen hacc hi f q (ch ++ [rd s q]) hq (by omega) (by rw [List.length_append, List.length_singleton]; omega) ?_
        rw [List.append_assoc]
        exact h
      · refine Ev.to (fun k => by rw [if_neg h0]) ?_
        unfold chainO at h
        rw [if_neg h0, List.append_nil] at h
        exact Ev.succ (fun k => by simp only [spec_cnChains.l1]; rw [if_neg (by decide), if_pos (by omega), hws]) h) s.length 0 (by omega) (Nat.zero_le _)
    rw [if_neg (by omega)] at key
    exact key
theorem chs_ok {s b o : List Int} (hP : Pair s.length b o) (hlen : s.length ≤ 1024) : ∀ (d i : Nat) (acc : List (List Int)), s.length - i = d → i ≤ s.length → acc.length ≤ i → Ev (fun k => spec_cnChains.l0 k s b acc s.length i) (acc ++ chainsFrom s b o d i)
  | 0, i, acc, hd, hi, ha => Ev.succ (fun k => by simp only [spec_cnChains.l0]; rw [if_neg (by omega)]) (Ev.const (by unfold chainsFrom; rw [List.append_nil]))
  | d + 1, i, acc, hd, hi, ha => by
    have hb := hP.lb
    have hn := fun acc' h' => chs_ok hP hlen d (i + 1) acc' (by omega) (by omega) h'
    push_cast at hn
    have hws : wrap64 ((i : Int) + 1) = i + 1 := wrap_succ (by omega) (by omega)
    unfold chainsFrom
    by_cases h0 : rd b i < 0
    · rw [if_pos h0]
      refine Ev.succ (fun k => by simp only [spec_cnChains.l0]; rw [if_pos (by omega), if_pos (by omega), if_pos (by rw [hb]; omega), if_neg (by omega), if_pos (by omega)]) ?_
      refine way_ok (acc := acc) hP hlen (by omega) (by omega) s.length i [rd s i] (by omega) (by omega) (by rw [List.length_singleton]; omega) ?_
      have := hn (acc ++ [[rd s i] ++ chainO s o s.length i]) (by rw [List.length_append, List.length_singleton]; omega)
      rw [List.append_assoc] at this
      exact this
    · rw [if_neg h0]
      exact Ev.succ (fun k => by simp only [spec_cnChains.l0]; rw [if_pos (by omega), if_pos (by omega), if_pos (by rw [hb]; omega), if_pos (by omega), hws]) (hn acc (by omega))
theorem cnChains_ok {s b o : List Int} (hP : Pair s.length b o) (hlen : s.length ≤ 1024) (hb : Ev (fun k => spec_cnMatch.f k s) b) : Ev (fun k => spec_cnChains.f k s) (chainsFrom s b o s.length 0) := by
  unfold spec_cnChains.f
  refine Ev.bind hb ?_
  exact chs_ok hP hlen s.length 0 [] (by omega) (Nat.zero_le _) (Nat.le_refl _)

end Go.Proofs.Ytkepeflplmkcmaa.Q
