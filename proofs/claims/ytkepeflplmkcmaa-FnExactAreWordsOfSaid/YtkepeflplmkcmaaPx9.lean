/- Contracts of functions that the laws reach: a call returns what the plain Lean function of the same name tells. Conditions: those of each theorem. Made by gen.py, a program of this session, over the print of the translation. -/
import Derived.Test.YtkepeflplmkcmaaPx0
import Derived.Test.YtkepeflplmkcmaaPx1
import Derived.Test.YtkepeflplmkcmaaPx2
import Derived.Test.YtkepeflplmkcmaaPx7
import Derived.Test.YtkepeflplmkcmaaPx8
import Derived.Shelf.Abstract
import Derived.Shelf.SlSortCmp.NoneTotal
import Derived.Lib.SliceRun
namespace Go.Proofs.Ytkepeflplmkcmaa.Q
open Go.RowKit Go.Proofs.YtkepeflplmkcmaaW.PrintWords Go.Proofs.YtkepeflplmkcmaaW.PrintLast Go.Proofs.YtkepeflplmkcmaaW.PrintMore
attribute [local go_sem] max2_int min2_int max_two min_two max_three min_three max_four min_four   -- for this text's walks alone
set_option linter.unusedVariables false
set_option linter.unusedSimpArgs false

/-! ### slices_Compare_int_int: function 90 -/
def slices_Compare_int_int.l0 : Nat → List Int → List Int → List Int → Int → Int → Option (Int)
 | 0, _, _, _, _, _ => none
 | k + 1, x0, x1, x9, x10, x11 => if x11 < x10 then (if 0 ≤ x11 then (if x11 < (x9.length : Int) then (if x11 ≥ (x1.length : Int) then (some 1) else (if x11 < (x1.length : Int) then ((cmp_Compare_int.f (rd x9 x11) (rd x1 x11)).bind fun t103 => (if t103 = 0 then (slices_Compare_int_int.l0 k x0 x1 x9 x10 (wrap64 (x11 + 1))) else (some t103))) else (none))) else (none)) else (none)) else (if (x0.length : Int) < (x1.length : Int) then (some (-1)) else (some 0))
def slices_Compare_int_int.f (k : Nat) (l0 : List Int) (l1 : List Int) : Option (Int) := slices_Compare_int_int.l0 k l0 l1 l0 (l0.length : Int) 0
theorem slices_Compare_int_int.mono_l : ∀ k, (∀ y0 y1 y2 y3 y4, LeO (slices_Compare_int_int.l0 k y0 y1 y2 y3 y4) (slices_Compare_int_int.l0 (k + 1) y0 y1 y2 y3 y4))
 | 0 => fun _ _ _ _ _ r h => by simp [slices_Compare_int_int.l0] at h
 | k + 1 => by
  have ih0 := slices_Compare_int_int.mono_l k
  ·
   intro y0 y1 y2 y3 y4
   unfold slices_Compare_int_int.l0
   repeat' first
   | (with_reducible exact ih0 _ _ _ _ _)
   | (with_reducible exact LeO.refl _)
   | (with_reducible exact LeO.none _)
   | (with_reducible refine LeO.ite ?_ ?_)
   | (with_reducible refine LeO.bind ?_ (fun _ => ?_))
   | exact ih0 _ _ _ _ _
   | exact LeO.none _
   | refine LeO.ite ?_ ?_
   | refine LeO.bind ?_ (fun _ => ?_)
theorem slices_Compare_int_int.mono : ∀ a0 a1 k, LeO (slices_Compare_int_int.f k a0 a1) (slices_Compare_int_int.f (k + 1) a0 a1) := by
 intro a0 a1 k
 have ih0 := slices_Compare_int_int.mono_l k
 unfold slices_Compare_int_int.f
 repeat' first
   | (with_reducible exact ih0 _ _ _ _ _)
   | (with_reducible exact LeO.refl _)
   | (with_reducible exact LeO.none _)
   | (with_reducible refine LeO.ite ?_ ?_)
   | (with_reducible refine LeO.bind ?_ (fun _ => ?_))
   | exact ih0 _ _ _ _ _
   | exact LeO.none _
   | refine LeO.ite ?_ ?_
   | refine LeO.bind ?_ (fun _ => ?_)
set_option maxHeartbeats 8000000 in
set_option maxRecDepth 100000 in
theorem slices_Compare_int_int.calls (k : Nat) (A0 : Option Addr) (c0 : Nat) (l0 : List Int) (A1 : Option Addr) (c1 : Nat) (l1 : List Int) (r : Int) (w : World) (hr0 : Kd.C (Kd.int .i64) w A0 l0.length l0) (hc0 : l0.length ≤ c0) (hr1 : Kd.C (Kd.int .i64) w A1 l1.length l1) (hc1 : l1.length ≤ c1) (h : slices_Compare_int_int.f k l0 l1 = some r) :
  Calls Try.prog 90 #[.slice A0 l0.length c0, .slice A1 l1.length c1] w fun e w' => e = .returned (.int .i64 r) ∧ Drawn0 w w' := by
 have HR0 := asd hr0
 have HC0 := asd hc0
 clear hr0 hc0
 have HR1 := asd hr1
 have HC1 := asd hc1
 clear hr1 hc1
 have H : (slices_Compare_int_int.l0 k l0 l1 l0 (l0.length : Int) 0) = some r := h
 clear h
 have H' := asd H
 clear H
 go_enter Try.func90, Try.ntmps90
 go_wp2
 go_loopg [11] k (fun kq v11 w' => ∃ (x11_1 : Int), v11 = .int .i64 x11_1 ∧ Aside0 (slices_Compare_int_int.l0 kq l0 l1 l0 (l0.length : Int) x11_1 = some r) ∧ Aside0 (kq ≤ k) ∧ Drawn0 w w')
 case atStart => exact ⟨(0), (by first | rfl | (simp; done) | (simp [*]; done)), H', ⟨Nat.le_refl _⟩, by repeat (first | exact Drawn0.refl _ | apply Drawn0.step)⟩
 case round =>
  clear H'
  try clear c1
  try clear p2
  skip
  obtain ⟨x11_1, rfl, HA, HK1, ⟨m1, rfl⟩⟩ := hrel
  cases gk with
  | zero => exact absurd HA.out (by simp [slices_Compare_int_int.l0])
  | succ k1 =>
   have H := HA.out
   clear HA
   simp only [slices_Compare_int_int.l0] at H
   by_cases c3 : x11_1 < (l0.length : Int)
   ·
    rw [if_pos c3] at H
    have c3b0 : decide (x11_1 < (l0.length : Int)) = true := decide_eq_true c3
    clear c3
    by_cases c4 : 0 ≤ x11_1
    ·
     rw [if_pos c4] at H
     have c4b0 : decide (0 ≤ x11_1) = true := decide_eq_true c4
     clear c4
     by_cases c5 : x11_1 < (l0.length : Int)
     ·
      rw [if_pos c5] at H
      have c5b0 : decide (x11_1 < (l0.length : Int)) = true := decide_eq_true c5
      clear c5
      by_cases c6 : x11_1 ≥ (l1.length : Int)
      ·
       rw [if_pos c6] at H
       have c6b0 : decide ((l1.length : Int) ≤ x11_1) = true := decide_eq_true c6
       clear c6
       obtain rfl := Option.some.inj H
       have p101 : 0 ≤ (x11_1 : Int) := of_decide_eq_true (by first | (with_reducible assumption) | assumption)
       have q101 : x11_1 < (l0.length : Int) := of_decide_eq_true (by first | (with_reducible assumption) | assumption)
       obtain ⟨ad101, e101, hx101_0⟩ := Kd.at_int HR0.out x11_1 p101 q101
       cases e101
       replace p101 := eq_true p101
       replace q101 := eq_true q101
       go_wp2
       go_ret
       exact ⟨by first | rfl | (simp; done) | (simp [*]; done), by repeat (first | exact Drawn0.refl _ | apply Drawn0.step)⟩
      ·
       rw [if_neg c6] at H
       have c6b0 : decide ((l1.length : Int) ≤ x11_1) = false := decide_eq_false c6
       clear c6
       by_cases c7 : x11_1 < (l1.length : Int)
       ·
        rw [if_pos c7] at H
        have c7b0 : decide (x11_1 < (l1.length : Int)) = true := decide_eq_true c7
        clear c7
        replace H := Option.bind_eq_some_iff.mp H
        obtain ⟨t103, A80, H⟩ := H
        replace H : (if t103 = 0 then (slices_Compare_int_int.l0 k1 l0 l1 l0 (l0.length : Int) (wrap64 (x11_1 + 1))) else (some t103)) = some r := H
        have A8 := asd A80
        clear A80
        by_cases c9 : t103 = 0
        ·
         rw [if_pos c9] at H
         have c9b0 : (t103 == 0) = true := beq_iff_eq.mpr c9
         have c9b1 : (t103 != 0) = false := bne_eq_false_iff_eq.mpr c9
         clear c9
         have H' := asd H
         clear H
         have p101 : 0 ≤ (x11_1 : Int) := of_decide_eq_true (by first | (with_reducible assumption) | assumption)
         have q101 : x11_1 < (l0.length : Int) := of_decide_eq_true (by first | (with_reducible assumption) | assumption)
         obtain ⟨ad101, e101, hx101_0⟩ := Kd.at_int HR0.out x11_1 p101 q101
         cases e101
         replace p101 := eq_true p101
         replace q101 := eq_true q101
         have p102 : 0 ≤ (x11_1 : Int) := of_decide_eq_true (by first | (with_reducible assumption) | assumption)
         have q102 : x11_1 < (l1.length : Int) := of_decide_eq_true (by first | (with_reducible assumption) | assumption)
         obtain ⟨ad102, e102, hx102_0⟩ := Kd.at_int HR1.out x11_1 p102 q102
         cases e102
         replace p102 := eq_true p102
         replace q102 := eq_true q102
         go_wp2_with (first | ((with_reducible refine gate_callee (f := 129) rfl ?_); refine goesL_ (some 26) rfl rfl Try.func129 (by kernel_rfl) rfl #[.int .i64 (rd l0 x11_1), .int .i64 (rd l1 x11_1)] rfl (by (try simp only [List.map_toArray, List.map_cons, List.map_nil]); first | done | rfl | (simp only [List.length_drop, List.length_take]; rfl)) ?_; (with_reducible refine (cmp_Compare_int.calls (rd l0 x11_1) (rd l1 x11_1) t103 _ A8.out).mono ?_); rintro e w' ⟨rfl, ⟨nd, rfl⟩⟩; refine ⟨_, rfl, ?_⟩))
         go_roundg k1
         case measure => have := HK1.out; omega
         case rel => exact ⟨(wrap64 (x11_1 + 1)), (by first | rfl | (simp; done) | (simp [*]; done)), H', ⟨by have := HK1.out; omega⟩, by repeat (first | exact Drawn0.refl _ | apply Drawn0.step)⟩
        ·
         rw [if_neg c9] at H
         have c9b0 : (t103 == 0) = false := beq_eq_false_iff_ne.mpr c9
         have c9b1 : (t103 != 0) = true := bne_iff_ne.mpr c9
         obtain rfl := Option.some.inj H
         have p101 : 0 ≤ (x11_1 : Int) := of_decide_eq_true (by first | (with_reducible assumption) | assumption)
         have q101 : x11_1 < (l0.length : Int) := of_decide_eq_true (by first | (with_reducible assumption) | assumption)
         obtain ⟨ad101, e101, hx101_0⟩ := Kd.at_int HR0.out x11_1 p101 q101
         cases e101
         replace p101 := eq_true p101
         replace q101 := eq_true q101
         have p102 : 0 ≤ (x11_1 : Int) := of_decide_eq_true (by first | (with_reducible assumption) | assumption)
         have q102 : x11_1 < (l1.length : Int) := of_decide_eq_true (by first | (with_reducible assumption) | assumption)
         obtain ⟨ad102, e102, hx102_0⟩ := Kd.at_int HR1.out x11_1 p102 q102
         cases e102
         replace p102 := eq_true p102
         replace q102 := eq_true q102
         go_wp2_with (first | ((with_reducible refine gate_callee (f := 129) rfl ?_); refine goesL_ (some 26) rfl rfl Try.func129 (by kernel_rfl) rfl #[.int .i64 (rd l0 x11_1), .int .i64 (rd l1 x11_1)] rfl (by (try simp only [List.map_toArray, List.map_cons, List.map_nil]); first | done | rfl | (simp only [List.length_drop, List.length_take]; rfl)) ?_; (with_reducible refine (cmp_Compare_int.calls (rd l0 x11_1) (rd l1 x11_1) t103 _ A8.out).mono ?_); rintro e w' ⟨rfl, ⟨nd, rfl⟩⟩; refine ⟨_, rfl, ?_⟩))
         go_ret
         exact ⟨by first | rfl | (simp; done) | (simp [*]; done), by repeat (first | exact Drawn0.refl _ | apply Drawn0.step)⟩
       ·
        rw [if_neg c7] at H
        exact absurd H (by simp)
     ·
      rw [if_neg c5] at H
      exact absurd H (by simp)
    ·
     rw [if_neg c4] at H
     exact absurd H (by simp)
   ·
    rw [if_neg c3] at H
    have c3b0 : decide (x11_1 < (l0.length : Int)) = false := decide_eq_false c3
    clear c3
    by_cases c10 : (l0.length : Int) < (l1.length : Int)
    ·
     rw [if_pos c10] at H
     have c10b0 : decide ((l0.length : Int) < (l1.length : Int)) = true := decide_eq_true c10
     have c10b1 : decide (l0.length < l1.length) = true := decide_eq_true (Int.ofNat_lt.mp c10)
     clear c10
     obtain rfl := Option.some.inj H
     go_wp2
     go_ret
     exact ⟨by first | rfl | (simp; done) | (simp [*]; done), by repeat (first | exact Drawn0.refl _ | apply Drawn0.step)⟩
    ·
     rw [if_neg c10] at H
     have c10b0 : decide ((l0.length : Int) < (l1.length : Int)) = false := decide_eq_false c10
     have c10b1 : decide (l0.length < l1.length) = false := decide_eq_false (fun h => c10 (Int.ofNat_lt.mpr h))
     clear c10
     obtain rfl := Option.some.inj H
     go_wp2
     go_ret
     exact ⟨by first | rfl | (simp; done) | (simp [*]; done), by repeat (first | exact Drawn0.refl _ | apply Drawn0.step)⟩

-- HAND with slices.Compare[[]int,int]+cmp.Compare[int]
theorem sCompare_loop (a b : List Int) (hla : a.length < 9223372036854775807) : ∀ (s t pre : List Int), a = pre ++ s → b = pre ++ t → Ev (fun k => slices_Compare_int_int.l0 k a b a (a.length : Int) (pre.length : Int)) (cmpL s t)
  | [], t, pre, ha, hb => by
    have h1 : a.length = pre.length := by rw [ha, List.append_nil]
    have h2 : b.length = pre.length + t.length := by rw [hb, List.length_append]
    cases t with
    | nil => exact Ev.succ (g := fun _ => some (0 : Int)) (fun k => by simp only [slices_Compare_int_int.l0]; rw [if_neg (by omega), if_neg (by rw [List.length_nil] at h2; omega)]) (Ev.const (show some (0 : Int) = some (cmpL [] []) from rfl))
    | cons y t => exact Ev.succ (g := fun _ => some (-1 : Int)) (fun k => by simp only [slices_Compare_int_int.l0]; rw [if_neg (by omega), if_pos (by rw [List.length_cons] at h2; omega)]) (Ev.const (show some (-1 : Int) = some (cmpL [] (y :: t)) from rfl))
  | x :: s, [], pre, ha, hb => by
    have h1 : a.length = pre.length + (s.length + 1) := by rw [ha, List.length_append, List.length_cons]
    have h2 : b.length = pre.length := by rw [hb, List.append_nil]
    exact Ev.succ (g := fun _ => some (1 : Int)) (fun k => by simp only [slices_Compare_int_int.l0]; rw [if_pos (by omega), if_pos (by omega), if_pos (by omega), if_pos (by omega)]) (Ev.const (show some (1 : Int) = some (cmpL (x :: s) []) from rfl))
  | x :: s, y :: t, pre, ha, hb => by
    have h1 : a.length = pre.length + (s.length + 1) := by rw [ha, List.length_append, List.length_cons]
    have h2 : b.length = pre.length + (t.length + 1) := by rw [hb, List.length_append, List.length_cons]
    have r1 : rd a (pre.length : Int) = x := by rw [ha]; exact rd_append pre s x
    have r2 : rd b (pre.length : Int) = y := by rw [hb]; exact rd_append pre t y
    have hc : cmp_Compare_int.f x y = some (if x < y then -1 else if x > y then 1 else 0) := by
      unfold cmp_Compare_int.f cmp_isNaN_int.f
      have e1 : (x != x) = false := by simp
      have e2 : (y != y) = false := by simp
      rw [e1, e2]
      show (if x < y then some (-1) else if x > y then some 1 else some 0) = _
      split
      · rfl
      · split <;> rfl
    refine Ev.succ (fun k => by simp only [slices_Compare_int_int.l0]; rw [if_pos (by omega), if_pos (by omega), if_pos (by omega), if_neg (by omega), if_pos (by omega), r1, r2]) ?_
    refine Ev.bindc hc ?_
    by_cases k1 : x < y
    · exact Ev.val (Ev.to (g := fun _ => some (-1 : Int)) (fun k => by rw [if_pos k1, if_neg (by decide)]) (Ev.const rfl)) (show (-1 : Int) = (if x < y then (-1 : Int) else if y < x then 1 else cmpL s t) by rw [if_pos k1])
    · by_cases k2 : y < x
      · exact Ev.val (Ev.to (g := fun _ => some (1 : Int)) (fun k => by rw [if_neg k1, if_pos k2, if_neg (by decide)]) (Ev.const rfl)) (show (1 : Int) = (if x < y then (-1 : Int) else if y < x then 1 else cmpL s t) by rw [if_neg k1, if_pos k2])
      · obtain rfl : x = y := by omega
        have hn := sCompare_loop a b hla s t (pre ++ [x]) (by rw [ha, List.append_assoc]; rfl) (by rw [hb, List.append_assoc]; rfl)
        rw [List.length_append, List.length_singleton] at hn
        push_cast at hn
        have e0 : (if x < x then (-1 : Int) else if x > x then 1 else 0) = 0 := by rw [if_neg (Int.lt_irrefl x), if_neg (Int.lt_irrefl x)]
        exact Ev.val (Ev.to (g := fun k => slices_Compare_int_int.l0 k a b a (a.length : Int) ((pre.length : Int) + 1)) (fun k => by rw [e0, if_pos rfl, wrap_succ (by omega) (by omega)]) hn) (show cmpL s t = (if x < x then (-1 : Int) else if x < x then 1 else cmpL s t) by rw [if_neg (Int.lt_irrefl x), if_neg (Int.lt_irrefl x)])
theorem sCompare_ok (a b : List Int) (hla : a.length < 9223372036854775807) : Ev (fun k => slices_Compare_int_int.f k a b) (cmpL a b) := by
  unfold slices_Compare_int_int.f
  exact sCompare_loop a b hla a b [] rfl rfl

-- HAND slices_SortFunc_int_int: function 89
open Go.Shelf Go.Sort Go.Lib in
def sortRow_ren : Go.Shelf.Ren := ⟨fun | 6 => 89 | 15 => 128 | 14 => 127 | 28 => 147 | 29 => 148 | 20 => 139 | 21 => 140 | 22 => 141 | 23 => 142 | 24 => 143 | 25 => 144 | 26 => 145 | 27 => 146 | 46 => 154 | 47 => 155 | 48 => 156 | 49 => 157 | 50 => 158 | 57 => 161 | n => n, fun | 22 => 40 | 24 => 22 | 25 => 97 | 3 => 3 | 39 => 123 | 0 => 0 | 53 => 141 | 55 => 143 | 4 => 4 | 46 => 135 | 45 => 134 | 50 => 26 | 5 => 5 | 9 => 9 | 66 => 147 | 70 => 151 | 76 => 157 | 77 => 58 | n => n, fun | n => n⟩
open Go.Shelf Go.Sort Go.Lib in
theorem sortRow : Go.Proofs.SlLaysF.n6 Try.prog sortRow_ren := {
 mixed := by kernel_rfl,
 f6 := ⟨Try.f89.name, by decide, Try.func89.trans (congrArg some (by kernel_rfl))⟩,
 f14 := ⟨Try.f127.name, by decide, Try.func127.trans (congrArg some (by kernel_rfl))⟩,
 f15 := Try.func128.trans (congrArg some (by kernel_rfl)),
 f20 := ⟨Try.f139.name, by decide, Try.func139.trans (congrArg some (by kernel_rfl))⟩,
 f21 := ⟨Try.f140.name, by decide, Try.func140.trans (congrArg some (by kernel_rfl))⟩,
 f22 := ⟨Try.f141.name, by decide, Try.func141.trans (congrArg some (by kernel_rfl))⟩,
 f23 := ⟨Try.f142.name, by decide, Try.func142.trans (congrArg some (by kernel_rfl))⟩,
 f24 := ⟨Try.f143.name, by decide, Try.func143.trans (congrArg some (by kernel_rfl))⟩,
 f25 := ⟨Try.f144.name, by decide, Try.func144.trans (congrArg some (by kernel_rfl))⟩,
 f26 := ⟨Try.f145.name, by decide, Try.func145.trans (congrArg some (by kernel_rfl))⟩,
 f27 := ⟨Try.f146.name, by decide, Try.func146.trans (congrArg some (by kernel_rfl))⟩,
 f28 := Try.func147.trans (congrArg some (by kernel_rfl)),
 f29 := Try.func148.trans (congrArg some (by kernel_rfl)),
 f46 := ⟨Try.f154.name, by decide, Try.func154.trans (congrArg some (by kernel_rfl))⟩,
 f47 := Try.func155.trans (congrArg some (by kernel_rfl)),
 f48 := Try.func156.trans (congrArg some (by kernel_rfl)),
 f49 := ⟨Try.f157.name, by decide, Try.func157.trans (congrArg some (by kernel_rfl))⟩,
 f50 := ⟨Try.f158.name, by decide, Try.func158.trans (congrArg some (by kernel_rfl))⟩,
 f57 := ⟨Try.f161.name, by decide, Try.func161.trans (congrArg some (by kernel_rfl))⟩,
 t0 := Try.underlying0,
 a0 := Try.isAgg0,
 z0 := Try.sizeOf0,
 v0 := Try.zeroValue0,
 t3 := Try.underlying3,
 a3 := Try.isAgg3,
 z3 := Try.sizeOf3,
 v3 := Try.zeroValue3,
 t4 := Try.underlying4,
 a4 := Try.isAgg4,
 z4 := Try.sizeOf4,
 v4 := Try.zeroValue4,
 t5 := Try.underlying5,
 a5 := Try.isAgg5,
 z5 := Try.sizeOf5,
 v5 := Try.zeroValue5,
 t9 := Try.underlying9,
 a9 := Try.isAgg9,
 z9 := Try.sizeOf9,
 v9 := Try.zeroValue9,
 t22 := Try.underlying40,
 a22 := Try.isAgg40,
 z22 := Try.sizeOf40,
 v22 := Try.zeroValue40,
 a24 := Try.isAgg22,
 z24 := Try.sizeOf22,
 t25 := Try.underlying97,
 a25 := Try.isAgg97,
 z25 := Try.sizeOf97,
 v25 := Try.zeroValue97,
 t39 := Try.underlying123,
 a39 := Try.isAgg123,
 z39 := Try.sizeOf123,
 v39 := Try.zeroValue123,
 t45 := Try.underlying134,
 a45 := Try.isAgg134,
 z45 := Try.sizeOf134,
 v45 := Try.zeroValue134,
 t46 := Try.underlying135,
 a46 := Try.isAgg135,
 z46 := Try.sizeOf135,
 v46 := Try.zeroValue135,
 t50 := Try.underlying26,
 a50 := Try.isAgg26,
 z50 := Try.sizeOf26,
 v50 := Try.zeroValue26,
 t53 := Try.underlying141,
 a53 := Try.isAgg141,
 z53 := Try.sizeOf141,
 v53 := Try.zeroValue141,
 t55 := Try.underlying143,
 a55 := Try.isAgg143,
 z55 := Try.sizeOf143,
 v55 := Try.zeroValue143,
 t66 := Try.underlying147,
 a66 := Try.isAgg147,
 z66 := Try.sizeOf147,
 v66 := Try.zeroValue147,
 t70 := Try.underlying151,
 a70 := Try.isAgg151,
 z70 := Try.sizeOf151,
 v70 := Try.zeroValue151,
 t76 := Try.underlying157,
 a76 := Try.isAgg157,
 z76 := Try.sizeOf157,
 v76 := Try.zeroValue157,
 t77 := Try.underlying58,
 a77 := Try.isAgg58,
 z77 := Try.sizeOf58,
 v77 := Try.zeroValue58 }
/-- A row of headers, read and not frozen. -/
def HoldN (w : World) (b : Nat) (Ad : Nat → Option Addr) (cp : Nat → Nat) (ws : List (List Int)) (L : List Nat) : Prop := ∀ j, j < L.length → w.cell? ⟨b, j, none⟩ = some (hdW Ad cp ws (L.getD j 0)) ∧ w.frozen? ⟨b, j, none⟩ = false
theorem HoldN.of_R {w : World} {base b cap : Nat} {ok : Nat → Prop} {Ad : Nat → Option Addr} {cp : Nat → Nat} {ws : List (List Int)} {L : List Nat} (h : Kd.R (KW Ad cp ws) 22 w base ok (.slice (some ⟨b, 0, none⟩) L.length cap) L) : HoldN w b Ad cp ws L := fun j hj => by
 have h1 := Kd.R_celln 0 h (j : Int) (by omega) (by omega)
 rw [Int.toNat_natCast] at h1
 exact h1
open Go.Shelf Go.Sort Go.Lib in
theorem below_sort {α : Type} [Inhabited α] {w0 w : World} (h : Below w0.heap.size w0 w) (enc : α → Value) {blk : Nat} (hb : w0.heap.size ≤ blk) (off m : Nat) (dk : Array α) (os : Array Obj) : Below w0.heap.size w0 (sortWorld enc w blk off m dk os) := by
 refine ⟨h.os, h.tape, h.output, ?_, fun k hk => ?_⟩
 ·
  show w0.heap.size ≤ ((w.heap.modify blk _) ++ os).size
  rw [Array.size_append, Array.size_modify]
  have := h.size
  omega
 ·
  show ((w.heap.modify blk _) ++ os)[k]? = _
  have hs := h.size
  rw [Array.getElem?_append_left (by rw [Array.size_modify]; omega), Array.getElem?_modify, if_neg (by omega)]
  exact h.block k hk
open Go.Sort Go.Lib in
theorem swo_cmp (ws : List (List Int)) (m : Nat) : SWO (ltOf fun (i j : Fin (m + 1)) => cmpL (ws.getD i.val []) (ws.getD j.val [])) := by
 refine ⟨fun x => ?_, fun x y z h1 h2 => ?_, fun x y z h1 h2 => ?_⟩
 ·
  unfold ltOf
  show decide (cmpL _ _ < 0) = false
  rw [cmpL_self]
  rfl
 ·
  unfold ltOf at *
  exact decide_eq_true (cmpL_trans _ _ _ (of_decide_eq_true h1) (of_decide_eq_true h2))
 ·
  unfold ltOf at *
  exact decide_eq_false (cmpL_ntrans _ _ _ (of_decide_eq_false h1) (of_decide_eq_false h2))
open Go.Shelf Go.Sort Go.Lib in
theorem slices_SortFunc_int_int.calls {w0 w : World} (Ad : Nat → Option Addr) (cp : Nat → Nat) (ws : List (List Int)) (hR : RdW w0 Ad cp ws) (hb0 : Below w0.heap.size w0 w) (b cap : Nat) (L : List Nat) (hL : ∀ i ∈ L, i < ws.length) (hrow : Kd.R (KW Ad cp ws) 22 w w0.heap.size (fun _ => True) (.slice (some ⟨b, 0, none⟩) L.length cap) L) (hpos : 0 < L.length) (hlen : ∀ i, i < ws.length → (ws.getD i []).length < 9223372036854775807) (hbig : L.length < 1048576) :
  Calls Try.prog 89 #[.slice (some ⟨b, 0, none⟩) L.length cap, .func (.func 90) #[] #[]] w fun e w' => e = .returned (.tuple #[]) ∧ ∃ L' : List Nat, L'.Perm L ∧ (L'.map fun i => ws.getD i []).Pairwise (fun x y => ¬cmpL y x < 0) ∧ HoldN w' b Ad cp ws L' ∧ Below w0.heap.size w0 w' := by
 obtain ⟨m, hm⟩ : ∃ m, ws.length = m + 1 := ⟨ws.length - 1, by
  have h0 := hL _ (List.getElem_mem hpos)
  omega⟩
 have hb1 : w0.heap.size ≤ b := Kd.R_base hrow b rfl
 have hb2 : b < w.heap.size := Kd.R_lt hrow b rfl
 have hH := HoldN.of_R hrow
 let enc : Fin (m + 1) → Value := fun i => hdW Ad cp ws i.val
 let cf : Fin (m + 1) → Fin (m + 1) → Int := fun i j => cmpL (ws.getD i.val []) (ws.getD j.val [])
 let d : Array (Fin (m + 1)) := (L.map fun i => Fin.ofNat (m + 1) i).toArray
 have hds : d.size = L.length := by simp [d]
 have hdv : d.toList.map (fun i => i.val) = L := by
  simp only [d, List.map_map]
  conv => rhs; rw [← List.map_id L]
  refine List.map_congr_left fun i hi => ?_
  have := hL i hi
  show i % (m + 1) = i
  exact Nat.mod_eq_of_lt (by omega)
 have hget : ∀ (x : Array (Fin (m + 1))) (j : Nat), j < x.size → (x[j]!).val = (x.toList.map fun i => i.val).getD j 0 := by
  intro x j hj
  rw [getElem!_pos x j hj]
  simp [List.getD, hj]
 have hHd : Holds enc w b 0 d := fun j hj => by
  rw [Nat.zero_add]
  have h1 := hH j (by omega)
  refine ⟨?_, h1.2⟩
  rw [h1.1]
  show some (hdW Ad cp ws _) = some (hdW Ad cp ws _)
  rw [hget d j hj, hdv]
 have hcmp : CmpReads Try.prog 90 #[] enc cf b 0 d.size w := by
  intro q os dk hdk x y
  have hbl := below_sort hb0 enc hb1 0 q dk os
  have hx := hR x.val (by have := x.isLt; omega)
  have hy := hR y.val (by have := y.isLt; omega)
  obtain ⟨k, hk⟩ := sCompare_ok (ws.getD x.val []) (ws.getD y.val []) (hlen _ (by have := x.isLt; omega))
  refine (slices_Compare_int_int.calls k (Ad x.val) (cp x.val) (ws.getD x.val []) (Ad y.val) (cp y.val) (ws.getD y.val []) _ _ (Kd.C_below hx.1 hbl) hx.2 (Kd.C_below hy.1 hbl) hy.2 (hk k (Nat.le_refl _))).mono ?_
  rintro e w' ⟨rfl, ⟨nd, rfl⟩⟩
  exact ⟨rfl, nd, rfl⟩
 have eg : ∀ args w, (callFunc 90 args).run Try.prog w = .ok (.enter 90 args) w := enters_of Try.func90 (by kernel_rfl) rfl
 have hcon := Any.slices_SortFunc sortRow enc (fun _ => rfl) cf (swo_cmp ws m) 90 #[] b 0 cap d w eg hcmp.lays hHd hb2 (by omega)
 rw [hds] at hcon
 refine Calls.mono hcon ?_
 rintro e w' ⟨rfl, d', q, os, hp, hs, rfl⟩
 have hps : d'.size = L.length := hp.1.trans hds
 refine ⟨rfl, d'.toList.map (fun i => i.val), ?_, ?_, ?_, below_sort hb0 enc hb1 0 q d' os⟩
 ·
  have h1 := hp.2.2
  rw [show d.extract 0 L.length = d by rw [← hds]; exact Array.extract_size, show d'.extract 0 L.length = d' by rw [← hps]; exact Array.extract_size] at h1
  have h2 := h1.map (fun i => i.val)
  rw [hdv] at h2
  exact h2
 ·
  rw [List.pairwise_iff_getElem]
  intro i j hi hj hij
  simp only [List.length_map, Array.length_toList] at hi hj
  have h1 := hs i j (Nat.zero_le _) hij (by omega)
  have h2 : ¬cf d'[j]! d'[i]! < 0 := of_decide_eq_false h1
  rw [getElem!_pos d' j hj, getElem!_pos d' i hi] at h2
  simp only [List.getElem_map, Array.getElem_toList]
  exact h2
 ·
  intro j hj
  have hj2 : j < d'.size := by simpa using hj
  have h1 := holds_sortWorld enc w b 0 q d d' os hb2 hHd hp.1 j hj2
  rw [Nat.zero_add] at h1
  refine ⟨?_, h1.2⟩
  rw [h1.1]
  show some (hdW Ad cp ws _) = some (hdW Ad cp ws _)
  rw [hget d' j hj2]

/-! ### slices_Equal_int_int: function 92 -/
def slices_Equal_int_int.l0 : Nat → List Int → List Int → Int → Int → Option (Bool)
 | 0, _, _, _, _ => none
 | k + 1, x0, x1, x12, x13 => if x13 < x12 then (if 0 ≤ x13 then (if x13 < (x0.length : Int) then (if x13 < (x1.length : Int) then (if (rd x0 x13) = (rd x1 x13) then (slices_Equal_int_int.l0 k x0 x1 x12 (wrap64 (x13 + 1))) else (some false)) else (none)) else (none)) else (none)) else (some true)
def slices_Equal_int_int.f (k : Nat) (l0 : List Int) (l1 : List Int) : Option (Bool) := if (l0.length : Int) = (l1.length : Int) then (slices_Equal_int_int.l0 k l0 l1 (l0.length : Int) 0) else (some false)
theorem slices_Equal_int_int.mono_l : ∀ k, (∀ y0 y1 y2 y3, LeO (slices_Equal_int_int.l0 k y0 y1 y2 y3) (slices_Equal_int_int.l0 (k + 1) y0 y1 y2 y3))
 | 0 => fun _ _ _ _ r h => by simp [slices_Equal_int_int.l0] at h
 | k + 1 => by
  have ih0 := slices_Equal_int_int.mono_l k
  ·
   intro y0 y1 y2 y3
   unfold slices_Equal_int_int.l0
   repeat' first
   | (with_reducible exact ih0 _ _ _ _)
   | (with_reducible exact LeO.refl _)
   | (with_reducible exact LeO.none _)
   | (with_reducible refine LeO.ite ?_ ?_)
   | (with_reducible refine LeO.bind ?_ (fun _ => ?_))
   | exact ih0 _ _ _ _
   | exact LeO.none _
   | refine LeO.ite ?_ ?_
   | refine LeO.bind ?_ (fun _ => ?_)
theorem slices_Equal_int_int.mono : ∀ a0 a1 k, LeO (slices_Equal_int_int.f k a0 a1) (slices_Equal_int_int.f (k + 1) a0 a1) := by
 intro a0 a1 k
 have ih0 := slices_Equal_int_int.mono_l k
 unfold slices_Equal_int_int.f
 repeat' first
   | (with_reducible exact ih0 _ _ _ _)
   | (with_reducible exact LeO.refl _)
   | (with_reducible exact LeO.none _)
   | (with_reducible refine LeO.ite ?_ ?_)
   | (with_reducible refine LeO.bind ?_ (fun _ => ?_))
   | exact ih0 _ _ _ _
   | exact LeO.none _
   | refine LeO.ite ?_ ?_
   | refine LeO.bind ?_ (fun _ => ?_)
set_option maxHeartbeats 8000000 in
set_option maxRecDepth 100000 in
theorem slices_Equal_int_int.calls (k : Nat) (A0 : Option Addr) (c0 : Nat) (l0 : List Int) (A1 : Option Addr) (c1 : Nat) (l1 : List Int) (r : Bool) (w : World) (hr0 : Kd.C (Kd.int .i64) w A0 l0.length l0) (hc0 : l0.length ≤ c0) (hr1 : Kd.C (Kd.int .i64) w A1 l1.length l1) (hc1 : l1.length ≤ c1) (h : slices_Equal_int_int.f k l0 l1 = some r) :
  Calls Try.prog 92 #[.slice A0 l0.length c0, .slice A1 l1.length c1] w fun e w' => e = .returned (.bool r) ∧ Drawn0 w w' := by
 have HR0 := asd hr0
 have HC0 := asd hc0
 clear hr0 hc0
 have HR1 := asd hr1
 have HC1 := asd hc1
 clear hr1 hc1
 have H : (if (l0.length : Int) = (l1.length : Int) then (slices_Equal_int_int.l0 k l0 l1 (l0.length : Int) 0) else (some false)) = some r := h
 clear h
 by_cases c3 : (l0.length : Int) = (l1.length : Int)
 ·
  rw [if_pos c3] at H
  have c3b0 : ((l0.length : Int) == (l1.length : Int)) = true := beq_iff_eq.mpr c3
  have c3b1 : ((l0.length : Int) != (l1.length : Int)) = false := bne_eq_false_iff_eq.mpr c3
  have c3b2 : (l0.length == l1.length) = true := by first | simpa using c3 | (simp at c3 ⊢; omega)
  clear c3
  have H' := asd H
  clear H
  go_enter Try.func92, Try.ntmps92
  go_wp2
  repeat (go_quiet (fail); try go_wp2)
  go_loopg [13] k (fun kq v13 w' => ∃ (x13_1 : Int), v13 = .int .i64 x13_1 ∧ Aside0 (slices_Equal_int_int.l0 kq l0 l1 (l0.length : Int) x13_1 = some r) ∧ Aside0 (kq ≤ k) ∧ Drawn0 w w')
  case atStart => exact ⟨(0), (by first | rfl | (simp; done) | (simp [*]; done)), H', ⟨Nat.le_refl _⟩, by repeat (first | exact Drawn0.refl _ | apply Drawn0.step)⟩
  case round =>
   clear H'
   try clear c1
   try clear p2
   try clear c3
   try clear c3b0
   try clear c3b1
   try clear c3b2
   skip
   obtain ⟨x13_1, rfl, HA, HK1, ⟨m1, rfl⟩⟩ := hrel
   cases gk with
   | zero => exact absurd HA.out (by simp [slices_Equal_int_int.l0])
   | succ k1 =>
    have H := HA.out
    clear HA
    simp only [slices_Equal_int_int.l0] at H
    by_cases c4 : x13_1 < (l0.length : Int)
    ·
     rw [if_pos c4] at H
     have c4b0 : decide (x13_1 < (l0.length : Int)) = true := decide_eq_true c4
     clear c4
     by_cases c5 : 0 ≤ x13_1
     ·
      rw [if_pos c5] at H
      have c5b0 : decide (0 ≤ x13_1) = true := decide_eq_true c5
      clear c5
      by_cases c6 : x13_1 < (l0.length : Int)
      ·
       rw [if_pos c6] at H
       have c6b0 : decide (x13_1 < (l0.length : Int)) = true := decide_eq_true c6
       clear c6
       by_cases c7 : x13_1 < (l1.length : Int)
       ·
        rw [if_pos c7] at H
        have c7b0 : decide (x13_1 < (l1.length : Int)) = true := decide_eq_true c7
        clear c7
        by_cases c8 : (rd l0 x13_1) = (rd l1 x13_1)
        ·
         rw [if_pos c8] at H
         have c8b0 : ((rd l0 x13_1) == (rd l1 x13_1)) = true := beq_iff_eq.mpr c8
         have c8b1 : ((rd l0 x13_1) != (rd l1 x13_1)) = false := bne_eq_false_iff_eq.mpr c8
         clear c8
         have H' := asd H
         clear H
         have p101 : 0 ≤ (x13_1 : Int) := of_decide_eq_true (by first | (with_reducible assumption) | assumption)
         have q101 : x13_1 < (l0.length : Int) := of_decide_eq_true (by first | (with_reducible assumption) | assumption)
         obtain ⟨ad101, e101, hx101_0⟩ := Kd.at_int HR0.out x13_1 p101 q101
         cases e101
         replace p101 := eq_true p101
         replace q101 := eq_true q101
         have p102 : 0 ≤ (x13_1 : Int) := of_decide_eq_true (by first | (with_reducible assumption) | assumption)
         have q102 : x13_1 < (l1.length : Int) := of_decide_eq_true (by first | (with_reducible assumption) | assumption)
         obtain ⟨ad102, e102, hx102_0⟩ := Kd.at_int HR1.out x13_1 p102 q102
         cases e102
         replace p102 := eq_true p102
         replace q102 := eq_true q102
         go_wp2
         repeat (go_quiet (fail); try go_wp2)
         go_roundg k1
         case measure => have := HK1.out; omega
         case rel => exact ⟨(wrap64 (x13_1 + 1)), (by first | rfl | (simp; done) | (simp [*]; done)), H', ⟨by have := HK1.out; omega⟩, by repeat (first | exact Drawn0.refl _ | apply Drawn0.step)⟩
        ·
         rw [if_neg c8] at H
         have c8b0 : ((rd l0 x13_1) == (rd l1 x13_1)) = false := beq_eq_false_iff_ne.mpr c8
         have c8b1 : ((rd l0 x13_1) != (rd l1 x13_1)) = true := bne_iff_ne.mpr c8
         obtain rfl := Option.some.inj H
         have p101 : 0 ≤ (x13_1 : Int) := of_decide_eq_true (by first | (with_reducible assumption) | assumption)
         have q101 : x13_1 < (l0.length : Int) := of_decide_eq_true (by first | (with_reducible assumption) | assumption)
         obtain ⟨ad101, e101, hx101_0⟩ := Kd.at_int HR0.out x13_1 p101 q101
         cases e101
         replace p101 := eq_true p101
         replace q101 := eq_true q101
         have p102 : 0 ≤ (x13_1 : Int) := of_decide_eq_true (by first | (with_reducible assumption) | assumption)
         have q102 : x13_1 < (l1.length : Int) := of_decide_eq_true (by first | (with_reducible assumption) | assumption)
         obtain ⟨ad102, e102, hx102_0⟩ := Kd.at_int HR1.out x13_1 p102 q102
         cases e102
         replace p102 := eq_true p102
         replace q102 := eq_true q102
         go_wp2
         repeat (go_quiet (fail); try go_wp2)
         go_ret
         exact ⟨by first | rfl | (simp; done) | (simp [*]; done), by repeat (first | exact Drawn0.refl _ | apply Drawn0.step)⟩
       ·
        rw [if_neg c7] at H
        exact absurd H (by simp)
      ·
       rw [if_neg c6] at H
       exact absurd H (by simp)
     ·
      rw [if_neg c5] at H
      exact absurd H (by simp)
    ·
     rw [if_neg c4] at H
     have c4b0 : decide (x13_1 < (l0.length : Int)) = false := decide_eq_false c4
     clear c4
     obtain rfl := Option.some.inj H
     go_wp2
     repeat (go_quiet (fail); try go_wp2)
     go_ret
     exact ⟨by first | rfl | (simp; done) | (simp [*]; done), by repeat (first | exact Drawn0.refl _ | apply Drawn0.step)⟩
 ·
  rw [if_neg c3] at H
  have c3b0 : ((l0.length : Int) == (l1.length : Int)) = false := beq_eq_false_iff_ne.mpr c3
  have c3b1 : ((l0.length : Int) != (l1.length : Int)) = true := bne_iff_ne.mpr c3
  have c3b2 : (l0.length == l1.length) = false := by first | simpa using c3 | (simp at c3 ⊢; omega)
  obtain rfl := Option.some.inj H
  go_enter Try.func92, Try.ntmps92
  go_wp2
  repeat (go_quiet (fail); try go_wp2)
  go_ret
  exact ⟨by first | rfl | (simp; done) | (simp [*]; done), by repeat (first | exact Drawn0.refl _ | apply Drawn0.step)⟩

-- HAND with slices.Equal[[]int,int]
theorem sEqual_loop (a b : List Int) (hlen : a.length < 9223372036854775807) (he : a.length = b.length) : ∀ (d i : Nat), a.length - i = d → i ≤ a.length → (∀ j, j < i → a[j]? = b[j]?) → Ev (fun k => slices_Equal_int_int.l0 k a b a.length i) (decide (a = b)) := by
  intro d
  induction d with
  | zero =>
    intro i hd hi hj
    refine Ev.succ (fun k => by simp only [slices_Equal_int_int.l0]; rw [if_neg (by omega)]) (Ev.const (congrArg some ?_))
    symm
    rw [decide_eq_true_eq]
    apply List.ext_getElem?
    intro j
    rcases Nat.lt_or_ge j i with h | h
    · exact hj j h
    · rw [List.getElem?_eq_none (by omega), List.getElem?_eq_none (by omega)]
  | succ d ih =>
    intro i hd hi hj
    have ha : i < a.length := by omega
    have hb : i < b.length := by omega
    by_cases e : rd a (i : Int) = rd b (i : Int)
    · refine Ev.succ (fun k => by simp only [slices_Equal_int_int.l0]; rw [if_pos (by omega), if_pos (by omega), if_pos (by omega), if_pos (by omega), if_pos e, wrap_succ (by omega) (by omega)]) ?_
      refine ih (i + 1) (by omega) (by omega) (fun j hji => ?_)
      rcases Nat.lt_or_ge j i with h | h
      · exact hj j h
      · obtain rfl : j = i := by omega
        rw [rd_get ha, rd_get hb] at e
        rw [List.getElem?_eq_getElem ha, List.getElem?_eq_getElem hb, e]
    · refine Ev.succ (fun k => by simp only [slices_Equal_int_int.l0]; rw [if_pos (by omega), if_pos (by omega), if_pos (by omega), if_pos (by omega), if_neg e]) (Ev.const (congrArg some ?_))
      symm
      rw [decide_eq_false_iff_not]
      intro h
      exact e (by rw [h])
theorem sEqual_ok (a b : List Int) (hlen : a.length < 9223372036854775807) : Ev (fun k => slices_Equal_int_int.f k a b) (decide (a = b)) := by
  by_cases he : a.length = b.length
  · refine Ev.to (fun k => by unfold slices_Equal_int_int.f; rw [if_pos (by omega)]) ?_
    exact sEqual_loop a b hlen he a.length 0 (by omega) (by omega) (fun j h => absurd h (Nat.not_lt_zero _))
  · refine Ev.to (fun k => by unfold slices_Equal_int_int.f; rw [if_neg (by omega)]) (Ev.const (congrArg some ?_))
    symm
    rw [decide_eq_false_iff_not]
    intro h
    exact he (by rw [h])

-- HAND slices_CompactFunc_int_int: function 91
theorem below_setCellsW {w : World} {B b : Nat} (hb : B ≤ b) : ∀ (vs : List Value) (o : Nat) (W : World), Below B w W → Below B w (W.setCells b o vs)
 | [], _, _, h => h
 | v :: vs, o, W, h => below_setCellsW hb vs (o + 1) _ (h.setCell hb _)
section
variable {w w' : World} {b : Nat} {Ad : Nat → Option Addr} {cp : Nat → Nat} {ws : List (List Int)} {L : List Nat}
theorem HoldN.drewN (h : HoldN w b Ad cp ws L) (m : Nat) : HoldN (w.drewN m) b Ad cp ws L := fun j hj => h j hj
theorem HoldN.set (h : HoldN w b Ad cp ws L) {k : Nat} (hk : k < L.length) (i : Nat) : HoldN (w.setCell ⟨b, k, none⟩ (hdW Ad cp ws i)) b Ad cp ws (L.set k i) := by
 intro j hj
 rw [List.length_set] at hj
 have h1 := h j hj
 by_cases e : k = j
 ·
  subst e
  refine ⟨?_, by rw [World.frozen?_setCell]; exact h1.2⟩
  rw [World.cell?_setCell_same _ _ _ h1.1, show (L.set k i).getD k 0 = i by simp [List.getD, hj]]
 ·
  refine ⟨?_, by rw [World.frozen?_setCell]; exact h1.2⟩
  rw [World.cell?_setCell_other _ _ _ _ (show (⟨b, k, none⟩ : Addr) ≠ ⟨b, j, none⟩ from fun e2 => e (congrArg Addr.off e2)), show (L.set k i).getD j 0 = L.getD j 0 by simp [List.getD, List.getElem?_set_ne e]]
  exact h1.1
end
set_option maxHeartbeats 8000000 in
set_option maxRecDepth 100000 in
theorem slices_CompactFunc_int_int.short (A : Option Addr) (c : Nat) (w : World) : Calls Try.prog 91 #[.slice A 0 c, .func (.func 92) #[] #[]] w fun e w' => e = .returned (.slice A 0 c) ∧ Below w.heap.size w w' := by
 have hu := Try.underlying40
 go_enter Try.func91, Try.ntmps91
 go_wp2
 go_ret
 exact ⟨rfl, Below.refl _ _⟩
set_option maxHeartbeats 8000000 in
set_option maxRecDepth 100000 in
theorem slices_CompactFunc_int_int.calls {w0 w : World} (Ad : Nat → Option Addr) (cp : Nat → Nat) (ws : List (List Int)) (hR : RdW w0 Ad cp ws) (hlen : ∀ i, i < ws.length → (ws.getD i []).length < 9223372036854775807) (hb0 : Below w0.heap.size w0 w) (b cap : Nat) (hb1 : w0.heap.size ≤ b) (L : List Nat) (hL : ∀ i ∈ L, i < ws.length) (hH : HoldN w b Ad cp ws L) (hcap : L.length ≤ cap) (hpos : 0 < L.length) (hbig : L.length < 1048576) :
  Calls Try.prog 91 #[.slice (some ⟨b, 0, none⟩) L.length cap, .func (.func 92) #[] #[]] w fun e w' => ∃ (A : Option Addr) (c m : Nat), e = .returned (.slice A m c) ∧ m = (compL (L.map fun i => ws.getD i [])).length ∧ Below w0.heap.size w0 w' := by
 have hu := Try.underlying40
 have eg : ∀ args w, (callFunc 92 args).run Try.prog w = .ok (.enter 92 args) w := enters_of Try.func92 (by kernel_rfl) rfl
 have HEQ : Aside0 (∀ (W : World) (i j : Nat) (r : Bool), Below w0.heap.size w0 W → i < ws.length → j < ws.length → decide (ws.getD i [] = ws.getD j []) = r → Calls Try.prog 92 #[hdW Ad cp ws i, hdW Ad cp ws j] W fun e w' => e = .returned (.bool r) ∧ Drawn0 W w') := ⟨fun W i j r hb hi hj hr => by
  obtain ⟨k, hk⟩ := sEqual_ok (ws.getD i []) (ws.getD j []) (hlen i hi)
  rw [hr] at hk
  exact slices_Equal_int_int.calls k _ _ _ _ _ _ _ _ (Kd.C_below (hR i hi).1 hb) (hR i hi).2 (Kd.C_below (hR j hj).1 hb) (hR j hj).2 (hk k (Nat.le_refl _))⟩
 have HLI : Aside0 (∀ j, j < L.length → L.getD j 0 < ws.length) := ⟨fun j hj => hL _ (by rw [List.getD_eq_getElem?_getD, List.getElem?_eq_getElem hj]; exact List.getElem_mem hj)⟩
 have HRL := asd (comp_len (L.map fun i => ws.getD i []) (by intro e; rw [List.map_eq_nil_iff] at e; rw [e] at hpos; cases hpos))
 have HLM : Aside0 ((L.map fun i => ws.getD i []).length = L.length) := ⟨List.length_map _⟩
 have HAJ : Aside0 (∀ j, j + 1 < L.length → adjL ((L.map fun i => ws.getD i []).drop j) = (if ws.getD (L.getD (j + 1) 0) [] = ws.getD (L.getD j 0) [] then 0 else 1) + adjL ((L.map fun i => ws.getD i []).drop (j + 1))) := ⟨fun j hj => by
  rw [adj_drop (by rw [HLM.out]; exact hj)]
  congr 2
  rw [List.getElem_map, List.getElem_map]
  simp [List.getD, hj, show j < L.length by omega]⟩
 have HAE : Aside0 (∀ j, L.length ≤ j + 1 → adjL ((L.map fun i => ws.getD i []).drop j) = 0) := ⟨fun j hj => adj_end (by rw [HLM.out]; exact hj)⟩
 generalize (L.map fun i => ws.getD i []) = LL at *
 obtain ⟨R, hRR⟩ : ∃ R, R = (compL LL).length := ⟨_, rfl⟩
 rw [← hRR] at HRL ⊢
 have HB0 := asd hb0
 have HH0 := asd hH
 have HB1 := asd hb1
 clear hR hlen hL hH hRR hb0 hb1
 by_cases h2 : L.length < 2
 ·
  have hl1 : L.length = 1 := by omega
  have hz : R = 1 := by
   rw [HRL.out]
   have := HAE.out 0 (by omega)
   rw [List.drop_zero] at this
   omega
  subst hz
  rw [hl1]
  clear hcap hpos hbig h2 hl1
  go_enter Try.func91, Try.ntmps91
  go_wp2
  go_ret
  exact ⟨_, _, _, rfl, rfl, HB0.out⟩
 ·
  have hz2 : ¬ (L.length : Int) < 2 := by omega
  go_enter Try.func91, Try.ntmps91
  go_wp2
  go_loopg [5] (L.length - 1) (fun kq v5 wr => ∃ k : Nat, v5 = .int .i64 (k : Int) ∧ Aside0 (1 ≤ k ∧ k + kq = L.length) ∧ Aside0 (k + adjL (LL.drop (k - 1)) = R) ∧ Aside0 (HoldN wr b Ad cp ws L) ∧ Aside0 (Below w0.heap.size w0 wr))
  case atStart => exact ⟨1, rfl, ⟨by omega⟩, ⟨by rw [HRL.out]; rfl⟩, HH0, HB0⟩
  case round =>
   clear HH0 HB0
   obtain ⟨k, rfl, hk, HA, HH, HB⟩ := hrel
   cases gk with
   | zero =>
    have hlt : ¬ (k : Int) < (L.length : Int) := by have := hk.out; omega
    have HKR : Aside0 (L.length = R) := ⟨by
     have h1 := HAE.out (k - 1) (by have := hk.out; omega)
     have h3 := HA.out
     have := hk.out
     omega⟩
    go_wp2
    go_ret
    exact ⟨_, _, _, rfl, HKR.out, HB.out⟩
   | succ kn =>
    have hkl : k < L.length := by have := hk.out; omega
    have hlt : (k : Int) < (L.length : Int) := by omega
    have hk1 : 1 ≤ k := hk.out.1
    have c1 := (HH.out k hkl).1
    have c2 := (HH.out (k - 1) (by omega)).1
    have i1 := HLI.out k hkl
    have i2 := HLI.out (k - 1) (by omega)
    have hw1 : IntKind.i64.wrap ((k : Int) - 1) = ((k - 1 : Nat) : Int) := by rw [i64_w, show ((k - 1 : Nat) : Int) = (k : Int) - 1 by omega]; exact wrap_in (by omega) (by omega)
    have hw2 : wrap64 ((k : Int) - 1) = ((k - 1 : Nat) : Int) := (i64_w _).symm.trans hw1
    have HWS : Aside0 (wrap64 ((k : Int) + 1) = ((k + 1 : Nat) : Int)) := ⟨by rw [wrap_succ (by omega) (by omega)]; push_cast; rfl⟩
    have k0 : (0 : Int) ≤ ((k - 1 : Nat) : Int) := by omega
    have k3 : ((k - 1 : Nat) : Int) < (L.length : Int) := by omega
    have HAK := asd (HAJ.out (k - 1) (by omega))
    obtain ⟨r, hr⟩ : ∃ r, decide (ws.getD (L.getD k 0) [] = ws.getD (L.getD (k - 1) 0) []) = r := ⟨_, rfl⟩
    have HE : Aside0 (∀ W, Below w0.heap.size w0 W → Calls Try.prog 92 #[hdW Ad cp ws (L.getD k 0), hdW Ad cp ws (L.getD (k - 1) 0)] W fun e w' => e = .returned (.bool r) ∧ Drawn0 W w') := ⟨fun W hb => HEQ.out W _ _ r hb i1 i2 hr⟩
    have HRR := asd hr
    clear hr i1 i2
    generalize hdW Ad cp ws (L.getD k 0) = u1 at *
    generalize hdW Ad cp ws (L.getD (k - 1) 0) = u2 at *
    cases r with
    | false =>
     have HN : Aside0 (k + 1 + adjL (LL.drop (k + 1 - 1)) = R) := ⟨by
      have h1 := HAK.out
      have h3 := HA.out
      rw [show k - 1 + 1 = k by omega, if_neg (of_decide_eq_false HRR.out)] at h1
      rw [show k + 1 - 1 = k by omega]
      omega⟩
     clear hw2
     go_wp2
     go_quiet ((go_at_fn 92; (refine (HE.out _ (by repeat (first | exact HB.out | apply pw_below_drewN | apply below_drew1))).mono ?_); rintro e w' ⟨rfl, ⟨nd, rfl⟩⟩; (try first | exact ⟨rfl, _, World.drewN_drewN _ _ _⟩ | exact ⟨rfl, _, Eq.trans (World.drewN_drewN _ _ _) (congrArg (World.drewN _) (Nat.add_assoc _ _ _))⟩)))
     go_wp2
     go_roundg kn
     case measure => exact Nat.le_refl _
     case rel => exact ⟨k + 1, by first | rw [HWS.out] | go_num, ⟨by have := hk.out; omega⟩, HN, ⟨by first | exact HH.out | exact HH.out.drewN _⟩, ⟨by repeat (first | exact HB.out | apply pw_below_drewN | apply below_drew1)⟩⟩
    | true =>
     have HN : Aside0 (k + adjL (LL.drop (k + 1 - 1)) = R) := ⟨by
      have h1 := HAK.out
      have h3 := HA.out
      rw [show k - 1 + 1 = k by omega, if_pos (of_decide_eq_true HRR.out)] at h1
      rw [show k + 1 - 1 = k by omega]
      omega⟩
     have hkc : (k : Int) ≤ (cap : Int) := by omega
     have hkn : (k : Int) ≤ (L.length : Int) := by omega
     have hnc : (L.length : Int) ≤ (cap : Int) := by omega
     clear hw2
     go_wp2
     go_quiet ((go_at_fn 92; (refine (HE.out _ (by repeat (first | exact HB.out | apply pw_below_drewN | apply below_drew1))).mono ?_); rintro e w' ⟨rfl, ⟨nd, rfl⟩⟩; (try first | exact ⟨rfl, _, World.drewN_drewN _ _ _⟩ | exact ⟨rfl, _, Eq.trans (World.drewN_drewN _ _ _) (congrArg (World.drewN _) (Nat.add_assoc _ _ _))⟩)))
     clear c1 c2 hw1 k0 k3 HE HRR HAK HWS HA
     go_wp2
     have HK0 := asd hk
     have hlk : L.length - k < 1048576 := by omega
     go_loopg [5, 7] (L.length - k - 1) (fun kq2 v5 v7 wr2 => ∃ (q k2 : Nat) (L2 : List Nat), v5 = .int .i64 (q : Int) ∧ v7 = .int .i64 (k2 : Int) ∧ Aside0 (1 ≤ k2 ∧ k + k2 + kq2 = L.length ∧ q + 1 ≤ k + k2) ∧ Aside0 (L2.length = L.length ∧ ∀ j, q ≤ j → j < L.length → L2.getD j 0 = L.getD j 0) ∧ Aside0 (q + adjL (LL.drop (k + k2 - 1)) = R) ∧ Aside0 (HoldN wr2 b Ad cp ws L2) ∧ Aside0 (Below w0.heap.size w0 wr2))
     case atStart => exact ⟨k, 1, L, rfl, rfl, ⟨by omega⟩, ⟨rfl, fun _ _ _ => rfl⟩, HN, ⟨by first | exact HH.out | exact HH.out.drewN _⟩, ⟨by repeat (first | exact HB.out | apply pw_below_drewN | apply below_drew1)⟩⟩
     case round =>
      clear HN HH HB
      obtain ⟨q, k2, L2, rfl, rfl, hq, HL2, HA, HH, HB⟩ := hrel
      cases gk with
      | zero =>
       have hk2 : k2 = L.length - k := by have := hq.out; omega
       have hlt2 : ¬ (k2 : Int) < ((L.length - k : Nat) : Int) := by omega
       have HKR : Aside0 (q = R) := ⟨by
        have h1 := HAE.out (k + k2 - 1) (by have := hq.out; omega)
        have h3 := HA.out
        omega⟩
       have hq1 : q < L.length := by have := hq.out; omega
       have hqc : (q : Int) ≤ (cap : Int) := by omega
       have hqn : (q : Int) ≤ (L.length : Int) := by omega
       have hcl : ∀ ty, (Builtin.clear_ #[40] ty #[.slice (some ⟨b, q, none⟩) (L.length - q) (cap - q)]).run Try.prog wr = .ok (.tuple #[]) (wr.setCells b q (List.replicate (L.length - q) (.slice none 0 0))) := by
        intro ty
        refine Go.Lib.run_clear_slice wr _ 22 ty _ hu (fun _ => rfl) rfl rfl b _ _ _ (by omega) (fun t ht => ?_) (fun t ht => ?_)
        ·
         rw [(HH.out (q + t) (by have := HL2.out.1; omega)).1]
         rfl
        ·
         exact (HH.out (q + t) (by have := HL2.out.1; omega)).2
       have HBS := asd (below_setCellsW HB1.out (List.replicate (L.length - q) (.slice none 0 0)) q wr HB.out)
       clear hk2
       go_wp2
       go_ret
       exact ⟨_, _, _, rfl, HKR.out, HBS.out⟩
      | succ kn2 =>
       have hk2l : k + k2 < L.length := by have := hq.out; omega
       have hlt2 : (k2 : Int) < ((L.length - k : Nat) : Int) := by omega
       have h21 : 1 ≤ k2 := hq.out.1
       have hqk : q + 1 ≤ k + k2 := hq.out.2.2
       have c1 := (HH.out (k + k2) (by have := HL2.out.1; omega)).1
       have c2 := (HH.out (k + k2 - 1) (by have := HL2.out.1; omega)).1
       have c3 := HH.out q (by have := HL2.out.1; omega)
       rw [HL2.out.2 (k + k2) (by omega) hk2l] at c1
       rw [HL2.out.2 (k + k2 - 1) (by omega) (by omega), show k + k2 - 1 = k + (k2 - 1) by omega] at c2
       obtain ⟨c3a, c3b⟩ := c3
       have i1 := HLI.out (k + k2) hk2l
       have i2 := HLI.out (k + (k2 - 1)) (by omega)
       have hw1 : IntKind.i64.wrap ((k2 : Int) - 1) = ((k2 - 1 : Nat) : Int) := by rw [i64_w, show ((k2 - 1 : Nat) : Int) = (k2 : Int) - 1 by omega]; exact wrap_in (by omega) (by omega)
       have HWS : Aside0 (wrap64 ((k2 : Int) + 1) = ((k2 + 1 : Nat) : Int)) := ⟨by rw [wrap_succ (by omega) (by omega)]; push_cast; rfl⟩
       have HWQ : Aside0 (wrap64 ((q : Int) + 1) = ((q + 1 : Nat) : Int)) := ⟨by rw [wrap_succ (by omega) (by omega)]; push_cast; rfl⟩
       have k0 : (0 : Int) ≤ ((k2 - 1 : Nat) : Int) := by omega
       have k3 : ((k2 - 1 : Nat) : Int) < ((L.length - k : Nat) : Int) := by omega
       have k4 : (q : Int) < (L.length : Int) := by omega
       have HAK := asd (HAJ.out (k + k2 - 1) (by omega))
       have HIX : Aside0 (k + k2 - 1 + 1 = k + k2 ∧ k + k2 - 1 = k + (k2 - 1)) := ⟨by omega⟩
       obtain ⟨r, hr⟩ : ∃ r, decide (ws.getD (L.getD (k + k2) 0) [] = ws.getD (L.getD (k + (k2 - 1)) 0) []) = r := ⟨_, rfl⟩
       have HE : Aside0 (∀ W, Below w0.heap.size w0 W → Calls Try.prog 92 #[hdW Ad cp ws (L.getD (k + k2) 0), hdW Ad cp ws (L.getD (k + (k2 - 1)) 0)] W fun e w' => e = .returned (.bool r) ∧ Drawn0 W w') := ⟨fun W hb => HEQ.out W _ _ r hb i1 i2 hr⟩
       have HRR := asd hr
       have HU1 : Aside0 (∀ w, HoldN w b Ad cp ws L2 → HoldN (w.setCell ⟨b, q, none⟩ (hdW Ad cp ws (L.getD (k + k2) 0))) b Ad cp ws (L2.set q (L.getD (k + k2) 0))) := ⟨fun w h => h.set (by have := HL2.out.1; omega) _⟩
       have HL3 : Aside0 ((L2.set q (L.getD (k + k2) 0)).length = L.length ∧ ∀ j, q + 1 ≤ j → j < L.length → (L2.set q (L.getD (k + k2) 0)).getD j 0 = L.getD j 0) := ⟨by rw [List.length_set]; exact HL2.out.1, fun j hj hjl => by
        rw [show (L2.set q (L.getD (k + k2) 0)).getD j 0 = L2.getD j 0 by simp [List.getD, List.getElem?_set_ne (show q ≠ j by omega)]]
        exact HL2.out.2 j (by omega) hjl⟩
       clear hr i1 i2 HEQ HLI
       generalize L2.set q (L.getD (k + k2) 0) = L3 at *
       generalize hdW Ad cp ws (L2.getD q 0) = u3 at *
       generalize hdW Ad cp ws (L.getD (k + (k2 - 1)) 0) = u2 at *
       obtain ⟨u1, hu1⟩ : ∃ u, u = hdW Ad cp ws (L.getD (k + k2) 0) := ⟨_, rfl⟩
       rw [← hu1] at c1 HE HU1
       obtain ⟨ua, ul, uc, hu1'⟩ : ∃ a l c, u1 = .slice a l c := ⟨_, _, _, hu1⟩
       subst hu1'
       clear hu1
       cases r with
       | true =>
        have HN : Aside0 (q + adjL (LL.drop (k + (k2 + 1) - 1)) = R) := ⟨by
         have h1 := HAK.out
         have h3 := HA.out
         have h5 := HIX.out
         rw [h5.1, h5.2, if_pos (of_decide_eq_true HRR.out)] at h1
         rw [h5.2] at h3
         rw [show k + (k2 + 1) - 1 = k + k2 by omega]
         omega⟩
        go_wp2
        go_quiet ((go_at_fn 92; (refine (HE.out _ (by repeat (first | exact HB.out | apply pw_below_drewN | apply below_drew1))).mono ?_); rintro e w' ⟨rfl, ⟨nd, rfl⟩⟩; (try first | exact ⟨rfl, _, World.drewN_drewN _ _ _⟩ | exact ⟨rfl, _, Eq.trans (World.drewN_drewN _ _ _) (congrArg (World.drewN _) (Nat.add_assoc _ _ _))⟩)))
        go_wp2
        go_roundg kn2
        case measure => exact Nat.le_refl _
        case rel => exact ⟨q, k2 + 1, L2, rfl, by first | rw [HWS.out] | go_num, ⟨by have := hq.out; omega⟩, HL2, HN, ⟨by first | exact HH.out | exact HH.out.drewN _⟩, ⟨by repeat (first | exact HB.out | apply pw_below_drewN | apply below_drew1)⟩⟩
       | false =>
        have HN : Aside0 (q + 1 + adjL (LL.drop (k + (k2 + 1) - 1)) = R) := ⟨by
         have h1 := HAK.out
         have h3 := HA.out
         have h5 := HIX.out
         rw [h5.1, h5.2, if_neg (of_decide_eq_false HRR.out)] at h1
         rw [h5.2] at h3
         rw [show k + (k2 + 1) - 1 = k + k2 by omega]
         omega⟩
        go_wp2
        go_quiet ((go_at_fn 92; (refine (HE.out _ (by repeat (first | exact HB.out | apply pw_below_drewN | apply below_drew1))).mono ?_); rintro e w' ⟨rfl, ⟨nd, rfl⟩⟩; (try first | exact ⟨rfl, _, World.drewN_drewN _ _ _⟩ | exact ⟨rfl, _, Eq.trans (World.drewN_drewN _ _ _) (congrArg (World.drewN _) (Nat.add_assoc _ _ _))⟩)))
        go_wp2
        go_roundg kn2
        case measure => exact Nat.le_refl _
        case rel => exact ⟨q + 1, k2 + 1, L3, by first | rw [HWQ.out] | go_num, by first | rw [HWS.out] | go_num, ⟨by have := hq.out; omega⟩, HL3, HN, ⟨HU1.out _ (by first | exact HH.out | exact HH.out.drewN _)⟩, ⟨below_set (by repeat (first | exact HB.out | apply pw_below_drewN | apply below_drew1)) HB1.out⟩⟩

-- HAND impl_AreWordsOf: function 41
def impl_AreWordsOf.f (n : Int) (l : List Int) (ws : List (List Int)) : Option (Bool × Bool) := wordsV n l ws
open Go.Shelf in
theorem sort_none (p : Option Addr) (cap : Nat) (fv : Value) (w : World) : Calls Try.prog 89 #[.slice p 0 cap, fv] w fun e w' => e = .returned (.tuple #[]) ∧ w' = w := AnyF.slices_SortFunc_none { sortRow with } p cap fv w
set_option maxHeartbeats 8000000 in
set_option maxRecDepth 100000 in
theorem impl_AreWordsOf.calls (n : Int) (A : Option Addr) (c : Nat) (l : List Int) (A1 : Option Addr) (c1 : Nat) (ws : List (List Int)) (r1 r2 : Bool) (w : World) (hr : Kd.C (Kd.int .i64) w A l.length l) (hc : l.length ≤ c) (hr1 : Kd.C (Kd.slice 3 (Kd.int .i64)) w A1 ws.length ws) (hc1 : ws.length ≤ c1) (h : impl_AreWordsOf.f n l ws = some (r1, r2)) :
  Calls Try.prog 41 #[.agg #[.int .i64 n, .slice A l.length c], .slice A1 ws.length c1] w fun e w' => e = .returned (.tuple #[.bool r1, .bool r2]) ∧ Below w.heap.size w w' := by
 have hu := Try.underlying28
 have HR := asd hr
 have HC := asd hc
 have HR1 := asd hr1
 have HC1 := asd hc1
 have hmx1 := Kd.C_max hr1
 clear hr hc hr1 hc1
 replace h : wordsV n l ws = some (r1, r2) := h
 unfold wordsV at h
 cases hS : isSpaceB n l with
 | false =>
  have HG : Aside0 (impl_IsSpace.f n l = some false) := ⟨congrArg some hS⟩
  rw [hS, if_neg (by rintro ⟨h, _⟩; cases h)] at h
  obtain ⟨rfl, rfl⟩ : false = r1 ∧ false = r2 := by simpa using h
  clear h hS
  go_enter Try.func41, Try.ntmps41
  go_wp2_with (first | ((with_reducible refine gate_dst (N := 2) rfl ?_); refine box_event ?hg (N := 2) ?hd (cs := #[.int .i64 n, .slice A l.length c]) (t := 28) ?hr ?_; (case hd => rfl); (case hg => rfl); (case hr => first | (go_simp; done) | (go_simp; rfl)); intro g ge W gb Wb; have HXg := asd (SpBox.mk_ ge gb Wb); have gz0 := HXg.out.c0; have gz1 := HXg.out.c1; clear ge gb Wb) | (go_at_call 47; (with_reducible refine (impl_IsSpace.calls n _ _ l false _ (by repeat (first | exact Kd.C_below HR.out HXg.out.bel | (with_reducible refine Kd.C_drewN ?_ _) | (with_reducible refine Kd.C_drew ?_))) HC.out HG.out).mono ?_); rintro e W2 ⟨rfl, hbel_⟩; have HX2 := asd (SpBox.next HXg.out (by first | exact hbel_ | exact below_since hbel_ | exact below_since1 hbel_)); skip; clear hbel_))
  go_ret2
  exact ⟨rfl, (by repeat (first | exact HX2.out.bel | apply pw_below_drewN | apply below_drew1))⟩
 | true =>
  have HG : Aside0 (impl_IsSpace.f n l = some true) := ⟨congrArg some hS⟩
  by_cases hle : ws.length ≤ 200
  ·
   have hgt : ¬ (ws.length : Int) > 200 := by omega
   have hgt2 : ¬ (200 : Int) < (ws.length : Int) := by omega
   rw [if_pos ⟨hS, hle⟩] at h
   obtain ⟨Ad, cp, hC, hRd⟩ := heads_of HR1.out
   have hrl : (List.range ws.length).length = ws.length := List.length_range
   have HCL : Aside0 (∀ W, Below w.heap.size w W → Calls Try.prog 85 #[.slice A1 ws.length c1] W fun e w' => ∃ (Ao : Option Addr) (co : Nat), e = .returned (.slice Ao ws.length co) ∧ Kd.R (KW Ad cp ws) 22 w' W.heap.size (fun _ => True) (.slice Ao (List.range ws.length).length co) (List.range ws.length) ∧ Below W.heap.size W w') := ⟨fun W hb => by
    have h1 := slices_Clone_int_int.calls Ad cp ws A1 c1 (List.range ws.length) (List.range ws.length) W (Kd.C_below hC hb) (by rw [hrl]; exact HC1.out) (by unfold slices_Clone_int_int.f; rw [if_pos (by omega)])
    rw [hrl] at h1
    refine h1.mono ?_
    rintro e w' ⟨v, rfl, hR, hbel⟩
    obtain ⟨Ao, co, rfl⟩ := Kd.R_slice hR
    exact ⟨Ao, co, by rw [hrl], hR, hbel⟩⟩
   have HANY : Aside0 (∀ (W : World) (base g : Nat) (Ao : Option Addr) (co : Nat), Below w.heap.size w W → W.heap[g]? = some (.cells #[.int .i64 n, .slice A l.length c] 28 (0, 0)) → Kd.R (KW Ad cp ws) 22 W base (fun _ => True) (.slice Ao (List.range ws.length).length co) (List.range ws.length) → Calls Try.prog 86 #[.slice Ao ws.length co, .func (.func 87) #[] #[.pointer (some ⟨g, 0, none⟩)]] W fun e w' => e = .returned (.bool (!(ws.all fun x => fullV n l x))) ∧ Below W.heap.size W w') := ⟨fun W base g Ao co hb hbk hR => by
    have h2 := Kd.R_reads' hR
    have h3 := areWords_any hS A c Ao co ws W hbk (Kd.C_below HR.out hb) HC.out (rows_of h2.2.2 (hRd.below hb)) (by have := h2.2.1; omega)
    rw [all_any] at h3
    exact h3⟩
   have HB0 := asd (Below.refl w.heap.size w)
   cases hall : (ws.all fun x => fullV n l x) with
   | false =>
    rw [hall, if_neg (by decide)] at h
    rw [hall] at HANY
    obtain ⟨rfl, rfl⟩ : false = r1 ∧ true = r2 := by simpa using h
    clear h hS hall hC hRd hrl hle hmx1
    go_enter Try.func41, Try.ntmps41
    go_wp2_with (first | ((with_reducible refine gate_dst (N := 2) rfl ?_); refine box_event ?hg (N := 2) ?hd (cs := #[.int .i64 n, .slice A l.length c]) (t := 28) ?hr ?_; (case hd => rfl); (case hg => rfl); (case hr => first | (go_simp; done) | (go_simp; rfl)); intro g ge W1 gb W1b; have HB1 := asd (below_step (by repeat (first | exact HB0.out | apply pw_below_drewN | apply below_drew1 | apply below_alloc)) W1b); have BK1 := asd gb; have GE1 := asd ((by rw [ge]; exact below_size (by repeat (first | exact HB0.out | apply pw_below_drewN | apply below_drew1 | apply below_alloc))) : w.heap.size ≤ g); have q0 : W1.cell? ⟨g, 0, none⟩ = some (.int .i64 n) := (blk_cell BK1.out 0).trans rfl; have q1 : W1.cell? ⟨g, 1, none⟩ = some (.slice A l.length c) := (blk_cell BK1.out 1).trans rfl; clear W1b gb ge) | (go_at_call 47; (with_reducible refine (impl_IsSpace.calls n _ _ l true _ ?ia HC.out HG.out).mono ?_); (case ia => exact Kd.C_below HR.out HB1.out); rintro e W2 ⟨rfl, hb2⟩; have HB2 := asd (below_step HB1.out hb2); have BK2 := asd (blk_below BK1.out hb2); clear hb2 q0 q1) | (go_at_call 85; (refine (HCL.out _ HB2.out).mono ?_); rintro e W3 ⟨Ao, co, rfl, hR3, hb3⟩; have HB3 := asd (below_step HB2.out hb3); have BK3 := asd (blk_below BK2.out hb3); have HR3 := asd hR3; clear hR3 hb3) | (go_at_call 86; (refine (HANY.out _ _ g _ co HB3.out BK3.out HR3.out).mono ?_); rintro e W4 ⟨rfl, hb4⟩; have HB4 := asd (below_step HB3.out hb4); have BK4 := asd (blk_below BK3.out hb4); have HR4 := asd (Kd.R_below HR3.out hb4); skip; clear hb4))
    go_ret2
    exact ⟨rfl, HB4.out⟩
   | true =>
    rw [hall, if_pos rfl] at h
    rw [hall] at HANY
    obtain ⟨V, hV⟩ : ∃ V : Int, V = (cntW (famOf l) n.toNat 0 : Int) := ⟨_, rfl⟩
    obtain ⟨kW, hkW⟩ := ways0_ok hS
    have HKW := asd (hkW kW (Nat.le_refl _))
    rw [← hV] at h HKW
    obtain ⟨rr, hrr⟩ : ∃ rr, rr = decide (((distL [] ws).length : Int) = V) := ⟨_, rfl⟩
    rw [← hrr] at h
    have eb : (((distL [] ws).length : Int) == V) = rr := hrr.symm
    obtain ⟨rfl, rfl⟩ : rr = r1 ∧ true = r2 := by simpa using h
    have hlenw : ∀ i, i < ws.length → (ws.getD i []).length < 9223372036854775807 := fun i hi => by
     have h2 := List.all_eq_true.1 hall (ws.getD i []) (by rw [List.getD_eq_getElem?_getD, List.getElem?_eq_getElem hi]; exact List.getElem_mem hi)
     have := fullV_lenS hS h2
     omega
    rcases Nat.eq_zero_or_pos ws.length with h0 | hpos
    ·
     obtain rfl := List.eq_nil_of_length_eq_zero h0
     replace eb : ((0 : Int) == V) = rr := eb
     clear h hS hall hC hRd hrl hle hmx1 hV hkW hrr hlenw h0
     go_enter Try.func41, Try.ntmps41
     go_wp2_with (first | ((with_reducible refine gate_dst (N := 2) rfl ?_); refine box_event ?hg (N := 2) ?hd (cs := #[.int .i64 n, .slice A l.length c]) (t := 28) ?hr ?_; (case hd => rfl); (case hg => rfl); (case hr => first | (go_simp; done) | (go_simp; rfl)); intro g ge W1 gb W1b; have HB1 := asd (below_step (by repeat (first | exact HB0.out | apply pw_below_drewN | apply below_drew1 | apply below_alloc)) W1b); have BK1 := asd gb; have GE1 := asd ((by rw [ge]; exact below_size (by repeat (first | exact HB0.out | apply pw_below_drewN | apply below_drew1 | apply below_alloc))) : w.heap.size ≤ g); have q0 : W1.cell? ⟨g, 0, none⟩ = some (.int .i64 n) := (blk_cell BK1.out 0).trans rfl; have q1 : W1.cell? ⟨g, 1, none⟩ = some (.slice A l.length c) := (blk_cell BK1.out 1).trans rfl; clear W1b gb ge) | (go_at_call 47; (with_reducible refine (impl_IsSpace.calls n _ _ l true _ ?ia HC.out HG.out).mono ?_); (case ia => exact Kd.C_below HR.out HB1.out); rintro e W2 ⟨rfl, hb2⟩; have HB2 := asd (below_step HB1.out hb2); have BK2 := asd (blk_below BK1.out hb2); clear hb2 q0 q1) | (go_at_call 85; (refine (HCL.out _ HB2.out).mono ?_); rintro e W3 ⟨Ao, co, rfl, hR3, hb3⟩; have HB3 := asd (below_step HB2.out hb3); have BK3 := asd (blk_below BK2.out hb3); have HR3 := asd hR3; clear hR3 hb3) | (go_at_call 86; (refine (HANY.out _ _ g _ co HB3.out BK3.out HR3.out).mono ?_); rintro e W4 ⟨rfl, hb4⟩; have HB4 := asd (below_step HB3.out hb4); have BK4 := asd (blk_below BK3.out hb4); have HR4 := asd (Kd.R_below HR3.out hb4); skip; clear hb4) | (go_at_call 89; (refine (sort_none _ _ _ _).mono ?_); rintro e W5 ⟨rfl, rfl⟩) | (go_at_call 91; (refine (slices_CompactFunc_int_int.short _ _ _).mono ?_); rintro e W6 ⟨rfl, hb6⟩; have HB6 := asd (below_step HB4.out hb6); have BK6 := asd (blk_below BK4.out hb6); have q0 : W6.cell? ⟨g, 0, none⟩ = some (.int .i64 n) := (blk_cell BK6.out 0).trans rfl; have q1 : W6.cell? ⟨g, 1, none⟩ = some (.slice A l.length c) := (blk_cell BK6.out 1).trans rfl; clear hb6) | (go_at_call 62; (with_reducible refine (impl_Space_ways.calls kW n _ _ l 0 V _ ?wa HC.out HKW.out).mono ?_); (case wa => exact Kd.C_below HR.out HB6.out); rintro e W7 ⟨rfl, hb7⟩; have HB7 := asd (below_step HB6.out hb7); clear hb7))
     go_ret2
     exact ⟨rfl, HB7.out⟩
    ·
     have HSORT : Aside0 (∀ (W0 W : World) (b co : Nat), Below w.heap.size w W0 → Below W0.heap.size W0 W → Kd.R (KW Ad cp ws) 22 W W0.heap.size (fun _ => True) (.slice (some ⟨b, 0, none⟩) (List.range ws.length).length co) (List.range ws.length) → Calls Try.prog 89 #[.slice (some ⟨b, 0, none⟩) ws.length co, .func (.func 90) #[] #[]] W fun e w' => e = .returned (.tuple #[]) ∧ ∃ L' : List Nat, L'.Perm (List.range ws.length) ∧ (L'.map fun i => ws.getD i []).Pairwise (fun x y => ¬cmpL y x < 0) ∧ HoldN w' b Ad cp ws L' ∧ Below W0.heap.size W0 w') := ⟨fun W0 W b co hb hb2 hR => by
      have h1 := slices_SortFunc_int_int.calls Ad cp ws (hRd.below hb) hb2 b co (List.range ws.length) (fun i hi => List.mem_range.1 hi) hR (by omega) hlenw (by omega)
      rw [hrl] at h1
      exact h1⟩
     have HCOMP : Aside0 (∀ (W0 W : World) (b co : Nat) (L' : List Nat), Below w.heap.size w W0 → Below W0.heap.size W0 W → W0.heap.size ≤ b → ws.length ≤ co → L'.Perm (List.range ws.length) → (L'.map fun i => ws.getD i []).Pairwise (fun x y => ¬cmpL y x < 0) → HoldN W b Ad cp ws L' → Calls Try.prog 91 #[.slice (some ⟨b, 0, none⟩) ws.length co, .func (.func 92) #[] #[]] W fun e w' => ∃ (A : Option Addr) (c : Nat), e = .returned (.slice A (distL [] ws).length c) ∧ Below W0.heap.size W0 w') := ⟨fun W0 W b co L' hb hb2 hge hco hp hs hh => by
      have hl : L'.length = ws.length := by rw [hp.length_eq, hrl]
      have h1 := slices_CompactFunc_int_int.calls Ad cp ws (hRd.below hb) hlenw hb2 b co hge L' (fun i hi => List.mem_range.1 (hp.mem_iff.1 hi)) hh (by omega) (by omega) (by omega)
      rw [hl] at h1
      refine h1.mono ?_
      rintro e w' ⟨A, c, m, rfl, hm, hbel⟩
      rw [comp_dist (perm_words hp) hs] at hm
      subst hm
      exact ⟨A, c, rfl, hbel⟩⟩
     have HPOS := asd hpos
     have HRL := asd hrl
     clear h hS hall hC hRd hrl hle hmx1 hV hkW hrr hlenw hpos
     generalize (distL [] ws).length = D at *
     go_enter Try.func41, Try.ntmps41
     go_wp2_with (first | ((with_reducible refine gate_dst (N := 2) rfl ?_); refine box_event ?hg (N := 2) ?hd (cs := #[.int .i64 n, .slice A l.length c]) (t := 28) ?hr ?_; (case hd => rfl); (case hg => rfl); (case hr => first | (go_simp; done) | (go_simp; rfl)); intro g ge W1 gb W1b; have HB1 := asd (below_step (by repeat (first | exact HB0.out | apply pw_below_drewN | apply below_drew1 | apply below_alloc)) W1b); have BK1 := asd gb; have GE1 := asd ((by rw [ge]; exact below_size (by repeat (first | exact HB0.out | apply pw_below_drewN | apply below_drew1 | apply below_alloc))) : w.heap.size ≤ g); have q0 : W1.cell? ⟨g, 0, none⟩ = some (.int .i64 n) := (blk_cell BK1.out 0).trans rfl; have q1 : W1.cell? ⟨g, 1, none⟩ = some (.slice A l.length c) := (blk_cell BK1.out 1).trans rfl; clear W1b gb ge) | (go_at_call 47; (with_reducible refine (impl_IsSpace.calls n _ _ l true _ ?ia HC.out HG.out).mono ?_); (case ia => exact Kd.C_below HR.out HB1.out); rintro e W2 ⟨rfl, hb2⟩; have HB2 := asd (below_step HB1.out hb2); have BK2 := asd (blk_below BK1.out hb2); clear hb2 q0 q1) | (go_at_call 85; (refine (HCL.out _ HB2.out).mono ?_); rintro e W3 ⟨Ao, co, rfl, hR3, hb3⟩; obtain ⟨b, cb_, eb_, gb_, _, _⟩ := Kd.R_form hR3 (by rw [HRL.out]; exact HPOS.out); cases eb_; have HGE := asd gb_; have HCO : Aside0 (ws.length ≤ co) := ⟨by have h1_ := (Kd.R_reads' hR3).2.1; rw [HRL.out] at h1_; exact h1_⟩; have HB3 := asd (below_step HB2.out hb3); have BK3 := asd (blk_below BK2.out hb3); have HR3 := asd hR3; have H23 := asd hb3; clear hR3 hb3 gb_) | (go_at_call 86; (refine (HANY.out _ _ g _ co HB3.out BK3.out HR3.out).mono ?_); rintro e W4 ⟨rfl, hb4⟩; have HB4 := asd (below_step HB3.out hb4); have BK4 := asd (blk_below BK3.out hb4); have HR4 := asd (Kd.R_below HR3.out hb4); have H24 := asd (below_step H23.out hb4); clear hb4) | (go_at_call 89; (refine (HSORT.out W2 _ b co HB2.out H24.out HR4.out).mono ?_); rintro e W5 ⟨rfl, L', hp5, hs5, hh5, hb5⟩; have HP5 := asd hp5; have HS5 := asd hs5; have HH5 := asd hh5; have H25 := asd hb5; clear hp5 hs5 hh5 hb5) | (go_at_call 91; (refine (HCOMP.out W2 _ b co L' HB2.out H25.out HGE.out HCO.out HP5.out HS5.out HH5.out).mono ?_); rintro e W6 ⟨A6, c6, rfl, hb6⟩; have HB6 := asd (below_step HB2.out hb6); have BK6 := asd (blk_below BK2.out hb6); have q0 : W6.cell? ⟨g, 0, none⟩ = some (.int .i64 n) := (blk_cell BK6.out 0).trans rfl; have q1 : W6.cell? ⟨g, 1, none⟩ = some (.slice A l.length c) := (blk_cell BK6.out 1).trans rfl; clear hb6) | (go_at_call 62; (with_reducible refine (impl_Space_ways.calls kW n _ _ l 0 V _ ?wa HC.out HKW.out).mono ?_); (case wa => exact Kd.C_below HR.out HB6.out); rintro e W7 ⟨rfl, hb7⟩; have HB7 := asd (below_step HB6.out hb7); clear hb7))
     go_ret2
     exact ⟨rfl, HB7.out⟩
  ·
   have hgt : (ws.length : Int) > 200 := by omega
   have hgt2 : (200 : Int) < (ws.length : Int) := by omega
   rw [if_neg (fun h => hle h.2)] at h
   obtain ⟨rfl, rfl⟩ : false = r1 ∧ false = r2 := by simpa using h
   clear h hS hle
   go_enter Try.func41, Try.ntmps41
   go_wp2_with (first | ((with_reducible refine gate_dst (N := 2) rfl ?_); refine box_event ?hg (N := 2) ?hd (cs := #[.int .i64 n, .slice A l.length c]) (t := 28) ?hr ?_; (case hd => rfl); (case hg => rfl); (case hr => first | (go_simp; done) | (go_simp; rfl)); intro g ge W gb Wb; have HXg := asd (SpBox.mk_ ge gb Wb); have gz0 := HXg.out.c0; have gz1 := HXg.out.c1; clear ge gb Wb) | (go_at_call 47; (with_reducible refine (impl_IsSpace.calls n _ _ l true _ (by repeat (first | exact Kd.C_below HR.out HXg.out.bel | (with_reducible refine Kd.C_drewN ?_ _) | (with_reducible refine Kd.C_drew ?_))) HC.out HG.out).mono ?_); rintro e W2 ⟨rfl, hbel_⟩; have HX2 := asd (SpBox.next HXg.out (by first | exact hbel_ | exact below_since hbel_ | exact below_since1 hbel_)); skip; clear hbel_))
   go_ret2
   exact ⟨rfl, (by repeat (first | exact HX2.out.bel | apply pw_below_drewN | apply below_drew1))⟩

end Go.Proofs.Ytkepeflplmkcmaa.Q
