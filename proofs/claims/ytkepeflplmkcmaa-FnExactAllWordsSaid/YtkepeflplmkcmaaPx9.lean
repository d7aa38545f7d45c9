/- Contracts of functions that the laws reach: a call returns what the plain Lean function of the same name tells. Conditions: those of each theorem. Made by gen.py, a program of this session, over the print of the translation. -/
import Derived.Test.YtkepeflplmkcmaaPx0
import Derived.Test.YtkepeflplmkcmaaPx1
import Derived.Test.YtkepeflplmkcmaaPx2
import Derived.Test.YtkepeflplmkcmaaPx7
import Derived.Test.YtkepeflplmkcmaaPx8
namespace Go.Proofs.Ytkepeflplmkcmaa.Q
open Go.RowKit Go.Proofs.YtkepeflplmkcmaaW.PrintWords Go.Proofs.YtkepeflplmkcmaaW.PrintLast Go.Proofs.YtkepeflplmkcmaaW.PrintMore
attribute [local go_sem] max2_int min2_int max_two min_two max_three min_three max_four min_four   -- for this text's walks alone
set_option linter.unusedVariables false
set_option linter.unusedSimpArgs false

/-! ### laws_heldIntS: function 25 -/
def laws_heldIntS.l0 : Nat → List Int → Int → Int → Option (Int)
  | 0, _, _, _ => none
  | k + 1, x0, x1, x5 => if x5 < (x0.length : Int) then (if 0 ≤ x5 then (if (rd x0 x5) = x1 then (laws_heldIntS.l0 k x0 (wrap64 (x1 + 1)) (wrap64 (x5 + 1))) else (some (-1))) else (none)) else (some x1)
def laws_heldIntS.f (k : Nat) (l0 : List Int) (a1 : Int) : Option (Int) := laws_heldIntS.l0 k l0 a1 0
theorem laws_heldIntS.mono_l : ∀ k, (∀ y0 y1 y2, LeO (laws_heldIntS.l0 k y0 y1 y2) (laws_heldIntS.l0 (k + 1) y0 y1 y2))
  | 0 => fun _ _ _ r h => by simp [laws_heldIntS.l0] at h
  | k + 1 => by
    have ih0 := laws_heldIntS.mono_l k
    · intro y0 y1 y2
      unfold laws_heldIntS.l0
      repeat' first
      | (with_reducible exact ih0 _ _ _)
      | (with_reducible exact LeO.refl _)
      | (with_reducible exact LeO.none _)
      | (with_reducible refine LeO.ite ?_ ?_)
      | (with_reducible refine LeO.bind ?_ (fun _ => ?_))
      | exact ih0 _ _ _
      | exact LeO.none _
      | refine LeO.ite ?_ ?_
      | refine LeO.bind ?_ (fun _ => ?_)
theorem laws_heldIntS.mono : ∀ a0 a1 k, LeO (laws_heldIntS.f k a0 a1) (laws_heldIntS.f (k + 1) a0 a1) := by
  intro a0 a1 k
  have ih0 := laws_heldIntS.mono_l k
  unfold laws_heldIntS.f
  repeat' first
      | (with_reducible exact ih0 _ _ _)
      | (with_reducible exact LeO.refl _)
      | (with_reducible exact LeO.none _)
      | (with_reducible refine LeO.ite ?_ ?_)
      | (with_reducible refine LeO.bind ?_ (fun _ => ?_))
      | exact ih0 _ _ _
      | exact LeO.none _
      | refine LeO.ite ?_ ?_
      | refine LeO.bind ?_ (fun _ => ?_)
set_option maxHeartbeats 8000000 in
set_option maxRecDepth 100000 in
theorem laws_heldIntS.calls (k : Nat) (A0 : Option Addr) (c0 : Nat) (l0 : List Int) (a1 : Int) (r : Int) (w : World) (hr0 : Kd.C (Kd.int .i64) w A0 l0.length l0) (hc0 : l0.length ≤ c0) (h : laws_heldIntS.f k l0 a1 = some r) :
    Calls Try.prog 25 #[.slice A0 l0.length c0, .int .i64 a1] w fun e w' => e = .returned (.int .i64 r) ∧ Drawn0 w w' := by
  have HR0 := Aside0.mk hr0
  have HC0 := Aside0.mk hc0
  clear hr0 hc0
  have H : (laws_heldIntS.l0 k l0 a1 0) = some r := h
  clear h
  have H' := Aside0.mk H
  clear H
  go_enter Try.func25, Try.ntmps25
  go_wp2
  go_loopg [1, 5] k (fun kq v1 v5 w' => ∃ (x1_1 : Int) (x5_1 : Int), v1 = .int .i64 x1_1 ∧ v5 = .int .i64 x5_1 ∧ Aside0 (laws_heldIntS.l0 kq l0 x1_1 x5_1 = some r) ∧ Aside0 (kq ≤ k) ∧ Drawn0 w w')
  case atStart => exact ⟨(a1), (0), (by first | rfl | (simp; done) | (simp [*]; done)), (by first | rfl | (simp; done) | (simp [*]; done)), H', ⟨Nat.le_refl _⟩, by repeat (first | exact Drawn0.refl _ | apply Drawn0.step)⟩
  case round =>
    clear H'
    try clear c2
    try clear p2
    skip
    obtain ⟨x1_1, x5_1, rfl, rfl, HA, HK1, ⟨m1, rfl⟩⟩ := hrel
    cases gk with
    | zero => exact absurd HA.out (by simp [laws_heldIntS.l0])
    | succ k1 =>
      have H := HA.out
      clear HA
      simp only [laws_heldIntS.l0] at H
      by_cases c3 : x5_1 < (l0.length : Int)
      · rw [if_pos c3] at H
        have c3b0 : decide (x5_1 < (l0.length : Int)) = true := decide_eq_true c3
        clear c3
        by_cases c4 : 0 ≤ x5_1
        · rw [if_pos c4] at H
          have c4b0 : decide (0 ≤ x5_1) = true := decide_eq_true c4
          clear c4
          by_cases c5 : (rd l0 x5_1) = x1_1
          · rw [if_pos c5] at H
            have c5b0 : ((rd l0 x5_1) == x1_1) = true := beq_iff_eq.mpr c5
            have c5b1 : ((rd l0 x5_1) != x1_1) = false := bne_eq_false_iff_eq.mpr c5
            clear c5
            have H' := Aside0.mk H
            clear H
            have p101 : 0 ≤ (x5_1 : Int) := of_decide_eq_true (by first | (with_reducible assumption) | assumption)
            have q101 : x5_1 < (l0.length : Int) := of_decide_eq_true (by first | (with_reducible assumption) | assumption)
            obtain ⟨ad101, e101, hx101_0⟩ := Kd.at_int HR0.out x5_1 p101 q101
            cases e101
            replace p101 := eq_true p101
            replace q101 := eq_true q101
            go_wp2
            go_roundg k1
            case measure => have := HK1.out; omega
            case rel => exact ⟨(wrap64 (x1_1 + 1)), (wrap64 (x5_1 + 1)), (by first | rfl | (simp; done) | (simp [*]; done)), (by first | rfl | (simp; done) | (simp [*]; done)), H', ⟨by have := HK1.out; omega⟩, by repeat (first | exact Drawn0.refl _ | apply Drawn0.step)⟩
          · rw [if_neg c5] at H
            have c5b0 : ((rd l0 x5_1) == x1_1) = false := beq_eq_false_iff_ne.mpr c5
            have c5b1 : ((rd l0 x5_1) != x1_1) = true := bne_iff_ne.mpr c5
            obtain rfl := Option.some.inj H
            have p101 : 0 ≤ (x5_1 : Int) := of_decide_eq_true (by first | (with_reducible assumption) | assumption)
            have q101 : x5_1 < (l0.length : Int) := of_decide_eq_true (by first | (with_reducible assumption) | assumption)
            obtain ⟨ad101, e101, hx101_0⟩ := Kd.at_int HR0.out x5_1 p101 q101
            cases e101
            replace p101 := eq_true p101
            replace q101 := eq_true q101
            go_wp2
            go_ret
            exact ⟨by first | rfl | (simp; done) | (simp [*]; done), by repeat (first | exact Drawn0.refl _ | apply Drawn0.step)⟩
        · rw [if_neg c4] at H
          exact absurd H (by simp)
      · rw [if_neg c3] at H
        have c3b0 : decide (x5_1 < (l0.length : Int)) = false := decide_eq_false c3
        clear c3
        obtain rfl := Option.some.inj H
        go_wp2
        go_ret
        exact ⟨by first | rfl | (simp; done) | (simp [*]; done), by repeat (first | exact Drawn0.refl _ | apply Drawn0.step)⟩

-- HAND with laws.heldIntS
theorem heldIntS_loop (a : Int) (n : Nat) (ha : 0 ≤ a) (hb : a + n < 9223372036854775807) : ∀ (d i : Nat), n - i = d → i ≤ n → Ev (fun k => laws_heldIntS.l0 k (numsFrom a n) (a + i) i) (a + n) := by
  intro d
  induction d with
  | zero =>
    intro i hd hi
    obtain rfl : i = n := by omega
    exact Ev.succ (fun k => by simp only [laws_heldIntS.l0]; rw [if_neg (by rw [numsFrom_length]; omega)]) (Ev.const rfl)
  | succ d ih =>
    intro i hd hi
    have hi' : i < n := by omega
    have hr : rd (numsFrom a n) (i : Int) = a + i := by
      have := numsFrom_get a n i hi'
      simp [rd, List.getD, this]
    refine Ev.succ (fun k => by simp only [laws_heldIntS.l0]; rw [if_pos (by rw [numsFrom_length]; omega), if_pos (by omega), if_pos hr, wrap_succ (by omega) (by omega), wrap_succ (by omega) (by omega)]) ?_
    have := ih (i + 1) (by omega) (by omega)
    push_cast at this
    rw [show a + ((i : Int) + 1) = a + i + 1 by omega] at this
    exact this
theorem heldIntS_ok (a : Int) (n : Nat) (ha : 0 ≤ a) (hb : a + n < 9223372036854775807) : Ev (fun k => laws_heldIntS.f k (numsFrom a n) a) (a + n) := by
  have := heldIntS_loop a n ha hb n 0 (by omega) (by omega)
  rw [show a + ((0 : Nat) : Int) = a by omega] at this
  exact this

/-! ### laws_heldIntSS: function 30 -/
def laws_heldIntSS.l0 : Nat → List (List Int) → Int → Int → Option (Int)
  | 0, _, _, _ => none
  | k + 1, x0, x1, x5 => if x5 < (x0.length : Int) then (if 0 ≤ x5 then ((laws_heldIntS.f k (rd_L9 x0 x5) x1).bind fun t102 => (if t102 < 0 then (some (-1)) else (laws_heldIntSS.l0 k x0 t102 (wrap64 (x5 + 1))))) else (none)) else (some x1)
def laws_heldIntSS.f (k : Nat) (l0 : List (List Int)) (a1 : Int) : Option (Int) := laws_heldIntSS.l0 k l0 a1 0
theorem laws_heldIntSS.mono_l : ∀ k, (∀ y0 y1 y2, LeO (laws_heldIntSS.l0 k y0 y1 y2) (laws_heldIntSS.l0 (k + 1) y0 y1 y2))
  | 0 => fun _ _ _ r h => by simp [laws_heldIntSS.l0] at h
  | k + 1 => by
    have ih0 := laws_heldIntSS.mono_l k
    · intro y0 y1 y2
      unfold laws_heldIntSS.l0
      repeat' first
      | (with_reducible exact ih0 _ _ _)
      | (with_reducible exact laws_heldIntS.mono _ _ _)
      | (with_reducible exact LeO.refl _)
      | (with_reducible exact LeO.none _)
      | (with_reducible refine LeO.ite ?_ ?_)
      | (with_reducible refine LeO.bind ?_ (fun _ => ?_))
      | exact ih0 _ _ _
      | exact laws_heldIntS.mono _ _ _
      | exact LeO.none _
      | refine LeO.ite ?_ ?_
      | refine LeO.bind ?_ (fun _ => ?_)
theorem laws_heldIntSS.mono : ∀ a0 a1 k, LeO (laws_heldIntSS.f k a0 a1) (laws_heldIntSS.f (k + 1) a0 a1) := by
  intro a0 a1 k
  have ih0 := laws_heldIntSS.mono_l k
  unfold laws_heldIntSS.f
  repeat' first
      | (with_reducible exact ih0 _ _ _)
      | (with_reducible exact laws_heldIntS.mono _ _ _)
      | (with_reducible exact LeO.refl _)
      | (with_reducible exact LeO.none _)
      | (with_reducible refine LeO.ite ?_ ?_)
      | (with_reducible refine LeO.bind ?_ (fun _ => ?_))
      | exact ih0 _ _ _
      | exact laws_heldIntS.mono _ _ _
      | exact LeO.none _
      | refine LeO.ite ?_ ?_
      | refine LeO.bind ?_ (fun _ => ?_)
set_option maxHeartbeats 8000000 in
set_option maxRecDepth 100000 in
theorem laws_heldIntSS.calls (k : Nat) (A0 : Option Addr) (c0 : Nat) (l0 : List (List Int)) (a1 : Int) (r : Int) (w : World) (hr0 : Kd.C (Kd.slice 3 (Kd.int .i64)) w A0 l0.length l0) (hc0 : l0.length ≤ c0) (h : laws_heldIntSS.f k l0 a1 = some r) :
    Calls Try.prog 30 #[.slice A0 l0.length c0, .int .i64 a1] w fun e w' => e = .returned (.int .i64 r) ∧ Drawn0 w w' := by
  have HR0 := Aside0.mk hr0
  have HC0 := Aside0.mk hc0
  clear hr0 hc0
  have H : (laws_heldIntSS.l0 k l0 a1 0) = some r := h
  clear h
  have H' := Aside0.mk H
  clear H
  go_enter Try.func30, Try.ntmps30
  go_wp2
  go_loopg [1, 5] k (fun kq v1 v5 w' => ∃ (x1_1 : Int) (x5_1 : Int), v1 = .int .i64 x1_1 ∧ v5 = .int .i64 x5_1 ∧ Aside0 (laws_heldIntSS.l0 kq l0 x1_1 x5_1 = some r) ∧ Aside0 (kq ≤ k) ∧ Drawn0 w w')
  case atStart => exact ⟨(a1), (0), (by first | rfl | (simp; done) | (simp [*]; done)), (by first | rfl | (simp; done) | (simp [*]; done)), H', ⟨Nat.le_refl _⟩, by repeat (first | exact Drawn0.refl _ | apply Drawn0.step)⟩
  case round =>
    clear H'
    try clear p2
    skip
    obtain ⟨x1_1, x5_1, rfl, rfl, HA, HK1, ⟨m1, rfl⟩⟩ := hrel
    cases gk with
    | zero => exact absurd HA.out (by simp [laws_heldIntSS.l0])
    | succ k1 =>
      have H := HA.out
      clear HA
      simp only [laws_heldIntSS.l0] at H
      by_cases c3 : x5_1 < (l0.length : Int)
      · rw [if_pos c3] at H
        have c3b0 : decide (x5_1 < (l0.length : Int)) = true := decide_eq_true c3
        clear c3
        by_cases c4 : 0 ≤ x5_1
        · rw [if_pos c4] at H
          have c4b0 : decide (0 ≤ x5_1) = true := decide_eq_true c4
          clear c4
          replace H := Option.bind_eq_some_iff.mp H
          obtain ⟨t102, A50, H⟩ := H
          replace H : (if t102 < 0 then (some (-1)) else (laws_heldIntSS.l0 k1 l0 t102 (wrap64 (x5_1 + 1)))) = some r := H
          have A5 := Aside0.mk A50
          clear A50
          by_cases c6 : t102 < 0
          · rw [if_pos c6] at H
            have c6b0 : decide (t102 < 0) = true := decide_eq_true c6
            clear c6
            obtain rfl := Option.some.inj H
            have p101 : 0 ≤ (x5_1 : Int) := of_decide_eq_true (by first | (with_reducible assumption) | assumption)
            have q101 : x5_1 < (l0.length : Int) := of_decide_eq_true (by first | (with_reducible assumption) | assumption)
            obtain ⟨ad101, A101_0, c101_0, e101, hx101_0, hl101_0, hi101_0⟩ := at_L9 HR0.out x5_1 p101 q101
            cases e101
            have HR101_0 := Aside0.mk hi101_0
            have HC101_0 := Aside0.mk hl101_0
            clear hi101_0 hl101_0
            replace p101 := eq_true p101
            replace q101 := eq_true q101
            go_wp2_with (first | ((with_reducible refine gate_callee (f := 25) rfl ?_); refine goesL_ (some 17) rfl rfl Try.func25 (by kernel_rfl) rfl #[.slice A101_0 (rd_L9 l0 x5_1).length c101_0, .int .i64 x1_1] rfl (by (try simp only [List.map_toArray, List.map_cons, List.map_nil]); first | done | rfl | (simp only [List.length_drop, List.length_take]; rfl)) ?_; (with_reducible refine (laws_heldIntS.calls k1 _ _ (rd_L9 l0 x5_1) x1_1 t102 _ ?side1 ?side2 A5.out).mono ?_); (case side1 => repeat (first | exact HR101_0.out | (with_reducible refine Kd.C_alloc ?_ _) | (with_reducible refine Kd.C_drewN ?_ _) | (with_reducible refine Kd.C_drew ?_))); (case side2 => exact HC101_0.out); rintro e w' ⟨rfl, ⟨nd, rfl⟩⟩; refine ⟨_, rfl, ?_⟩))
            go_ret
            exact ⟨by first | rfl | (simp; done) | (simp [*]; done), by repeat (first | exact Drawn0.refl _ | apply Drawn0.step)⟩
          · rw [if_neg c6] at H
            have c6b0 : decide (t102 < 0) = false := decide_eq_false c6
            clear c6
            have H' := Aside0.mk H
            clear H
            have p101 : 0 ≤ (x5_1 : Int) := of_decide_eq_true (by first | (with_reducible assumption) | assumption)
            have q101 : x5_1 < (l0.length : Int) := of_decide_eq_true (by first | (with_reducible assumption) | assumption)
            obtain ⟨ad101, A101_0, c101_0, e101, hx101_0, hl101_0, hi101_0⟩ := at_L9 HR0.out x5_1 p101 q101
            cases e101
            have HR101_0 := Aside0.mk hi101_0
            have HC101_0 := Aside0.mk hl101_0
            clear hi101_0 hl101_0
            replace p101 := eq_true p101
            replace q101 := eq_true q101
            go_wp2_with (first | ((with_reducible refine gate_callee (f := 25) rfl ?_); refine goesL_ (some 17) rfl rfl Try.func25 (by kernel_rfl) rfl #[.slice A101_0 (rd_L9 l0 x5_1).length c101_0, .int .i64 x1_1] rfl (by (try simp only [List.map_toArray, List.map_cons, List.map_nil]); first | done | rfl | (simp only [List.length_drop, List.length_take]; rfl)) ?_; (with_reducible refine (laws_heldIntS.calls k1 _ _ (rd_L9 l0 x5_1) x1_1 t102 _ ?side1 ?side2 A5.out).mono ?_); (case side1 => repeat (first | exact HR101_0.out | (with_reducible refine Kd.C_alloc ?_ _) | (with_reducible refine Kd.C_drewN ?_ _) | (with_reducible refine Kd.C_drew ?_))); (case side2 => exact HC101_0.out); rintro e w' ⟨rfl, ⟨nd, rfl⟩⟩; refine ⟨_, rfl, ?_⟩))
            go_roundg k1
            case measure => have := HK1.out; omega
            case rel => exact ⟨(t102), (wrap64 (x5_1 + 1)), (by first | rfl | (simp; done) | (simp [*]; done)), (by first | rfl | (simp; done) | (simp [*]; done)), H', ⟨by have := HK1.out; omega⟩, by repeat (first | exact Drawn0.refl _ | apply Drawn0.step)⟩
        · rw [if_neg c4] at H
          exact absurd H (by simp)
      · rw [if_neg c3] at H
        have c3b0 : decide (x5_1 < (l0.length : Int)) = false := decide_eq_false c3
        clear c3
        obtain rfl := Option.some.inj H
        go_wp2
        go_ret
        exact ⟨by first | rfl | (simp; done) | (simp [*]; done), by repeat (first | exact Drawn0.refl _ | apply Drawn0.step)⟩

-- HAND with laws.markIntSS+laws.heldIntSS+laws.heldIntS
theorem heldSS_loop (a : Int) : ∀ (r p : List (List Int)) (b : Int), 0 ≤ b → b + 1048576 * r.length < 4611686018427387904 → (∀ x ∈ r, x.length ≤ 1048576) → p.length + r.length ≤ 1048576 → Ev (fun k => laws_heldIntSS.l0 k (p ++ markTo b r r.length) b p.length) (b + totTo r r.length)
  | [], p, b, h0, hb, hx, hp => by
    show Ev _ (b + 0)
    rw [Int.add_zero]
    have hl : ((p ++ markTo b [] ([] : List (List Int)).length).length : Int) = p.length := by
      rw [List.length_append, markTo_len]
      simp
    exact Ev.succ (fun k => by simp only [laws_heldIntSS.l0]; rw [if_neg (by omega)]) (Ev.const rfl)
  | x :: r, p, b, h0, hb, hx, hp => by
    have hxl := hx x List.mem_cons_self
    have hl : (x :: r).length = r.length + 1 := rfl
    rw [hl] at hb hp
    push_cast at hb
    have hm : markTo b (x :: r) (x :: r).length = numsFrom b x.length :: markTo (b + x.length) r r.length := rfl
    have hlen : ((p ++ markTo b (x :: r) (x :: r).length).length : Int) = p.length + r.length + 1 := by
      rw [List.length_append, markTo_len, hl]
      push_cast
      omega
    have hn := heldSS_loop a r (p ++ [numsFrom b x.length]) (b + x.length) (by omega) (by omega) (fun y hy => hx y (List.mem_cons_of_mem _ hy)) (by rw [List.length_append, List.length_singleton]; omega)
    rw [List.append_assoc, List.singleton_append, ← hm, List.length_append, List.length_singleton] at hn
    push_cast at hn
    have hrd : rd_L9 (p ++ markTo b (x :: r) (x :: r).length) (p.length : Int) = numsFrom b x.length := by
      show (p ++ markTo b (x :: r) (x :: r).length).getD ((p.length : Int)).toNat [] = _
      rw [Int.toNat_natCast, hm, List.getD_eq_getElem?_getD, List.getElem?_append_right (Nat.le_refl _), Nat.sub_self]
      rfl
    have hws : wrap64 ((p.length : Int) + 1) = p.length + 1 := wrap_succ (by omega) (by omega)
    have hlt : (p.length : Int) < ((p ++ markTo b (x :: r) (x :: r).length).length : Int) := by omega
    have hb2 : 0 ≤ b + (x.length : Int) := by omega
    show Ev _ (b + ((x.length : Int) + totTo r r.length))
    rw [← Int.add_assoc]
    have hh := heldIntS_ok b x.length h0 (by omega)
    refine Ev.succ (fun k => by simp only [laws_heldIntSS.l0]; rw [if_pos hlt, if_pos (Int.natCast_nonneg _), hrd, hws]) ?_
    refine Ev.bind hh ?_
    exact Ev.to (fun k => by rw [if_neg (Int.not_lt.2 hb2)]) hn
theorem heldSS_ok (a : Int) (ls : List (List Int)) (h0 : 0 ≤ a) (ha : a ≤ 1048577) (hn : ls.length ≤ 1048576) (hw : ∀ x ∈ ls, x.length ≤ 1048576) : Ev (fun k => laws_heldIntSS.f k (markTo a ls ls.length) a) (a + totTo ls ls.length) := by
  unfold laws_heldIntSS.f
  exact heldSS_loop a ls [] a h0 (by omega) hw (by simp; omega)

-- HAND laws_FnExactAllWords: function 7
def laws_FnExactAllWords.f (k : Nat) (n : Int) (l : List Int) : Option Bool := if (l.length : Int) ≤ 1048576 then (spec_AllWords.f k n l).bind fun a => (impl_AllWords.f k n l).bind fun b => if a = b ∧ rowsB b.1 = true then some true else none else some true
set_option maxHeartbeats 4000000 in
set_option maxRecDepth 100000 in
theorem laws_FnExactAllWords.calls (k : Nat) (n : Int) (A : Option Addr) (c : Nat) (l : List Int) (r : Bool) (w : World) (hr : Kd.C (Kd.int .i64) w A l.length l) (hc : l.length ≤ c) (h : laws_FnExactAllWords.f k n l = some r) (hT_ : Aside0 (r = true)) :
  Calls Try.prog 7 #[.agg #[.int .i64 n, .slice A l.length c]] w fun e w' => e = .returned (.bool r) ∧ Below w.heap.size w w' := by
 have hu := Try.underlying24
 have hu2 := Try.underlying28
 have HR := asd hr
 have HC := asd hc
 have HB0 := asd (Below.refl w.heap.size w)
 have hmx := Kd.C_max hr
 clear hr hc
 unfold laws_FnExactAllWords.f at h
 by_cases hlen : (l.length : Int) ≤ 1048576
 ·
  rw [if_pos hlen] at h
  obtain ⟨⟨ws, ok⟩, hs, h⟩ := Option.bind_eq_some_iff.1 h
  obtain ⟨⟨gs, ok2⟩, hi, h⟩ := Option.bind_eq_some_iff.1 h
  by_cases he : (ws, ok) = (gs, ok2) ∧ rowsB gs = true
  ·
   obtain ⟨he1, hrows⟩ := he
   cases he1
   rw [if_pos ⟨rfl, hrows⟩] at h
   obtain rfl := Option.some.inj h
   obtain ⟨hn1, hn2⟩ := rowsB_parts hrows
   have HS := asd hs
   have HI := asd hi
   obtain ⟨k1, h1⟩ := toSpace_ok n l (by omega)
   obtain ⟨k2, h2⟩ := eqIntSS_refl ws hn1 (fun x hx => Nat.le_trans (hn2 x hx) (by decide))
   obtain ⟨k3, h3⟩ := eqSpace_refl n l (by omega)
   obtain ⟨k4, h4⟩ := markSpace_ok n l 1 (by omega) (by omega)
   obtain ⟨k5, h5⟩ := heldSS_ok 1 ws (by omega) (by omega) hn1 hn2
   have hTot := (totTo_le ws hn2 ws.length).1
   have H1 := asd (h1 k1 (Nat.le_refl _))
   have H2 := asd (h2 k2 (Nat.le_refl _))
   have H3 := asd (h3 k3 (Nat.le_refl _))
   have H4 := asd (h4 k4 (Nat.le_refl _))
   have H5 := asd (h5 k5 (Nat.le_refl _))
   have HN1 := asd hn1
   have HN2 := asd hn2
   have HSZ : Aside0 (laws_szSpace.f n l 1048576 = some ((1048576 : Int) - (l.length : Int))) := ⟨szSpace_fits n l 1048576 (Int.le_refl _) hlen⟩
   obtain ⟨m, hm⟩ : ∃ m, m = (1 : Int) + totTo ws ws.length := ⟨_, rfl⟩
   have HM := asd hm
   have hm0 : ¬ m < 0 := by omega
   obtain ⟨ll, hll⟩ : ∃ ll : Int, ll = 1048576 - (l.length : Int) := ⟨_, rfl⟩
   have hl0 : ¬ ll < 0 := by omega
   obtain ⟨mk, hmk⟩ : ∃ mk : Int, mk = 1 + (l.length : Int) := ⟨_, rfl⟩
   have hmk0 : ¬ mk < 0 := by omega
   rw [← hll] at HSZ
   rw [← hmk] at H4
   rw [← hm] at H5
   clear hs hi h hrows hn1 hn2 h1 h2 h3 h4 h5 hTot hm hll hmk
   go_enter Try.func7, Try.ntmps7
   go_wp2_with (first | ((with_reducible refine gate_dst (N := 1) rfl ?_); refine box_event ?hg (N := 1) ?hd (cs := #[.int .i64 n, .slice A l.length c]) (t := 24) ?hr ?_; (case hd => rfl); (case hg => rfl); (case hr => first | (go_simp; done) | (go_simp; rfl)); intro g ge W1 gb W1b; have HB1 := asd (below_step (by repeat (first | exact HB0.out | apply pw_below_drewN | apply below_drew1 | apply below_alloc)) W1b); have BK1 := asd gb; have GE1 := asd ((by rw [ge]; exact below_size (by repeat (first | exact HB0.out | apply pw_below_drewN | apply below_drew1 | apply below_alloc))) : w.heap.size ≤ g); have GL1 := asd (blk_lt BK1.out); have p0 := (box_cells BK1.out).1; have p1 := (box_cells BK1.out).2; clear W1b gb ge) | (go_at_call 11; (refine (laws_szSpace.calls n _ _ l 1048576 ll _ (Kd.C_below HR.out HB1.out) HC.out HSZ.out).mono ?_); rintro e W2 ⟨rfl, hb⟩; have HB2 := asd (below_step HB1.out hb); have BK2 := asd ((hb.block g (blk_lt BK1.out)).trans BK1.out); have GL2 := asd (Nat.lt_of_lt_of_le GL1.out hb.size); clear hb p0 p1; have p0 := (box_cells BK2.out).1; have p1 := (box_cells BK2.out).2))
   go_wp2_with (first | (go_at_call 13; (refine (laws_toSpace.calls k1 n _ _ l n l _ (Kd.C_below HR.out HB2.out) HC.out H1.out).mono ?_); rintro e W3 ⟨v3, rfl, hR3, hb⟩; obtain ⟨A3, c3, rfl⟩ := Kd.R_slice hR3; have HR3 := asd hR3; have HB3 := asd (below_step HB2.out hb); have BK3 := asd ((hb.block g (blk_lt BK2.out)).trans BK2.out); have GL3 := asd (Nat.lt_of_lt_of_le GL2.out hb.size); clear hb hR3 p0 p1) | (go_at_call 26; (refine (spec_AllWords.calls k n _ _ l ws ok _ (Kd.R_reads' HR3.out).2.2 (Kd.R_reads' HR3.out).2.1 HS.out).mono ?_); rintro e W4 ⟨v4, rfl, hS4, hb⟩; have HS4 := asd (Kd.N_lower (Kd.N_mono (ok' := fun k => k < W4.heap.size) (Kd.N_bound hS4) (fun k hk => hk.2)) HB3.out.size); have HB4 := asd (below_step HB3.out hb); have BK4 := asd ((hb.block g (blk_lt BK3.out)).trans BK3.out); have GL4 := asd (Nat.lt_of_lt_of_le GL3.out hb.size); clear hb hS4; have p0 := (box_cells BK4.out).1; have p1 := (box_cells BK4.out).2))
   go_wp2_with (first | (go_at_call 13; (refine (laws_toSpace.calls k1 n _ _ l n l _ (Kd.C_below HR.out HB4.out) HC.out H1.out).mono ?_); rintro e W5 ⟨v5, rfl, hR5, hb⟩; obtain ⟨A5, c5, rfl⟩ := Kd.R_slice hR5; have HR5 := asd (Kd.R_lower (Kd.R_mono (ok' := fun k => W4.heap.size ≤ k ∧ k < W5.heap.size) (Kd.R_bound hR5) (fun k hk => ⟨hk.2.1, hk.2.2.1⟩)) HB4.out.size); have HS5 := asd (Kd.N_below HS4.out hb); have HB5 := asd (below_step HB4.out hb); have BK5 := asd ((hb.block g (blk_lt BK4.out)).trans BK4.out); have HZ5 := asd hb.size; have HXB := asd (below_alloc HB5.out (.cells #[.int .i64 n, .slice A5 l.length c5] 28)); clear hb hR5 p0 p1) | (go_at_call 27; (refine (impl_AllWords.calls k n _ _ l ws ok _ (Kd.C_alloc (Kd.R_reads' HR5.out).2.2 _) (Kd.R_reads' HR5.out).2.1 HI.out).mono ?_); rintro e W7 ⟨v7, rfl, hS7, hb⟩; have HL7 : Aside0 (LawRows w W7 g (.cells #[.int .i64 n, .slice A l.length c] 24 (0, 0)) W4.heap.size (W5.alloc (.cells #[.int .i64 n, .slice A5 l.length c5] 28)).heap.size v4 ws (.slice A5 l.length c5) l v7 ws) := ⟨⟨below_step HXB.out hb, GL4.out, Nat.le_trans HZ5.out (below_alloc (Below.refl _ _) _).size, HB4.out.size, (hb.block g (blk_lt (blk_alloc BK5.out _))).trans (blk_alloc BK5.out _), Kd.N_below (Kd.N_alloc HS5.out _) hb, Kd.R_mono (Kd.R_below (Kd.R_alloc HR5.out _) hb) (fun k hk => ⟨hk.1, Nat.lt_of_lt_of_le hk.2 (below_alloc (Below.refl W5.heap.size W5) _).size⟩), Kd.S_lower (Kd.S_mono (ok' := fun k => _ ≤ k) (Kd.S_bound hS7) (fun k hk => hk.2.1)) HXB.out.size⟩⟩; have BX7 := asd ((hb.block _ (blk_lt (heap_alloc_new W5 _))).trans (heap_alloc_new W5 (.cells #[.int .i64 n, .slice A5 l.length c5] 28))); obtain ⟨N3, hN3⟩ : ∃ N3, N3 = (W5.alloc (.cells #[.int .i64 n, .slice A5 l.length c5] 28)).heap.size := ⟨_, rfl⟩; rw [← hN3] at HL7; obtain ⟨A7, c7, rfl⟩ := Kd.S_slice HL7.out.res; obtain ⟨A4, c4, rfl⟩ := Kd.N_slice HL7.out.old; clear hb hS7 hN3) | (go_at_call 28; (refine (laws_eqIntSS.calls k2 _ _ ws _ _ ws true _ (Kd.S_reads' HL7.out.res).2.2 (Kd.S_reads' HL7.out.res).2.1 (Kd.N_reads' HL7.out.old).2.2 (Kd.N_reads' HL7.out.old).2.1 H2.out).mono ?_); rintro e w' ⟨rfl, ⟨nd, rfl⟩⟩; have HL8 := asd (HL7.out.drewN nd); have BX8 := asd (blk_drewN BX7.out nd); generalize World.drewN W7 nd = W8 at *))
   have HK10 : Aside0 (∀ w', Below W8.heap.size W8 w' → Aside0 (Below W8.heap.size W8 w') ∧ w'.cell? ⟨g, 0, none⟩ = some (.int .i64 n) ∧ w'.cell? ⟨g, 1, none⟩ = some (.slice A l.length c) ∧ w'.cell? ⟨W5.heap.size, 0, none⟩ = some (.int .i64 n) ∧ w'.cell? ⟨W5.heap.size, 1, none⟩ = some (.slice A5 l.length c5)) :=
    ⟨fun w' hb => ⟨⟨hb⟩, pw_cell_below hb (box_cells HL8.out.box).1, pw_cell_below hb (box_cells HL8.out.box).2, pw_cell_below hb (box_cells BX8.out).1, pw_cell_below hb (box_cells BX8.out).2⟩⟩
   go_region_held3 (fun w' => Aside0 (Below W8.heap.size W8 w') ∧ w'.cell? ⟨g, 0, none⟩ = some (.int .i64 n) ∧ w'.cell? ⟨g, 1, none⟩ = some (.slice A l.length c) ∧ w'.cell? ⟨W5.heap.size, 0, none⟩ = some (.int .i64 n) ∧ w'.cell? ⟨W5.heap.size, 1, none⟩ = some (.slice A5 l.length c5)) (first | exact HK10.out _ (Below.refl _ _) | exact HK10.out _ (below_drew1 (Below.refl _ _)) | exact HK10.out _ (below_step (‹Aside0 (Below W8.heap.size W8 _) ∧ _›).1.out (by assumption))) (first | (go_at_call 13; (refine (laws_toSpace.calls k1 n _ _ l n l _ (Kd.C_below (Kd.C_below HR.out HL8.out.bel) (‹Aside0 (Below W8.heap.size W8 _) ∧ _›).1.out) HC.out H1.out).mono ?_); rintro e W9 ⟨v9, rfl, hR9, hb9⟩; obtain ⟨A9, c9, rfl⟩ := Kd.R_slice hR9) | (go_at_call 15; (refine (laws_eqSpace.calls k3 n _ _ l n _ _ l true _ ?ea ?eb ?ec ?ed H3.out).mono ?_); (case ea => exact Kd.C_below (Kd.R_reads' HL8.out.row).2.2 (‹Aside0 (Below W8.heap.size W8 _) ∧ _›).1.out); (case eb => exact (Kd.R_reads' HL8.out.row).2.1); (case ec => first | exact (Kd.R_reads' hR9).2.2 | (with_reducible refine Kd.C_drew ?_; exact (Kd.R_reads' hR9).2.2) | exact Kd.C_below (Kd.R_reads' hR9).2.2 (by assumption)); (case ed => exact (Kd.R_reads' hR9).2.1); rintro e W10 ⟨rfl, hb10⟩))
   have HB10 := (‹Aside0 (Below W8.heap.size W8 _) ∧ _›).1
   have HL10 := asd (HL8.out.below HB10.out)
   have BX10 := asd ((HB10.out.block _ (blk_lt BX8.out)).trans BX8.out)
   have z0 := (box_cells BX10.out).1
   have z1 := (box_cells BX10.out).2
   clear HK10
   go_wp2_with (first | (go_at_call 23; (refine (laws_markSpace.calls k4 n (fun k_ => some k_ = (.slice A5 l.length c5 : Value).ownBlock) (.slice A5 l.length c5) l 1 mk _ w _ HL10.out.bel (Kd.R_tight rfl HL10.out.row) H4.out).mono ?_); rintro e W11 ⟨rfl, hR11, hb11, hk11⟩; have HL11 := asd (HL10.out.markX hk11 hb11 hR11); clear hR11 hb11 hk11) | (go_at_call 28; (refine (laws_eqIntSS.calls k2 _ _ ws _ _ ws true _ (Kd.S_reads' HL11.out.res).2.2 (Kd.S_reads' HL11.out.res).2.1 (Kd.N_reads' HL11.out.old).2.2 (Kd.N_reads' HL11.out.old).2.1 H2.out).mono ?_); rintro e w' ⟨rfl, ⟨nd, rfl⟩⟩; have HL12 := asd (HL11.out.drewN nd); generalize World.drewN W11 nd = W12 at *) | (go_at_call 29; (refine (laws_markIntSS.calls (fun k => N3 ≤ k) (.slice A7 ws.length c7) ws 1 w _ HL12.out.bel HL12.out.res (by decide) (by decide) HN1.out HN2.out).mono ?_); rintro e W13 ⟨he13, hS13, hb13, hk13⟩; rw [← HM.out] at he13; subst he13; have HL13 := asd (HL12.out.markG hk13 hb13 hS13); clear hS13 hb13 hk13; have HHELD : Aside0 (∀ (W : World), Kd.C (Kd.slice 3 (Kd.int .i64)) W A7 (markTo 1 ws ws.length).length (markTo 1 ws ws.length) → Calls Try.prog 30 #[.slice A7 ws.length c7, .int .i64 1] W fun e w' => e = .returned (.int .i64 m) ∧ Drawn0 W w') := ⟨fun W hC => by have h9 := laws_heldIntSS.calls k5 A7 c7 (markTo 1 ws ws.length) 1 m W hC (by rw [markTo_len]; exact (Kd.S_reads' HL13.out.res).2.1) H5.out; rw [markTo_len] at h9; exact h9⟩) | (go_at_call 30; (refine (HHELD.out _ (Kd.S_reads' HL13.out.res).2.2).mono ?_); rintro e w' ⟨rfl, ⟨nd, rfl⟩⟩; have HL14 := asd (HL13.out.drewN nd); generalize World.drewN W13 nd = W14 at *; have y0 := (box_cells HL14.out.box).1; have y1 := (box_cells HL14.out.box).2))
   go_wp2_with (first | (go_at_call 13; (refine (laws_toSpace.calls k1 n _ _ l n l _ (Kd.C_below HR.out HL14.out.bel) HC.out H1.out).mono ?_); rintro e W15 ⟨v15, rfl, hR15, hb⟩; obtain ⟨A15, c15, rfl⟩ := Kd.R_slice hR15; have HR15 := asd hR15; have HL15 := asd (HL14.out.below hb); clear hb hR15 y0 y1) | (go_at_call 27; (refine (impl_AllWords.calls k n _ _ l ws ok _ (Kd.R_reads' HR15.out).2.2 (Kd.R_reads' HR15.out).2.1 HI.out).mono ?_); rintro e W16 ⟨v16, rfl, hS16, hb⟩; obtain ⟨A16, c16, rfl⟩ := Kd.S_slice hS16; have HS16 := asd hS16; have HL16 := asd (HL15.out.below hb); clear hb hS16) | (go_at_call 28; (refine (laws_eqIntSS.calls k2 _ _ ws _ _ ws true _ (Kd.S_reads' HS16.out).2.2 (Kd.S_reads' HS16.out).2.1 (Kd.N_reads' HL16.out.old).2.2 (Kd.N_reads' HL16.out.old).2.1 H2.out).mono ?_); rintro e w' ⟨rfl, ⟨nd, rfl⟩⟩; have HL17 := asd (HL16.out.drewN nd); generalize World.drewN W16 nd = W17 at *) | (go_at_call 30; (refine (HHELD.out _ (Kd.S_reads' HL17.out.res).2.2).mono ?_); rintro e w' ⟨rfl, ⟨nd, rfl⟩⟩; have HL18 := asd (HL17.out.drewN nd)))
   go_ret
   exact ⟨rfl, HL18.out.bel⟩
  ·
   rw [if_neg he] at h
   cases h
 ·
  rw [if_neg hlen] at h
  obtain rfl := Option.some.inj h
  have HSZ : Aside0 (laws_szSpace.f n l 1048576 = some (-1)) := ⟨szSpace_over n l 1048576 (Int.le_refl _) hmx (by omega) (by decide)⟩
  clear h
  go_enter Try.func7, Try.ntmps7
  go_wp2_with (first | ((with_reducible refine gate_dst (N := 1) rfl ?_); refine box_event ?hg (N := 1) ?hd (cs := #[.int .i64 n, .slice A l.length c]) (t := 24) ?hr ?_; (case hd => rfl); (case hg => rfl); (case hr => first | (go_simp; done) | (go_simp; rfl)); intro g ge W1 gb W1b; have HB1 := asd (below_step (by repeat (first | exact HB0.out | apply pw_below_drewN | apply below_drew1 | apply below_alloc)) W1b); have BK1 := asd gb; have GE1 := asd ((by rw [ge]; exact below_size (by repeat (first | exact HB0.out | apply pw_below_drewN | apply below_drew1 | apply below_alloc))) : w.heap.size ≤ g); have p0 := (box_cells BK1.out).1; have p1 := (box_cells BK1.out).2; clear W1b gb ge) | (go_at_call 11; (refine (laws_szSpace.calls n _ _ l 1048576 (-1) _ (Kd.C_below HR.out HB1.out) HC.out HSZ.out).mono ?_); rintro e W2 ⟨rfl, hb⟩; have HB2 := asd (below_step HB1.out hb); clear hb))
  go_ret
  exact ⟨rfl, HB2.out⟩

end Go.Proofs.Ytkepeflplmkcmaa.Q
