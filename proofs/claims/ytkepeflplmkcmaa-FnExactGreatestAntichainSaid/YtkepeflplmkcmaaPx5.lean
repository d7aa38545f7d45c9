/- Contracts of functions that the laws reach: a call returns what the plain Lean function of the same name tells. Conditions: those of each theorem. Made by gen.py, a program of this session, over the print of the translation. -/
import Derived.Test.YtkepeflplmkcmaaPx0
import Derived.Test.YtkepeflplmkcmaaPx1
import Derived.Test.YtkepeflplmkcmaaPx2
import Derived.Test.YtkepeflplmkcmaaPx3
import Derived.Test.YtkepeflplmkcmaaPx4
namespace Go.Proofs.Ytkepeflplmkcmaa.Q
open Go.RowKit Go.Proofs.YtkepeflplmkcmaaW.PrintWords Go.Proofs.YtkepeflplmkcmaaW.PrintLast Go.Proofs.YtkepeflplmkcmaaW.PrintMore
attribute [local go_sem] max2_int min2_int max_two min_two max_three min_three max_four min_four   -- for this text's walks alone
set_option linter.unusedVariables false
set_option linter.unusedSimpArgs false

-- HAND with spec.cnIrreducible+spec.spInner+spec.spCount
theorem irr_loop {n : Int} {l : List Int} (hS : isSpaceB n l = true) (hlen : l.length < 1048577) : ∀ (d i : Nat) (acc : List Int), l.length - i = d → i ≤ l.length → acc.length + d ≤ l.length → Ev (fun k => spec_cnIrreducible.l0 k acc l l.length i n l) (acc ++ pathsL (famOf l) (l.drop i))
  | 0, i, acc, hd, hi, ha => by
    rw [List.drop_of_length_le (by omega)]
    exact Ev.succ (fun k => by simp only [spec_cnIrreducible.l0]; rw [if_neg (by omega)]) (Ev.const (by unfold pathsL; simp))
  | d + 1, i, acc, hd, hi, ha => by
    have hlt : i < l.length := by omega
    obtain ⟨h0, h1⟩ := isSpaceB_128 hS l[i] (List.getElem_mem hlt)
    have hr := risingB_rise (isSpaceB_parts hS).2.2.2.1
    have hn := fun acc' h' => irr_loop hS hlen d (i + 1) acc' (by omega) (by omega) h'
    push_cast at hn
    have hws : wrap64 ((i : Int) + 1) = i + 1 := wrap_succ (by omega) (by omega)
    rw [List.drop_eq_getElem_cons hlt]
    refine Ev.succ (fun k => by simp only [spec_cnIrreducible.l0]; rw [if_pos (by omega), if_pos (by omega), if_pos (by omega), hws, rd_get hlt]) ?_
    refine Ev.bind (spInner_ok hr (by omega) _ h0 h1) ?_
    refine Ev.bind (spCount_ok _ (innerF_lt _ _)) ?_
    by_cases h : cntN (innerF (famOf l) l[i].toNat) = 1
    · refine Ev.to (fun k => by rw [if_pos (by rw [h]; rfl), if_pos (by omega)]) ?_
      refine Ev.val (hn (acc ++ [l[i]]) (by rw [List.length_append, List.length_singleton]; omega)) ?_
      unfold pathsL
      rw [List.filter_cons, if_pos (decide_eq_true h), List.append_assoc]
      rfl
    · refine Ev.to (fun k => by rw [if_neg (fun e => h (by exact_mod_cast e))]) ?_
      refine Ev.val (hn acc (by omega)) ?_
      unfold pathsL
      rw [List.filter_cons, if_neg (by rw [decide_eq_false h]; decide)]
theorem irr_ok {n : Int} {l : List Int} (hS : isSpaceB n l = true) (hlen : l.length < 1048577) : Ev (fun k => spec_cnIrreducible.f k n l) (pathsL (famOf l) l) := by
  unfold spec_cnIrreducible.f
  exact irr_loop hS hlen l.length 0 [] (by omega) (by omega) (by simp)

/-! ### spec_l1Own: function 113 -/
def spec_l1Own.f (l0 : List Int) : Option (List Int) := (some (([] : List Int) : List Int)).bind fun y101 => (if y101.length + l0.length < 17592186044416 then (some (y101 ++ l0)) else (none))
set_option maxHeartbeats 8000000 in
set_option maxRecDepth 100000 in
theorem spec_l1Own.calls (A0 : Option Addr) (c0 : Nat) (l0 : List Int) (r : List Int) (w : World) (hr0 : Kd.C (Kd.int .i64) w A0 l0.length l0) (hc0 : l0.length ≤ c0) (h : spec_l1Own.f l0 = some r) :
    Calls Try.prog 113 #[.slice A0 l0.length c0] w fun e w' => ∃ v0_ : Value, e = .returned (v0_) ∧ Kd.R (Kd.int .i64) 3 w' w.heap.size (fun _ => True) v0_ r ∧ Below w.heap.size w w' := by
  have HR0 := Aside0.mk hr0
  have HC0 := Aside0.mk hc0
  clear hr0 hc0
  have HB := Aside0.mk (Below.refl w.heap.size w)
  have H : ((some (([] : List Int) : List Int)).bind fun y101 => (if y101.length + l0.length < 17592186044416 then (some (y101 ++ l0)) else (none))) = some r := h
  clear h
  obtain ⟨y101, hy101⟩ : ∃ y_ : List Int, y_ = (([] : List Int)) := ⟨_, rfl⟩
  replace H : (if y101.length + l0.length < 17592186044416 then (some (y101 ++ l0)) else (none)) = some r := by first | (rw [hy101]; with_reducible exact H) | (have H2_ := (Option.bind_some _ _).symm.trans H; rw [hy101]; with_reducible exact H2_) | (have H2_ := (Option.bind_some _ _).symm.trans H; with_reducible exact H2_) | with_reducible exact H | (rw [hy101]; exact H) | exact H
  have Ny101 := Aside0.mk hy101
  clear hy101
  by_cases c2 : y101.length + l0.length < 17592186044416
  · rw [if_pos c2] at H
    have LMc2 := Aside0.mk c2
    clear c2
    obtain ⟨y104, hy104⟩ : ∃ y_ : List Int, y_ = (y101 ++ l0) := ⟨_, rfl⟩
    replace H : (some y104) = some r := by first | (rw [hy104]; with_reducible exact H) | (have H2_ := (Option.bind_some _ _).symm.trans H; rw [hy104]; with_reducible exact H2_) | (have H2_ := (Option.bind_some _ _).symm.trans H; with_reducible exact H2_) | with_reducible exact H | (rw [hy104]; exact H) | exact H
    have Ny104 := Aside0.mk hy104
    clear hy104
    obtain rfl := Option.some.inj H
    go_enter Try.func113, Try.ntmps113
    go_wp2_with (first | ((with_reducible refine gate_dst (N := 3) rfl ?_); refine Kd.R_lit (Kd.int .i64) _ 3 ?hg (N := 3) ?hd (xs := ([] : List Int)) (inner := []) (ok := fun _ => True) (okp := fun _ => True) ?hr ?hp (fun _ hk => hk) trivial (Below.refl _ _) (Nat.le_refl _) (by simp) ?_; (case hd => rfl); (case hg => rfl); (case hr => first | (go_simp; done) | (go_simp; rfl)); (case hp => exact (Reps.none _ _)); intro v102 w3 ho4 hb hg_ hnew_; clear hg_ hnew_; (first | rw [← Ny101.out] at ho4 | (simp only [Int.reduceToNat] at ho4; rw [← Ny101.out] at ho4)); have n0_ := Aside0.mk (Kd.R_lower ho4 (below_size (by repeat (first | (with_reducible first | exact HB.out | apply below_alloc | apply pw_below_drewN | apply below_drew1) | exact HB.out)))); have n1_ := Aside0.mk (below_step (by repeat (first | (with_reducible first | exact HB.out | apply below_alloc | apply pw_below_drewN | apply below_drew1) | exact HB.out)) hb); clear HB; have HO103 := n0_; have HB := n1_; clear n0_ n1_; clear hb ho4) | ((with_reducible refine gate_builtin (b := .append) (xs := #[.tmp 3, .tmp 4]) rfl ?_); at_builtin; refine Kd.R_append_rows (Kd.int .i64) (w0 := w) w.heap.size rfl (.tmp 3) (.tmp 4) 22 3 (.int .i64 0) 8 rfl Try.underlying22 info3 rfl (by decide) (by omega) v102 y101 l0 _ _ _ (fun _ => True) (fun _ => False) rfl rfl ?aO ?aR (fun _ _ h => h) (fun _ h => h.elim) ?aF ?aB ?aS ?aL ?_; (case aR => repeat (first | exact (Kd.C_below HR0.out HB.out) | (with_reducible refine Kd.C_alloc ?_ _) | (with_reducible refine Kd.C_drewN ?_ _) | (with_reducible refine Kd.C_drew ?_))); (case aB => exact (by repeat (first | (with_reducible first | exact HB.out | apply below_alloc | apply pw_below_drewN | apply below_drew1) | exact HB.out))); (case aF => exact (fun _ _ => trivial)); (case aO => exact (by (with_reducible repeat (first | apply Kd.R_alloc | apply Kd.R_drewN | apply Kd.R_drew)); exact HO103.out)); (case aS => exact (below_size (by repeat (first | (with_reducible first | exact HB.out | apply below_alloc | apply pw_below_drewN | apply below_drew1) | exact HB.out)))); (case aL => have := LMc2.out; omega); intro v105 w5 ho hb hg hat; rw [← Ny104.out] at ho; have n0_ := Aside0.mk (hb); have n1_ := Aside0.mk (ho); clear HB; clear HO103; have HB := n0_; have HO106 := n1_; clear n0_ n1_; clear ho hb hg hat))
    go_ret
    exact ⟨_, by first | rfl | (simp [errW_none, errW_some] <;> rfl) | (simp [*, errW_none, errW_some] <;> rfl), by (with_reducible repeat (first | apply Kd.R_alloc | apply Kd.R_drewN | apply Kd.R_drew)); exact HO106.out, by repeat (first | (with_reducible first | exact HB.out | apply below_alloc | apply pw_below_drewN | apply below_drew1) | exact HB.out)⟩
  · rw [if_neg c2] at H
    exact absurd H (by simp)

/-! ### spec_cnParts: function 134 -/
def spec_cnParts.f (a0 : Int) (a1 : Int) : Option (Bool) := some ((Go.bits .andNot .i64 a0 a1) == 0)
set_option maxHeartbeats 8000000 in
set_option maxRecDepth 100000 in
theorem spec_cnParts.calls (a0 : Int) (a1 : Int) (r : Bool) (w : World) (h : spec_cnParts.f a0 a1 = some r) :
    Calls Try.prog 134 #[.int .i64 a0, .int .i64 a1] w fun e w' => e = .returned (.bool r) ∧ Drawn0 w w' := by
  have H : (some ((Go.bits .andNot .i64 a0 a1) == 0)) = some r := h
  clear h
  obtain rfl := Option.some.inj H
  go_enter Try.func134, Try.ntmps134
  go_wp2
  go_ret
  exact ⟨by first | rfl | (simp; done) | (simp [*]; done), by repeat (first | exact Drawn0.refl _ | apply Drawn0.step)⟩

/-! ### spec_cnAntichain: function 119 -/
mutual
def spec_cnAntichain.l0 : Nat → List Int → List Int → Int → Int → Option (Bool)
 | 0, _, _, _, _ => none
 | k + 1, x0, x7, x8, x9 => if x9 < x8 then (if 0 ≤ x9 then (if x9 < (x7.length : Int) then (spec_cnAntichain.l1 k x0 x9 (rd x7 x9) x7 x8 x9 x0 (x0.length : Int) 0) else (none)) else (none)) else (some true)
def spec_cnAntichain.l1 : Nat → List Int → Int → Int → List Int → Int → Int → List Int → Int → Int → Option (Bool)
 | 0, _, _, _, _, _, _, _, _, _ => none
 | k + 1, x0, x3, x4, x7, x8, x9, x14, x15, x16 => if x16 < x15 then (if 0 ≤ x16 then (if x16 < (x14.length : Int) then (if x3 = x16 then (spec_cnAntichain.l1 k x0 x3 x4 x7 x8 x9 x14 x15 (wrap64 (x16 + 1))) else ((spec_cnParts.f x4 (rd x14 x16)).bind fun t103 => (if t103 = true then (some false) else (spec_cnAntichain.l1 k x0 x3 x4 x7 x8 x9 x14 x15 (wrap64 (x16 + 1)))))) else (none)) else (none)) else (spec_cnAntichain.l0 k x0 x7 x8 (wrap64 (x9 + 1)))
end
def spec_cnAntichain.f (k : Nat) (l0 : List Int) : Option (Bool) := spec_cnAntichain.l0 k l0 l0 (l0.length : Int) 0
theorem spec_cnAntichain.mono_l : ∀ k, (∀ y0 y1 y2 y3, LeO (spec_cnAntichain.l0 k y0 y1 y2 y3) (spec_cnAntichain.l0 (k + 1) y0 y1 y2 y3)) ∧ (∀ y0 y1 y2 y3 y4 y5 y6 y7 y8, LeO (spec_cnAntichain.l1 k y0 y1 y2 y3 y4 y5 y6 y7 y8) (spec_cnAntichain.l1 (k + 1) y0 y1 y2 y3 y4 y5 y6 y7 y8))
 | 0 => ⟨fun _ _ _ _ r h => by simp [spec_cnAntichain.l0] at h, fun _ _ _ _ _ _ _ _ _ r h => by simp [spec_cnAntichain.l1] at h⟩
 | k + 1 => by
  obtain ⟨ih0, ih1⟩ := spec_cnAntichain.mono_l k
  refine ⟨?_, ?_⟩
  ·
   intro y0 y1 y2 y3
   unfold spec_cnAntichain.l0
   repeat' first
   | (with_reducible exact ih0 _ _ _ _)
   | (with_reducible exact ih1 _ _ _ _ _ _ _ _ _)
   | (with_reducible exact LeO.refl _)
   | (with_reducible exact LeO.none _)
   | (with_reducible refine LeO.ite ?_ ?_)
   | (with_reducible refine LeO.bind ?_ (fun _ => ?_))
   | exact ih0 _ _ _ _
   | exact ih1 _ _ _ _ _ _ _ _ _
   | exact LeO.none _
   | refine LeO.ite ?_ ?_
   | refine LeO.bind ?_ (fun _ => ?_)
  ·
   intro y0 y1 y2 y3 y4 y5 y6 y7 y8
   unfold spec_cnAntichain.l1
   repeat' first
   | (with_reducible exact ih0 _ _ _ _)
   | (with_reducible exact ih1 _ _ _ _ _ _ _ _ _)
   | (with_reducible exact LeO.refl _)
   | (with_reducible exact LeO.none _)
   | (with_reducible refine LeO.ite ?_ ?_)
   | (with_reducible refine LeO.bind ?_ (fun _ => ?_))
   | exact ih0 _ _ _ _
   | exact ih1 _ _ _ _ _ _ _ _ _
   | exact LeO.none _
   | refine LeO.ite ?_ ?_
   | refine LeO.bind ?_ (fun _ => ?_)
theorem spec_cnAntichain.mono : ∀ a0 k, LeO (spec_cnAntichain.f k a0) (spec_cnAntichain.f (k + 1) a0) := by
 intro a0 k
 obtain ⟨ih0, ih1⟩ := spec_cnAntichain.mono_l k
 unfold spec_cnAntichain.f
 repeat' first
   | (with_reducible exact ih0 _ _ _ _)
   | (with_reducible exact ih1 _ _ _ _ _ _ _ _ _)
   | (with_reducible exact LeO.refl _)
   | (with_reducible exact LeO.none _)
   | (with_reducible refine LeO.ite ?_ ?_)
   | (with_reducible refine LeO.bind ?_ (fun _ => ?_))
   | exact ih0 _ _ _ _
   | exact ih1 _ _ _ _ _ _ _ _ _
   | exact LeO.none _
   | refine LeO.ite ?_ ?_
   | refine LeO.bind ?_ (fun _ => ?_)
set_option maxHeartbeats 8000000 in
set_option maxRecDepth 100000 in
theorem spec_cnAntichain.calls (k : Nat) (A0 : Option Addr) (c0 : Nat) (l0 : List Int) (r : Bool) (w : World) (hr0 : Kd.C (Kd.int .i64) w A0 l0.length l0) (hc0 : l0.length ≤ c0) (h : spec_cnAntichain.f k l0 = some r) :
  Calls Try.prog 119 #[.slice A0 l0.length c0] w fun e w' => e = .returned (.bool r) ∧ Drawn0 w w' := by
 have HR0 := asd hr0
 have HC0 := asd hc0
 clear hr0 hc0
 have H : (spec_cnAntichain.l0 k l0 l0 (l0.length : Int) 0) = some r := h
 clear h
 have H' := asd H
 clear H
 go_enter Try.func119, Try.ntmps119
 go_wp2
 go_loopg [9] k (fun kq v9 w' => ∃ (x9_1 : Int), v9 = .int .i64 x9_1 ∧ Aside0 (spec_cnAntichain.l0 kq l0 l0 (l0.length : Int) x9_1 = some r) ∧ Aside0 (kq ≤ k) ∧ Drawn0 w w')
 case atStart => exact ⟨(0), (by first | rfl | (simp; done) | (simp [*]; done)), H', ⟨Nat.le_refl _⟩, by repeat (first | exact Drawn0.refl _ | apply Drawn0.step)⟩
 case round =>
  clear H'
  try clear c1
  skip
  obtain ⟨x9_1, rfl, HA, HK1, ⟨m1, rfl⟩⟩ := hrel
  cases gk with
  | zero => exact absurd HA.out (by simp [spec_cnAntichain.l0])
  | succ k1 =>
   have H := HA.out
   clear HA
   simp only [spec_cnAntichain.l0] at H
   by_cases c2 : x9_1 < (l0.length : Int)
   ·
    rw [if_pos c2] at H
    have c2b0 : decide (x9_1 < (l0.length : Int)) = true := decide_eq_true c2
    clear c2
    by_cases c3 : 0 ≤ x9_1
    ·
     rw [if_pos c3] at H
     have c3b0 : decide (0 ≤ x9_1) = true := decide_eq_true c3
     clear c3
     by_cases c4 : x9_1 < (l0.length : Int)
     ·
      rw [if_pos c4] at H
      have c4b0 : decide (x9_1 < (l0.length : Int)) = true := decide_eq_true c4
      clear c4
      have H' := asd H
      clear H
      have p101 : 0 ≤ (x9_1 : Int) := of_decide_eq_true (by first | (with_reducible assumption) | assumption)
      have q101 : x9_1 < (l0.length : Int) := of_decide_eq_true (by first | (with_reducible assumption) | assumption)
      obtain ⟨ad101, e101, hx101_0⟩ := Kd.at_int HR0.out x9_1 p101 q101
      cases e101
      replace p101 := eq_true p101
      replace q101 := eq_true q101
      go_wp2
      go_loopg [16] k1 (fun kq v16 w' => ∃ (x16_2 : Int), v16 = .int .i64 x16_2 ∧ Aside0 (spec_cnAntichain.l1 kq l0 x9_1 (rd l0 x9_1) l0 (l0.length : Int) x9_1 l0 (l0.length : Int) x16_2 = some r) ∧ Aside0 (kq ≤ k1) ∧ Drawn0 w w')
      case atStart => exact ⟨(0), (by first | rfl | (simp; done) | (simp [*]; done)), H', ⟨Nat.le_refl _⟩, by repeat (first | exact Drawn0.refl _ | apply Drawn0.step)⟩
      case round =>
       clear H'
       try clear c1
       try clear p1
       try clear q1
       try clear hx1
       try clear c2
       try clear c2b0
       try clear p2
       try clear c3
       try clear c3b0
       try clear c4
       try clear c4b0
       try clear hx101_0
       try clear p101
       try clear q101
       skip
       obtain ⟨x16_2, rfl, HA, HK2, ⟨m2, rfl⟩⟩ := hrel
       cases gk with
       | zero => exact absurd HA.out (by simp [spec_cnAntichain.l1])
       | succ k2 =>
        have H := HA.out
        clear HA
        simp only [spec_cnAntichain.l1] at H
        by_cases c5 : x16_2 < (l0.length : Int)
        ·
         rw [if_pos c5] at H
         have c5b0 : decide (x16_2 < (l0.length : Int)) = true := decide_eq_true c5
         clear c5
         by_cases c6 : 0 ≤ x16_2
         ·
          rw [if_pos c6] at H
          have c6b0 : decide (0 ≤ x16_2) = true := decide_eq_true c6
          clear c6
          by_cases c7 : x16_2 < (l0.length : Int)
          ·
           rw [if_pos c7] at H
           have c7b0 : decide (x16_2 < (l0.length : Int)) = true := decide_eq_true c7
           clear c7
           by_cases c8 : x9_1 = x16_2
           ·
            rw [if_pos c8] at H
            have c8b0 : (x9_1 == x16_2) = true := beq_iff_eq.mpr c8
            have c8b1 : (x9_1 != x16_2) = false := bne_eq_false_iff_eq.mpr c8
            clear c8
            have H' := asd H
            clear H
            have p102 : 0 ≤ (x16_2 : Int) := of_decide_eq_true (by first | (with_reducible assumption) | assumption)
            have q102 : x16_2 < (l0.length : Int) := of_decide_eq_true (by first | (with_reducible assumption) | assumption)
            obtain ⟨ad102, e102, hx102_0⟩ := Kd.at_int HR0.out x16_2 p102 q102
            obtain rfl : ad101 = ad102 := (by injection e102)
            replace p102 := eq_true p102
            replace q102 := eq_true q102
            go_wp2
            go_roundg k2
            case measure => have := HK1.out; have := HK2.out; omega
            case rel => exact ⟨(wrap64 (x16_2 + 1)), (by first | rfl | (simp; done) | (simp [*]; done)), H', ⟨by have := HK1.out; have := HK2.out; omega⟩, by repeat (first | exact Drawn0.refl _ | apply Drawn0.step)⟩
           ·
            rw [if_neg c8] at H
            have c8b0 : (x9_1 == x16_2) = false := beq_eq_false_iff_ne.mpr c8
            have c8b1 : (x9_1 != x16_2) = true := bne_iff_ne.mpr c8
            replace H := Option.bind_eq_some_iff.mp H
            obtain ⟨t103, A90, H⟩ := H
            replace H : (if t103 = true then (some false) else (spec_cnAntichain.l1 k2 l0 x9_1 (rd l0 x9_1) l0 (l0.length : Int) x9_1 l0 (l0.length : Int) (wrap64 (x16_2 + 1)))) = some r := H
            have A9 := asd A90
            clear A90
            by_cases c10 : t103 = true
            ·
             subst c10
             have H1 : (some false) = some r := by rw [if_pos rfl] at H; exact H
             clear H
             have H := H1
             clear H1
             obtain rfl := Option.some.inj H
             have p102 : 0 ≤ (x16_2 : Int) := of_decide_eq_true (by first | (with_reducible assumption) | assumption)
             have q102 : x16_2 < (l0.length : Int) := of_decide_eq_true (by first | (with_reducible assumption) | assumption)
             obtain ⟨ad102, e102, hx102_0⟩ := Kd.at_int HR0.out x16_2 p102 q102
             obtain rfl : ad101 = ad102 := (by injection e102)
             replace p102 := eq_true p102
             replace q102 := eq_true q102
             go_wp2_with (first | (go_at_call 134; (with_reducible refine (spec_cnParts.calls (rd l0 x9_1) (rd l0 x16_2) true _ A9.out).mono ?_); rintro e w' ⟨rfl, ⟨nd, rfl⟩⟩))
             go_ret
             exact ⟨by first | rfl | (simp; done) | (simp [*]; done), by repeat (first | exact Drawn0.refl _ | apply Drawn0.step)⟩
            ·
             replace c10 := Bool.eq_false_iff.mpr c10
             subst c10
             have H1 : (spec_cnAntichain.l1 k2 l0 x9_1 (rd l0 x9_1) l0 (l0.length : Int) x9_1 l0 (l0.length : Int) (wrap64 (x16_2 + 1))) = some r := by rw [if_neg (show ¬ (false = true) by decide)] at H; exact H
             clear H
             have H := H1
             clear H1
             have H' := asd H
             clear H
             have p102 : 0 ≤ (x16_2 : Int) := of_decide_eq_true (by first | (with_reducible assumption) | assumption)
             have q102 : x16_2 < (l0.length : Int) := of_decide_eq_true (by first | (with_reducible assumption) | assumption)
             obtain ⟨ad102, e102, hx102_0⟩ := Kd.at_int HR0.out x16_2 p102 q102
             obtain rfl : ad101 = ad102 := (by injection e102)
             replace p102 := eq_true p102
             replace q102 := eq_true q102
             go_wp2_with (first | (go_at_call 134; (with_reducible refine (spec_cnParts.calls (rd l0 x9_1) (rd l0 x16_2) false _ A9.out).mono ?_); rintro e w' ⟨rfl, ⟨nd, rfl⟩⟩))
             go_roundg k2
             case measure => have := HK1.out; have := HK2.out; omega
             case rel => exact ⟨(wrap64 (x16_2 + 1)), (by first | rfl | (simp; done) | (simp [*]; done)), H', ⟨by have := HK1.out; have := HK2.out; omega⟩, by repeat (first | exact Drawn0.refl _ | apply Drawn0.step)⟩
          ·
           rw [if_neg c7] at H
           exact absurd H (by simp)
         ·
          rw [if_neg c6] at H
          exact absurd H (by simp)
        ·
         rw [if_neg c5] at H
         have c5b0 : decide (x16_2 < (l0.length : Int)) = false := decide_eq_false c5
         clear c5
         have H' := asd H
         clear H
         go_wp2
         go_roundg k2
         case measure => have := HK1.out; have := HK2.out; omega
         case rel => exact ⟨(wrap64 (x9_1 + 1)), (by first | rfl | (simp; done) | (simp [*]; done)), H', ⟨by have := HK1.out; have := HK2.out; omega⟩, by repeat (first | exact Drawn0.refl _ | apply Drawn0.step)⟩
     ·
      rw [if_neg c4] at H
      exact absurd H (by simp)
    ·
     rw [if_neg c3] at H
     exact absurd H (by simp)
   ·
    rw [if_neg c2] at H
    have c2b0 : decide (x9_1 < (l0.length : Int)) = false := decide_eq_false c2
    clear c2
    obtain rfl := Option.some.inj H
    go_wp2
    go_ret
    exact ⟨by first | rfl | (simp; done) | (simp [*]; done), by repeat (first | exact Drawn0.refl _ | apply Drawn0.step)⟩

-- HAND with spec.cnAntichain+spec.cnParts
section
variable (l : List Int) (hlen : l.length < 9223372036854775807) (hM : ∀ x ∈ l, I128 x)
include hlen hM
theorem sp_anti : ∀ (fuel : Nat), (∀ (b a : List Int), b.length < fuel → a ++ b = l → Ev (fun k => spec_cnAntichain.l0 k l l l.length a.length) (antiOut l a.length b)) := by
  intro fuel
  induction fuel with
  | zero => intro b a h _; exact absurd h (Nat.not_lt_zero _)
  | succ fuel ih =>
    intro b a hf hab
    match b, hf, hab with
    | [], _, hab =>
      rw [List.append_nil] at hab
      subst hab
      exact Ev.succ (fun k => by simp only [spec_cnAntichain.l0]; rw [if_neg (by omega)]) (Ev.const (by rw [antiOut]))
    | x :: b, hf, hab =>
      have hlt : a.length < l.length := by rw [← hab]; simp
      have hrd : rd l (a.length : Int) = x := by rw [← hab]; exact rd_append a b x
      have hx := hM x (by rw [← hab]; simp)
      refine Ev.succ (fun k => by simp only [spec_cnAntichain.l0]; rw [if_pos (by omega), if_pos (by omega), if_pos (by omega), hrd]) ?_
      have hin : ∀ (d c : List Int), c ++ d = l → Ev (fun k => spec_cnAntichain.l1 k l a.length x l l.length a.length l l.length c.length) (antiIn x a.length c.length d && antiOut l (a.length + 1) b) := by
        intro d
        induction d with
        | nil =>
          intro c hc
          rw [List.append_nil] at hc
          subst hc
          refine Ev.succ (fun k => by simp only [spec_cnAntichain.l1]; rw [if_neg (by omega), wrap_succ (by omega) (by omega)]) ?_
          have := ih b (a ++ [x]) (by simp only [List.length_cons] at hf; omega) (by rw [List.append_assoc]; exact hab)
          rw [List.length_append, List.length_singleton] at this
          push_cast at this
          rw [antiIn, Bool.true_and]
          exact this
        | cons y d ihd =>
          intro c hc
          have hlt2 : c.length < l.length := by rw [← hc]; simp
          have hrd2 : rd l (c.length : Int) = y := by rw [← hc]; exact rd_append c d y
          have hy := hM y (by rw [← hc]; simp)
          have hnext := ihd (c ++ [y]) (by rw [List.append_assoc]; exact hc)
          rw [List.length_append, List.length_singleton] at hnext
          push_cast at hnext
          rw [antiIn]
          by_cases he : a.length = c.length
          · rw [decide_eq_true he, Bool.true_or, Bool.true_and]
            exact Ev.succ (fun k => by simp only [spec_cnAntichain.l1]; rw [if_pos (by omega), if_pos (by omega), if_pos (by omega), if_pos (by omega), wrap_succ (by omega) (by omega)]) hnext
          · rw [decide_eq_false he, Bool.false_or]
            refine Ev.succ (fun k => by simp only [spec_cnAntichain.l1]; rw [if_pos (by omega), if_pos (by omega), if_pos (by omega), if_neg (by omega), hrd2]) ?_
            refine Ev.bindc (a := decide (nd x.toNat y.toNat = 0)) (by unfold spec_cnParts.f; rw [nd_int hx hy]; congr 1; rw [Bool.eq_iff_iff, beq_iff_eq, decide_eq_true_eq]; omega) ?_
            cases decide (nd x.toNat y.toNat = 0) with
            | true => exact Ev.to (fun k => by rw [if_pos rfl]) (Ev.const (by simp))
            | false =>
              rw [Bool.not_false, Bool.true_and]
              exact Ev.to (fun k => by rw [if_neg (by decide), wrap_succ (by omega) (by omega)]) hnext
      have := hin l [] rfl
      rw [antiOut]
      exact this
end

end Go.Proofs.Ytkepeflplmkcmaa.Q
