/- Contracts of functions that the laws reach: a call returns what the plain Lean function of the same name tells. Conditions: those of each theorem. Made by gen.py, a program of this session, over the print of the translation. -/
import Derived.Test.YtpamaelmdncpoaaPx0
import Derived.Test.YtpamaelmdncpoaaPx1
namespace Go.Proofs.Ytpamaelmdncpoaa.Q
open Go.RowKit Go.Proofs.YtpamaelmdncpoaaW.PrintWords Go.Proofs.YtpamaelmdncpoaaW.PrintLast Go.Proofs.YtpamaelmdncpoaaW.PrintMore
attribute [local go_sem] max2_int min2_int max_two min_two max_three min_three max_four min_four   -- for this text's walks alone
set_option linter.unusedVariables false
set_option linter.unusedSimpArgs false

/-! ### impl_family_closed: function 93 -/
mutual
def impl_family_closed.l0 : Nat → List Bool → Int → Option (List Bool)
  | 0, _, _ => none
  | k + 1, x0, x8 => if x8 < 128 then (impl_family_closed.l1 k x0 x8 x8 x8 0) else (some x0)
def impl_family_closed.l1 : Nat → List Bool → Int → Int → Int → Int → Option (List Bool)
  | 0, _, _, _, _, _ => none
  | k + 1, x0, x3, x8, x11, x12 => if x12 < x11 then (if 0 ≤ x3 then (if x3 < 128 then (if rdOf false x0 x3 = true then (if 0 ≤ x12 then (if x12 < 128 then (if rdOf false x0 x12 = true then (if 0 ≤ (Go.bits .or .i64 x3 x12) then (if (Go.bits .or .i64 x3 x12) < 128 then (impl_family_closed.l1 k (x0.set ((Go.bits .or .i64 x3 x12) : Int).toNat true) x3 x8 x11 (wrap64 (x12 + 1))) else (none)) else (none)) else (impl_family_closed.l1 k x0 x3 x8 x11 (wrap64 (x12 + 1)))) else (none)) else (none)) else (impl_family_closed.l1 k x0 x3 x8 x11 (wrap64 (x12 + 1)))) else (none)) else (none)) else (impl_family_closed.l0 k x0 (wrap64 (x8 + 1)))
end
def impl_family_closed.f (k : Nat) (l0 : List Bool) : Option (List Bool) := if l0.length = 128 then (if 0 < 128 then (impl_family_closed.l0 k (l0.set (0 : Int).toNat true) 0) else (none)) else none
theorem impl_family_closed.mono_l : ∀ k, (∀ y0 y1, LeO (impl_family_closed.l0 k y0 y1) (impl_family_closed.l0 (k + 1) y0 y1)) ∧ (∀ y0 y1 y2 y3 y4, LeO (impl_family_closed.l1 k y0 y1 y2 y3 y4) (impl_family_closed.l1 (k + 1) y0 y1 y2 y3 y4))
  | 0 => ⟨fun _ _ r h => by simp [impl_family_closed.l0] at h, fun _ _ _ _ _ r h => by simp [impl_family_closed.l1] at h⟩
  | k + 1 => by
    obtain ⟨ih0, ih1⟩ := impl_family_closed.mono_l k
    refine ⟨?_, ?_⟩
    · intro y0 y1
      unfold impl_family_closed.l0
      repeat' first
      | (with_reducible exact ih0 _ _)
      | (with_reducible exact ih1 _ _ _ _ _)
      | (with_reducible exact LeO.refl _)
      | (with_reducible exact LeO.none _)
      | (with_reducible refine LeO.ite ?_ ?_)
      | (with_reducible refine LeO.bind ?_ (fun _ => ?_))
      | exact ih0 _ _
      | exact ih1 _ _ _ _ _
      | exact LeO.none _
      | refine LeO.ite ?_ ?_
      | refine LeO.bind ?_ (fun _ => ?_)
    · intro y0 y1 y2 y3 y4
      unfold impl_family_closed.l1
      repeat' first
      | (with_reducible exact ih0 _ _)
      | (with_reducible exact ih1 _ _ _ _ _)
      | (with_reducible exact LeO.refl _)
      | (with_reducible exact LeO.none _)
      | (with_reducible refine LeO.ite ?_ ?_)
      | (with_reducible refine LeO.bind ?_ (fun _ => ?_))
      | exact ih0 _ _
      | exact ih1 _ _ _ _ _
      | exact LeO.none _
      | refine LeO.ite ?_ ?_
      | refine LeO.bind ?_ (fun _ => ?_)
theorem impl_family_closed.mono : ∀ a0 k, LeO (impl_family_closed.f k a0) (impl_family_closed.f (k + 1) a0) := by
  intro a0 k
  obtain ⟨ih0, ih1⟩ := impl_family_closed.mono_l k
  unfold impl_family_closed.f
  repeat' first
      | (with_reducible exact ih0 _ _)
      | (with_reducible exact ih1 _ _ _ _ _)
      | (with_reducible exact LeO.refl _)
      | (with_reducible exact LeO.none _)
      | (with_reducible refine LeO.ite ?_ ?_)
      | (with_reducible refine LeO.bind ?_ (fun _ => ?_))
      | exact ih0 _ _
      | exact ih1 _ _ _ _ _
      | exact LeO.none _
      | refine LeO.ite ?_ ?_
      | refine LeO.bind ?_ (fun _ => ?_)
set_option maxHeartbeats 8000000 in
set_option maxRecDepth 100000 in
theorem impl_family_closed.calls (k : Nat) (P0_ : Nat → Prop) (u9000_ : Value) (l0 : List Bool) (r : List Bool) (w0 w : World) (hB : Below w0.heap.size w0 w) (ho0 : Kd.R Kd.bool 88 w w0.heap.size P0_ u9000_ l0) (h : impl_family_closed.f k l0 = some r) :
    Calls Try.prog 93 #[ptrOf u9000_] w fun e w' => ∃ v0_ : Value, e = .returned (ptrOf v0_) ∧ Kd.R Kd.bool 88 w' w0.heap.size (fun k_ => (P0_ k_ ∨ w.heap.size ≤ k_)) v0_ r ∧ Below w0.heap.size w0 w' ∧ Kept w w' (fun k_ => P0_ k_) := by
  have HO0 := Aside0.mk (show Kd.R Kd.bool 88 w w0.heap.size (fun k_ => (P0_ k_ ∨ w.heap.size ≤ k_)) u9000_ l0 from Kd.R_mono ho0 (fun k_ hk => (.inl hk)))
  have HK := Aside0.mk (Kept.refl w (fun k_ => P0_ k_))
  have HW0 := Aside0.mk hB.size
  have HB := Aside0.mk hB
  clear hB
  unfold impl_family_closed.f at h
  rcases Decidable.em (l0.length = 128) with HLl0_ | HLl0_
  rotate_left
  · rw [if_neg HLl0_] at h
    cases h
  rw [if_pos HLl0_] at h
  have HLl0 := Aside0.mk HLl0_
  clear HLl0_
  have H : (if 0 < 128 then (impl_family_closed.l0 k (l0.set (0 : Int).toNat true) 0) else (none)) = some r := h
  clear h
  by_cases c2 : 0 < 128
  · rw [if_pos c2] at H
    have c2b0 : decide (0 < 128) = true := decide_eq_true c2
    clear c2
    obtain ⟨y101, hy101⟩ : ∃ y_ : List Bool, y_ = (l0.set (0 : Int).toNat true) := ⟨_, rfl⟩
    replace H : (impl_family_closed.l0 k y101 0) = some r := by first | (rw [hy101]; with_reducible exact H) | (have H2_ := (Option.bind_some _ _).symm.trans H; rw [hy101]; with_reducible exact H2_) | (have H2_ := (Option.bind_some _ _).symm.trans H; with_reducible exact H2_) | with_reducible exact H | (rw [hy101]; exact H) | exact H
    have Ny101 := Aside0.mk hy101
    clear hy101
    have HLy101 := Aside0.mk (show y101.length = 128 from by rw [Ny101.out, List.length_set]; first | exact HLt102.out | exact HLl0.out | omega)
    have H' := Aside0.mk H
    clear H
    have p3 : 0 ≤ (0 : Int) := (by omega)
    have q3 : (0 : Int) < (128 : Int) := of_decide_eq_true (by first | (with_reducible assumption) | assumption)
    obtain ⟨go3, co3, eo3, gb3, gl3, cl3, HG3⟩ := Kd.R_form HO0.out (by (try have e_ := (Kd.R_reads' HO0.out).1); (try have e0_ := HLt102.out); (try have e1_ := HLl0.out); (try have e2_ := HLy101.out); omega)
    (first | cases eo3 | (injection eo3 with ea_ en_ ec_; (first | subst ea_ | (injection ea_ with ea_; subst ea_)); subst ec_; clear en_))
    have GB3 := Aside0.mk gb3
    have GG3 := Aside0.mk HG3
    clear gb3 gl3 HG3
    (try simp only [ptrOf_slice])
    have HMgo3 := Aside0.mk (show (P0_ go3 ∨ w.heap.size ≤ go3) from (HO0.out.1 _ rfl))
    obtain ⟨hx3_0, hf3_0⟩ := Kd.R_celln false HO0.out (0 : Int) p3 (by have h_ := q3; (try have e_ := (Kd.R_reads' HO0.out).1); (try have e0_ := HLt102.out); (try have e1_ := HLl0.out); (try have e2_ := HLy101.out); omega)
    (try rw [show ((0 : Int)).toNat = 0 from rfl] at hx3_0)
    (try simp only [Nat.reduceMul, Nat.zero_mul, Nat.zero_add, Nat.reduceAdd] at hx3_0)
    (try rw [show ((0 : Int)).toNat = 0 from rfl] at hf3_0)
    (try simp only [Nat.reduceMul, Nat.zero_mul, Nat.zero_add, Nat.reduceAdd] at hf3_0)
    replace p3 := eq_true p3
    replace q3 := eq_true q3
    have HP4 := Kd.R_putg HO0.out (0 : Int) true
    go_enter Try.func93, Try.ntmps93
    go_wp2_with (first | ((with_reducible refine gate_store (t := 4) (p := 7) rfl ?_); refine store_event (t := 4) (p := 7) (v := ?vo_w5) (w1 := (w.setCell ⟨go3, (0 : Int).toNat, none⟩ (.bool true))) ?hg ?ho ?hn ?hr ?_; (case ho => rfl); (case hg => rfl); (case hn => rfl); (case hr => first | (go_simp; done) | (go_simp; rfl)); intro w5 hw; have hg : w.grownBy w5 (some go3) := (by rw [hw]; exact HP4.2); have hp_ : Kd.R Kd.bool 88 w5 w0.heap.size (fun k_ => (P0_ k_ ∨ w.heap.size ≤ k_)) (.slice (some ⟨go3, 0, none⟩) l0.length co3) y101 := (by rw [hw, Ny101.out]; exact HP4.1); clear HP4; have n0_ := Aside0.mk (hp_); have n1_ := Aside0.mk ((by rw [hw]; exact below_set (HB.out) GB3.out : Below w0.heap.size w0 w5)); have n2_ := Aside0.mk (Kept.of_grown (S := (fun k_ => P0_ k_)) hg (by repeat (first | (with_reducible first | exact HK.out | apply Kept.alloc | apply Kept.drewN | apply Kept.drew) | exact HK.out)) (fun k_ e_ => (HO0.out.1 k_ e_))); clear HO0; clear HB; clear HK; have HO0 := n0_; have HB := n1_; have HK := n2_; clear n0_ n1_ n2_; clear hg hw hp_))
    go_loopg [8] k (fun kq v8 w' => ∃ (x0_1 : List Bool) (x8_1 : Int), v8 = .int .i64 x8_1 ∧ Aside0 (impl_family_closed.l0 kq x0_1 x8_1 = some r) ∧ Aside0 (kq ≤ k) ∧ Aside0 (Kd.R Kd.bool 88 w' w0.heap.size (fun k_ => (P0_ k_ ∨ w.heap.size ≤ k_)) (.slice (some ⟨go3, 0, none⟩) l0.length co3) x0_1) ∧ Aside0 (Kept w w' (fun k_ => P0_ k_)) ∧ Aside0 (Below w0.heap.size w0 w'))
    case atStart => exact ⟨(y101), (0), (by first | rfl | (simp; done) | (simp [*]; done)), H', ⟨Nat.le_refl _⟩, ⟨by (with_reducible repeat (first | apply Kd.R_alloc | apply Kd.R_drewN | apply Kd.R_drew)); exact HO0.out⟩, ⟨by repeat (first | (with_reducible first | exact HK.out | apply Kept.alloc | apply Kept.drewN | apply Kept.drew) | exact HK.out)⟩, ⟨by repeat (first | (with_reducible first | exact HB.out | apply below_alloc | apply pw_below_drewN | apply below_drew1) | exact HB.out)⟩⟩
    case round =>
      clear H'
      try clear c2
      try clear c2b0
      try clear p2
      try clear p3
      try clear q3
      try clear hx3
      try clear hf3
      try clear hx3_0
      try clear p3
      try clear q3
      obtain ⟨x0_1, x8_1, rfl, HA, HK1, HO_0, HK, HB⟩ := hrel
      have hl0_1 := (Kd.R_reads' HO_0.out).1
      have HLx0_1 := Aside0.mk (show x0_1.length = 128 from by rw [← hl0_1]; first | exact HLt102.out | exact HLl0.out | exact HLy101.out | omega)
      rw [hl0_1] at HO_0
      (try simp only [hl0_1])
      cases gk with
      | zero => exact absurd HA.out (by simp [impl_family_closed.l0])
      | succ k1 =>
        have H := HA.out
        clear HA
        simp only [impl_family_closed.l0] at H
        by_cases c6 : x8_1 < 128
        · rw [if_pos c6] at H
          have c6b0 : decide (x8_1 < 128) = true := decide_eq_true c6
          clear c6
          have H' := Aside0.mk H
          clear H
          go_wp2
          go_loopg [12] k1 (fun kq v12 w' => ∃ (x0_2 : List Bool) (x12_2 : Int), v12 = .int .i64 x12_2 ∧ Aside0 (impl_family_closed.l1 kq x0_2 x8_1 x8_1 x8_1 x12_2 = some r) ∧ Aside0 (kq ≤ k1) ∧ Aside0 (Kd.R Kd.bool 88 w' w0.heap.size (fun k_ => (P0_ k_ ∨ w.heap.size ≤ k_)) (.slice (some ⟨go3, 0, none⟩) x0_1.length co3) x0_2) ∧ Aside0 (Kept w w' (fun k_ => P0_ k_)) ∧ Aside0 (Below w0.heap.size w0 w'))
          case atStart => exact ⟨(x0_1), (0), (by first | rfl | (simp; done) | (simp [*]; done)), H', ⟨Nat.le_refl _⟩, ⟨by (try simp only [hl0_1]); (with_reducible repeat (first | apply Kd.R_alloc | apply Kd.R_drewN | apply Kd.R_drew)); exact HO_0.out⟩, ⟨by repeat (first | (with_reducible first | exact HK.out | apply Kept.alloc | apply Kept.drewN | apply Kept.drew) | exact HK.out)⟩, ⟨by repeat (first | (with_reducible first | exact HB.out | apply below_alloc | apply pw_below_drewN | apply below_drew1) | exact HB.out)⟩⟩
          case round =>
            clear H'
            try clear c2
            try clear c2b0
            try clear p2
            try clear p3
            try clear q3
            try clear hx3
            try clear hf3
            try clear c6
            try clear c6b0
            try clear hx3_0
            try clear p2
            try clear p3
            try clear q3
            obtain ⟨x0_2, x12_2, rfl, HA, HK2, HO_0, HK, HB⟩ := hrel
            have hl0_2 := (Kd.R_reads' HO_0.out).1
            have HLx0_2 := Aside0.mk (show x0_2.length = 128 from by rw [← hl0_2]; first | exact HLt102.out | exact HLl0.out | exact HLy101.out | exact HLx0_1.out | omega)
            rw [hl0_2] at HO_0
            (try simp only [hl0_2])
            cases gk with
            | zero => exact absurd HA.out (by simp [impl_family_closed.l1])
            | succ k2 =>
              have H := HA.out
              clear HA
              simp only [impl_family_closed.l1] at H
              by_cases c7 : x12_2 < x8_1
              · rw [if_pos c7] at H
                have c7b0 : decide (x12_2 < x8_1) = true := decide_eq_true c7
                clear c7
                by_cases c8 : 0 ≤ x8_1
                · rw [if_pos c8] at H
                  have c8b0 : decide (0 ≤ x8_1) = true := decide_eq_true c8
                  clear c8
                  by_cases c9 : x8_1 < 128
                  · rw [if_pos c9] at H
                    have c9b0 : decide (x8_1 < 128) = true := decide_eq_true c9
                    clear c9
                    obtain ⟨bq10, hbq10⟩ : ∃ b_ : Bool, b_ = (rdOf false x0_2 x8_1) := ⟨_, rfl⟩
                    replace H : (if bq10 = true then (if 0 ≤ x12_2 then (if x12_2 < 128 then (if rdOf false x0_2 x12_2 = true then (if 0 ≤ (Go.bits .or .i64 x8_1 x12_2) then (if (Go.bits .or .i64 x8_1 x12_2) < 128 then (impl_family_closed.l1 k2 (x0_2.set ((Go.bits .or .i64 x8_1 x12_2) : Int).toNat true) x8_1 x8_1 x8_1 (wrap64 (x12_2 + 1))) else (none)) else (none)) else (impl_family_closed.l1 k2 x0_2 x8_1 x8_1 x8_1 (wrap64 (x12_2 + 1)))) else (none)) else (none)) else (impl_family_closed.l1 k2 x0_2 x8_1 x8_1 x8_1 (wrap64 (x12_2 + 1)))) = some r := by rw [← hbq10] at H; exact H
                    have Nbq10 := Aside0.mk hbq10
                    clear hbq10
                    by_cases c11 : bq10 = true
                    · subst c11
                      have H1 : (if 0 ≤ x12_2 then (if x12_2 < 128 then (if rdOf false x0_2 x12_2 = true then (if 0 ≤ (Go.bits .or .i64 x8_1 x12_2) then (if (Go.bits .or .i64 x8_1 x12_2) < 128 then (impl_family_closed.l1 k2 (x0_2.set ((Go.bits .or .i64 x8_1 x12_2) : Int).toNat true) x8_1 x8_1 x8_1 (wrap64 (x12_2 + 1))) else (none)) else (none)) else (impl_family_closed.l1 k2 x0_2 x8_1 x8_1 x8_1 (wrap64 (x12_2 + 1)))) else (none)) else (none)) = some r := by rw [if_pos rfl] at H; exact H
                      clear H
                      have H := H1
                      clear H1
                      by_cases c12 : 0 ≤ x12_2
                      · rw [if_pos c12] at H
                        have c12b0 : decide (0 ≤ x12_2) = true := decide_eq_true c12
                        clear c12
                        by_cases c13 : x12_2 < 128
                        · rw [if_pos c13] at H
                          have c13b0 : decide (x12_2 < 128) = true := decide_eq_true c13
                          clear c13
                          obtain ⟨bq14, hbq14⟩ : ∃ b_ : Bool, b_ = (rdOf false x0_2 x12_2) := ⟨_, rfl⟩
                          replace H : (if bq14 = true then (if 0 ≤ (Go.bits .or .i64 x8_1 x12_2) then (if (Go.bits .or .i64 x8_1 x12_2) < 128 then (impl_family_closed.l1 k2 (x0_2.set ((Go.bits .or .i64 x8_1 x12_2) : Int).toNat true) x8_1 x8_1 x8_1 (wrap64 (x12_2 + 1))) else (none)) else (none)) else (impl_family_closed.l1 k2 x0_2 x8_1 x8_1 x8_1 (wrap64 (x12_2 + 1)))) = some r := by rw [← hbq14] at H; exact H
                          have Nbq14 := Aside0.mk hbq14
                          clear hbq14
                          by_cases c15 : bq14 = true
                          · subst c15
                            have H1 : (if 0 ≤ (Go.bits .or .i64 x8_1 x12_2) then (if (Go.bits .or .i64 x8_1 x12_2) < 128 then (impl_family_closed.l1 k2 (x0_2.set ((Go.bits .or .i64 x8_1 x12_2) : Int).toNat true) x8_1 x8_1 x8_1 (wrap64 (x12_2 + 1))) else (none)) else (none)) = some r := by rw [if_pos rfl] at H; exact H
                            clear H
                            have H := H1
                            clear H1
                            by_cases c16 : 0 ≤ (Go.bits .or .i64 x8_1 x12_2)
                            · rw [if_pos c16] at H
                              have c16b0 : decide (0 ≤ (Go.bits .or .i64 x8_1 x12_2)) = true := decide_eq_true c16
                              clear c16
                              by_cases c17 : (Go.bits .or .i64 x8_1 x12_2) < 128
                              · rw [if_pos c17] at H
                                have c17b0 : decide ((Go.bits .or .i64 x8_1 x12_2) < 128) = true := decide_eq_true c17
                                clear c17
                                obtain ⟨y104, hy104⟩ : ∃ y_ : List Bool, y_ = (x0_2.set ((Go.bits .or .i64 x8_1 x12_2) : Int).toNat true) := ⟨_, rfl⟩
                                replace H : (impl_family_closed.l1 k2 y104 x8_1 x8_1 x8_1 (wrap64 (x12_2 + 1))) = some r := by first | (rw [hy104]; with_reducible exact H) | (have H2_ := (Option.bind_some _ _).symm.trans H; rw [hy104]; with_reducible exact H2_) | (have H2_ := (Option.bind_some _ _).symm.trans H; with_reducible exact H2_) | with_reducible exact H | (rw [hy104]; exact H) | exact H
                                have Ny104 := Aside0.mk hy104
                                clear hy104
                                have HLy104 := Aside0.mk (show y104.length = 128 from by rw [Ny104.out, List.length_set]; first | exact HLt102.out | exact HLl0.out | exact HLy101.out | exact HLx0_1.out | exact HLx0_2.out | omega)
                                have H' := Aside0.mk H
                                clear H
                                have p102 : 0 ≤ (x8_1 : Int) := of_decide_eq_true (by first | (with_reducible assumption) | assumption)
                                have q102 : x8_1 < (x0_2.length : Int) := (by have h_ : (x8_1 : Int) < (128 : Int) := of_decide_eq_true (by first | (with_reducible assumption) | assumption); (try have e_ := (Kd.R_reads' HO_0.out).1); (try have e0_ := HLt102.out); (try have e1_ := HLl0.out); (try have e2_ := HLy101.out); (try have e3_ := HLx0_1.out); (try have e4_ := HLx0_2.out); (try have e5_ := HLy104.out); omega)
                                have ql102 : ((x8_1 : Int) < (128 : Int)) = True := eq_true (of_decide_eq_true (by first | (with_reducible assumption) | assumption))
                                obtain ⟨ad102, e102, hx102_0⟩ := Kd.at_bool (Kd.R_reads' HO_0.out).2.2 x8_1 p102 q102
                                (try rw [← Nbq10.out] at hx102_0)
                                (try rw [← Nbq14.out] at hx102_0)
                                obtain rfl : (⟨go3, 0, none⟩ : Addr) = ad102 := (by injection e102)
                                (first | simp only [add_plain] at hx102_0 | simp only [add_at] at hx102_0 | simp only [Addr.add, Nat.zero_add] at hx102_0 | skip)
                                replace p102 := eq_true p102
                                replace q102 := eq_true q102
                                have p103 : 0 ≤ (x12_2 : Int) := of_decide_eq_true (by first | (with_reducible assumption) | assumption)
                                have q103 : x12_2 < (x0_2.length : Int) := (by have h_ : (x12_2 : Int) < (128 : Int) := of_decide_eq_true (by first | (with_reducible assumption) | assumption); (try have e_ := (Kd.R_reads' HO_0.out).1); (try have e0_ := HLt102.out); (try have e1_ := HLl0.out); (try have e2_ := HLy101.out); (try have e3_ := HLx0_1.out); (try have e4_ := HLx0_2.out); (try have e5_ := HLy104.out); omega)
                                have ql103 : ((x12_2 : Int) < (128 : Int)) = True := eq_true (of_decide_eq_true (by first | (with_reducible assumption) | assumption))
                                obtain ⟨ad103, e103, hx103_0⟩ := Kd.at_bool (Kd.R_reads' HO_0.out).2.2 x12_2 p103 q103
                                (try rw [← Nbq10.out] at hx103_0)
                                (try rw [← Nbq14.out] at hx103_0)
                                obtain rfl : (⟨go3, 0, none⟩ : Addr) = ad103 := (by injection e103)
                                (first | simp only [add_plain] at hx103_0 | simp only [add_at] at hx103_0 | simp only [Addr.add, Nat.zero_add] at hx103_0 | skip)
                                replace p103 := eq_true p103
                                replace q103 := eq_true q103
                                have p18 : 0 ≤ ((Go.bits .or .i64 x8_1 x12_2) : Int) := of_decide_eq_true (by first | (with_reducible assumption) | assumption)
                                have q18 : ((Go.bits .or .i64 x8_1 x12_2) : Int) < (128 : Int) := of_decide_eq_true (by first | (with_reducible assumption) | assumption)
                                obtain ⟨hx18_0, hf18_0⟩ := Kd.R_celln false HO_0.out ((Go.bits .or .i64 x8_1 x12_2) : Int) p18 (by have h_ := q18; (try have e_ := (Kd.R_reads' HO_0.out).1); (try have e0_ := HLt102.out); (try have e1_ := HLl0.out); (try have e2_ := HLy101.out); (try have e3_ := HLx0_1.out); (try have e4_ := HLx0_2.out); (try have e5_ := HLy104.out); omega)
                                replace p18 := eq_true p18
                                replace q18 := eq_true q18
                                have HP19 := Kd.R_putg HO_0.out ((Go.bits .or .i64 x8_1 x12_2) : Int) true
                                go_wp2_with (first | ((with_reducible refine gate_store (t := 4) (p := 32) rfl ?_); refine store_event (t := 4) (p := 32) (v := ?vo_w20) (w1 := (wr.setCell ⟨go3, ((Go.bits .or .i64 x8_1 x12_2) : Int).toNat, none⟩ (.bool true))) ?hg ?ho ?hn ?hr ?_; (case ho => rfl); (case hg => rfl); (case hn => rfl); (case hr => first | (go_simp; done) | (go_simp; rfl)); intro w20 hw; have hg : wr.grownBy w20 (some go3) := (by rw [hw]; exact HP19.2); have hp_ : Kd.R Kd.bool 88 w20 w0.heap.size (fun k_ => (P0_ k_ ∨ w.heap.size ≤ k_)) (.slice (some ⟨go3, 0, none⟩) x0_2.length co3) y104 := (by rw [hw, Ny104.out]; exact HP19.1); clear HP19; have n0_ := Aside0.mk (hp_); have n1_ := Aside0.mk ((by rw [hw]; exact below_set (HB.out) GB3.out : Below w0.heap.size w0 w20)); have n2_ := Aside0.mk (Kept.of_grown (S := (fun k_ => P0_ k_)) hg (by repeat (first | (with_reducible first | exact HK.out | apply Kept.alloc | apply Kept.drewN | apply Kept.drew) | exact HK.out)) (fun k_ e_ => (HO_0.out.1 k_ e_))); clear HO_0; clear HB; clear HK; have HO_0 := n0_; have HB := n1_; have HK := n2_; clear n0_ n1_ n2_; clear hg hw hp_))
                                (try simp only [← hl0_2])
                                go_roundg k2
                                case measure => have := HK1.out; have := HK2.out; omega
                                case rel => exact ⟨(y104), (wrap64 (x12_2 + 1)), (by first | rfl | (simp; done) | (simp [*]; done)), H', ⟨by have := HK1.out; have := HK2.out; omega⟩, ⟨by (try simp only [hl0_1]); (try simp only [hl0_2]); (with_reducible repeat (first | apply Kd.R_alloc | apply Kd.R_drewN | apply Kd.R_drew)); exact HO_0.out⟩, ⟨by repeat (first | (with_reducible first | exact HK.out | apply Kept.alloc | apply Kept.drewN | apply Kept.drew) | exact HK.out)⟩, ⟨by repeat (first | (with_reducible first | exact HB.out | apply below_alloc | apply pw_below_drewN | apply below_drew1) | exact HB.out)⟩⟩
                              · rw [if_neg c17] at H
                                exact absurd H (by simp)
                            · rw [if_neg c16] at H
                              exact absurd H (by simp)
                          · replace c15 := Bool.eq_false_iff.mpr c15
                            subst c15
                            have H1 : (impl_family_closed.l1 k2 x0_2 x8_1 x8_1 x8_1 (wrap64 (x12_2 + 1))) = some r := by rw [if_neg (show ¬ (false = true) by decide)] at H; exact H
                            clear H
                            have H := H1
                            clear H1
                            have H' := Aside0.mk H
                            clear H
                            have p102 : 0 ≤ (x8_1 : Int) := of_decide_eq_true (by first | (with_reducible assumption) | assumption)
                            have q102 : x8_1 < (x0_2.length : Int) := (by have h_ : (x8_1 : Int) < (128 : Int) := of_decide_eq_true (by first | (with_reducible assumption) | assumption); (try have e_ := (Kd.R_reads' HO_0.out).1); (try have e0_ := HLt102.out); (try have e1_ := HLl0.out); (try have e2_ := HLy101.out); (try have e3_ := HLx0_1.out); (try have e4_ := HLx0_2.out); (try have e5_ := HLy104.out); omega)
                            have ql102 : ((x8_1 : Int) < (128 : Int)) = True := eq_true (of_decide_eq_true (by first | (with_reducible assumption) | assumption))
                            obtain ⟨ad102, e102, hx102_0⟩ := Kd.at_bool (Kd.R_reads' HO_0.out).2.2 x8_1 p102 q102
                            (try rw [← Nbq10.out] at hx102_0)
                            (try rw [← Nbq14.out] at hx102_0)
                            obtain rfl : (⟨go3, 0, none⟩ : Addr) = ad102 := (by injection e102)
                            (first | simp only [add_plain] at hx102_0 | simp only [add_at] at hx102_0 | simp only [Addr.add, Nat.zero_add] at hx102_0 | skip)
                            replace p102 := eq_true p102
                            replace q102 := eq_true q102
                            have p103 : 0 ≤ (x12_2 : Int) := of_decide_eq_true (by first | (with_reducible assumption) | assumption)
                            have q103 : x12_2 < (x0_2.length : Int) := (by have h_ : (x12_2 : Int) < (128 : Int) := of_decide_eq_true (by first | (with_reducible assumption) | assumption); (try have e_ := (Kd.R_reads' HO_0.out).1); (try have e0_ := HLt102.out); (try have e1_ := HLl0.out); (try have e2_ := HLy101.out); (try have e3_ := HLx0_1.out); (try have e4_ := HLx0_2.out); (try have e5_ := HLy104.out); omega)
                            have ql103 : ((x12_2 : Int) < (128 : Int)) = True := eq_true (of_decide_eq_true (by first | (with_reducible assumption) | assumption))
                            obtain ⟨ad103, e103, hx103_0⟩ := Kd.at_bool (Kd.R_reads' HO_0.out).2.2 x12_2 p103 q103
                            (try rw [← Nbq10.out] at hx103_0)
                            (try rw [← Nbq14.out] at hx103_0)
                            obtain rfl : (⟨go3, 0, none⟩ : Addr) = ad103 := (by injection e103)
                            (first | simp only [add_plain] at hx103_0 | simp only [add_at] at hx103_0 | simp only [Addr.add, Nat.zero_add] at hx103_0 | skip)
                            replace p103 := eq_true p103
                            replace q103 := eq_true q103
                            go_wp2
                            (try simp only [← hl0_2])
                            go_roundg k2
                            case measure => have := HK1.out; have := HK2.out; omega
                            case rel => exact ⟨(x0_2), (wrap64 (x12_2 + 1)), (by first | rfl | (simp; done) | (simp [*]; done)), H', ⟨by have := HK1.out; have := HK2.out; omega⟩, ⟨by (try simp only [hl0_1]); (try simp only [hl0_2]); (with_reducible repeat (first | apply Kd.R_alloc | apply Kd.R_drewN | apply Kd.R_drew)); exact HO_0.out⟩, ⟨by repeat (first | (with_reducible first | exact HK.out | apply Kept.alloc | apply Kept.drewN | apply Kept.drew) | exact HK.out)⟩, ⟨by repeat (first | (with_reducible first | exact HB.out | apply below_alloc | apply pw_below_drewN | apply below_drew1) | exact HB.out)⟩⟩
                        · rw [if_neg c13] at H
                          exact absurd H (by simp)
                      · rw [if_neg c12] at H
                        exact absurd H (by simp)
                    · replace c11 := Bool.eq_false_iff.mpr c11
                      subst c11
                      have H1 : (impl_family_closed.l1 k2 x0_2 x8_1 x8_1 x8_1 (wrap64 (x12_2 + 1))) = some r := by rw [if_neg (show ¬ (false = true) by decide)] at H; exact H
                      clear H
                      have H := H1
                      clear H1
                      have H' := Aside0.mk H
                      clear H
                      have p102 : 0 ≤ (x8_1 : Int) := of_decide_eq_true (by first | (with_reducible assumption) | assumption)
                      have q102 : x8_1 < (x0_2.length : Int) := (by have h_ : (x8_1 : Int) < (128 : Int) := of_decide_eq_true (by first | (with_reducible assumption) | assumption); (try have e_ := (Kd.R_reads' HO_0.out).1); (try have e0_ := HLt102.out); (try have e1_ := HLl0.out); (try have e2_ := HLy101.out); (try have e3_ := HLx0_1.out); (try have e4_ := HLx0_2.out); (try have e5_ := HLy104.out); omega)
                      have ql102 : ((x8_1 : Int) < (128 : Int)) = True := eq_true (of_decide_eq_true (by first | (with_reducible assumption) | assumption))
                      obtain ⟨ad102, e102, hx102_0⟩ := Kd.at_bool (Kd.R_reads' HO_0.out).2.2 x8_1 p102 q102
                      (try rw [← Nbq10.out] at hx102_0)
                      obtain rfl : (⟨go3, 0, none⟩ : Addr) = ad102 := (by injection e102)
                      (first | simp only [add_plain] at hx102_0 | simp only [add_at] at hx102_0 | simp only [Addr.add, Nat.zero_add] at hx102_0 | skip)
                      replace p102 := eq_true p102
                      replace q102 := eq_true q102
                      go_wp2
                      (try simp only [← hl0_2])
                      go_roundg k2
                      case measure => have := HK1.out; have := HK2.out; omega
                      case rel => exact ⟨(x0_2), (wrap64 (x12_2 + 1)), (by first | rfl | (simp; done) | (simp [*]; done)), H', ⟨by have := HK1.out; have := HK2.out; omega⟩, ⟨by (try simp only [hl0_1]); (try simp only [hl0_2]); (with_reducible repeat (first | apply Kd.R_alloc | apply Kd.R_drewN | apply Kd.R_drew)); exact HO_0.out⟩, ⟨by repeat (first | (with_reducible first | exact HK.out | apply Kept.alloc | apply Kept.drewN | apply Kept.drew) | exact HK.out)⟩, ⟨by repeat (first | (with_reducible first | exact HB.out | apply below_alloc | apply pw_below_drewN | apply below_drew1) | exact HB.out)⟩⟩
                  · rw [if_neg c9] at H
                    exact absurd H (by simp)
                · rw [if_neg c8] at H
                  exact absurd H (by simp)
              · rw [if_neg c7] at H
                have c7b0 : decide (x12_2 < x8_1) = false := decide_eq_false c7
                clear c7
                have H' := Aside0.mk H
                clear H
                go_wp2
                (try simp only [← hl0_1, ← hl0_2])
                go_roundg k2
                case measure => have := HK1.out; have := HK2.out; omega
                case rel => exact ⟨(x0_2), (wrap64 (x8_1 + 1)), (by first | rfl | (simp; done) | (simp [*]; done)), H', ⟨by have := HK1.out; have := HK2.out; omega⟩, ⟨by (try simp only [hl0_1]); (try simp only [hl0_2]); (with_reducible repeat (first | apply Kd.R_alloc | apply Kd.R_drewN | apply Kd.R_drew)); exact HO_0.out⟩, ⟨by repeat (first | (with_reducible first | exact HK.out | apply Kept.alloc | apply Kept.drewN | apply Kept.drew) | exact HK.out)⟩, ⟨by repeat (first | (with_reducible first | exact HB.out | apply below_alloc | apply pw_below_drewN | apply below_drew1) | exact HB.out)⟩⟩
        · rw [if_neg c6] at H
          have c6b0 : decide (x8_1 < 128) = false := decide_eq_false c6
          clear c6
          obtain rfl := Option.some.inj H
          go_wp2
          go_ret
          exact ⟨(.slice (some ⟨go3, 0, none⟩) x0_1.length co3), by first | rfl | (simp [errW_none, errW_some] <;> rfl) | (simp [*, errW_none, errW_some] <;> rfl), by (with_reducible repeat (first | apply Kd.R_alloc | apply Kd.R_drewN | apply Kd.R_drew)); exact HO_0.out, by repeat (first | (with_reducible first | exact HB.out | apply below_alloc | apply pw_below_drewN | apply below_drew1) | exact HB.out), by repeat (first | (with_reducible first | exact HK.out | apply Kept.alloc | apply Kept.drewN | apply Kept.drew) | exact HK.out)⟩
  · rw [if_neg c2] at H
    exact absurd H (by simp)

-- HAND with (*impl.family).closed
theorem impl_family_closed.len_l : ∀ k, (∀ (x0 : List Bool) (x8 : Int) (r : List Bool), impl_family_closed.l0 k x0 x8 = some r → x0.length = 128 → r.length = 128) ∧ (∀ (x0 : List Bool) (x3 x8 x11 x12 : Int) (r : List Bool), impl_family_closed.l1 k x0 x3 x8 x11 x12 = some r → x0.length = 128 → r.length = 128)
  | 0 => ⟨fun _ _ _ h => by simp [impl_family_closed.l0] at h, fun _ _ _ _ _ _ h => by simp [impl_family_closed.l1] at h⟩
  | k + 1 => by
    obtain ⟨i0, i1⟩ := impl_family_closed.len_l k
    refine ⟨?_, ?_⟩
    · intro x0 x8 r h hl
      simp only [impl_family_closed.l0] at h
      split at h
      · exact i1 _ _ _ _ _ _ h hl
      · cases h; exact hl
    · intro x0 x3 x8 x11 x12 r h hl
      simp only [impl_family_closed.l1] at h
      repeat' (split at h)
      all_goals first | (cases h; done) | exact i1 _ _ _ _ _ _ h hl | exact i1 _ _ _ _ _ _ h (by rw [List.length_set]; exact hl) | exact i0 _ _ _ h hl
theorem impl_family_closed.len {k : Nat} {l0 r : List Bool} (h : impl_family_closed.f k l0 = some r) : r.length = 128 := by
  unfold impl_family_closed.f at h
  split at h
  · rename_i hl
    split at h
    · exact (impl_family_closed.len_l k).1 _ _ _ h (by rw [List.length_set]; exact hl)
    · cases h
  · cases h

-- HAND with (*impl.family).closed
theorem closed_in (F0 : List Bool) : ∀ (e x : Nat) (F : List Bool), 128 - x = e → x ≤ 128 → CI F0 F x 0 → ∃ R, Ev (fun k => impl_family_closed.l0 k F x) R ∧ CI F0 R 128 0
  | 0, x, F, he, hx, h => by
    obtain rfl : x = 128 := by omega
    exact ⟨F, Ev.succ (fun k => by simp only [impl_family_closed.l0]; rw [if_neg (by omega)]) (Ev.const rfl), h⟩
  | e + 1, x, F, he, hx, h => by
    have hx128 : x < 128 := by omega
    have hin : ∀ (d y : Nat) (F : List Bool), x - y = d → y ≤ x → CI F0 F x y → ∃ R, Ev (fun k => impl_family_closed.l1 k F x x x y) R ∧ CI F0 R 128 0 := by
      intro d
      induction d with
      | zero =>
        intro y F hd hy h
        obtain rfl : y = x := by omega
        obtain ⟨R, h1, h2⟩ := closed_in F0 e (y + 1) F (by omega) (by omega) h.next
        push_cast at h1
        exact ⟨R, Ev.succ (fun k => by simp only [impl_family_closed.l1]; rw [if_neg (by omega), wrap_succ (by omega) (by omega)]) h1, h2⟩
      | succ d ih =>
        intro y F hd hy h
        have hws : wrap64 ((y : Int) + 1) = y + 1 := wrap_succ (by omega) (by omega)
        have hrd : ∀ z : Nat, rdOf false F (z : Int) = F.getD z false := fun z => rfl
        cases hfx : F.getD x false with
        | false =>
          obtain ⟨R, h1, h2⟩ := ih (y + 1) F (by omega) (by omega) (h.skip (.inl hfx))
          push_cast at h1
          exact ⟨R, Ev.succ (fun k => by simp only [impl_family_closed.l1]; rw [if_pos (by omega), if_pos (by omega), if_pos (by omega), if_neg (by rw [hrd, hfx]; decide), hws]) h1, h2⟩
        | true =>
          cases hfy : F.getD y false with
          | false =>
            obtain ⟨R, h1, h2⟩ := ih (y + 1) F (by omega) (by omega) (h.skip (.inr hfy))
            push_cast at h1
            exact ⟨R, Ev.succ (fun k => by simp only [impl_family_closed.l1]; rw [if_pos (by omega), if_pos (by omega), if_pos (by omega), if_pos (by rw [hrd, hfx]), if_pos (by omega), if_pos (by omega), if_neg (by rw [hrd, hfy]; decide), hws]) h1, h2⟩
          | true =>
            obtain ⟨R, h1, h2⟩ := ih (y + 1) (F.set (x ||| y) true) (by omega) (by omega) (h.put hx128 (by omega) hfx hfy)
            push_cast at h1
            have h128 : x ||| y < 128 := Nat.or_lt_two_pow (n := 7) hx128 (show y < 2 ^ 7 by omega)
            refine ⟨R, ?_, h2⟩
            exact Ev.succ (fun k => by simp only [impl_family_closed.l1]; rw [if_pos (by omega), if_pos (by omega), if_pos (by omega), if_pos (by rw [hrd, hfx]), if_pos (by omega), if_pos (by omega), if_pos (by rw [hrd, hfy]), bits_or x y (by omega) (by omega), if_pos (by omega), if_pos (by omega), Int.toNat_natCast, hws]) h1
    obtain ⟨R, h1, h2⟩ := hin x 0 F (by omega) (by omega) h
    replace h1 : Ev (fun k => impl_family_closed.l1 k F x x x 0) R := h1
    exact ⟨R, Ev.succ (fun k => by simp only [impl_family_closed.l0]; rw [if_pos (by omega)]) h1, h2⟩
theorem closed_ok (F : List Bool) (hF : F.length = 128) : ∃ R, Ev (fun k => impl_family_closed.f k F) R ∧ R.length = 128 ∧ ∀ z, R.getD z false = true ↔ Un (fun z => F.getD z false = true) z := by
  have hg : ∀ z, (F.set 0 true).getD z false = (F.getD z false || decide (0 = z)) := fun z => getD_set hF _ _ (by decide)
  obtain ⟨R, h1, h2⟩ := closed_in F 128 0 (F.set 0 true) rfl (by omega) ⟨by rw [List.length_set]; exact hF, fun z hz => by
    rw [hg, Bool.or_eq_true, decide_eq_true_eq] at hz
    rcases hz with hz | rfl
    · exact .base hz
    · exact .zero, fun z hz => by
    rw [hg]
    rcases hz with rfl | hz
    · simp
    · rw [hz, Bool.true_or], fun a b hba hab => by omega⟩
  refine ⟨R, ?_, h2.len, fun z => h2.ends z⟩
  refine Ev.to (fun k => by unfold impl_family_closed.f; rw [if_pos hF, if_pos (by omega)]) ?_
  exact h1

-- HAND impl_family_space: function 94
set_option maxHeartbeats 8000000 in
set_option maxRecDepth 100000 in
theorem impl_family_space.walkC (ad0 : Addr) (F : List Bool) (n : Int) (w : World) (HF : FamC w ad0 F) :
    Calls Try.prog 94 #[.pointer (some ad0), .int .i64 n] w fun e w' => ∃ v : Value, e = .returned (.agg #[.int .i64 n, v]) ∧ Kd.R (Kd.int .i64) 3 w' w.heap.size (fun _ => True) v (setsOf F) ∧ Below w.heap.size w w' := by
  have hu := Try.underlying30
  have HB := Aside0.mk (Below.refl w.heap.size w)
  have HFA := Aside0.mk HF
  clear HF
  go_enter Try.func94, Try.ntmps94
  go_wp2_with (first | ((with_reducible refine gate_dst (N := 4) rfl ?_); refine box_event ?hg (N := 4) ?hd (cs := #[.int .i64 0, .slice none 0 0]) (t := 30) ?hr ?_; (case hd => rfl); (case hg => rfl); (case hr => first | (go_simp; done) | (go_simp; rfl)); intro g4 g4e W1 g4b W1b; have HB1 := Aside0.mk (below_step (by repeat (first | exact HB.out | apply pw_below_drewN | apply below_drew1 | apply below_alloc)) W1b); have BK4 := Aside0.mk g4b; have GE4 := Aside0.mk ((by rw [g4e]; exact below_size (by repeat (first | exact HB.out | apply pw_below_drewN | apply below_drew1 | apply below_alloc))) : w.heap.size ≤ g4); skip; clear W1b g4b g4e) | ((with_reducible refine gate_dst (N := 5) rfl ?_); refine box_event ?hg (N := 5) ?hd (cs := #[.int .i64 0, .slice none 0 0]) (t := 30) ?hr ?_; (case hd => rfl); (case hg => rfl); (case hr => first | (go_simp; done) | (go_simp; rfl)); intro g5 g5e W2 g5b W2b; have HB2 := Aside0.mk (below_step (by repeat (first | exact HB1.out | apply pw_below_drewN | apply below_drew1 | apply below_alloc)) W2b); have BK5 := Aside0.mk g5b; have GE5 := Aside0.mk ((by rw [g5e]; exact below_size (by repeat (first | exact HB1.out | apply pw_below_drewN | apply below_drew1 | apply below_alloc))) : w.heap.size ≤ g5); have BK4' := Aside0.mk (blk_below (g := g4) (o := .cells #[.int .i64 0, .slice none 0 0] 30 (0, 0)) (by (with_reducible repeat (first | refine blk_drewN ?_ _ | refine blk_drew ?_ | refine blk_alloc ?_ _)); exact BK4.out) W2b); have NB := Aside0.mk ((by rw [g5e]; exact Nat.ne_of_lt (blk_lt (g := g4) (o := .cells #[.int .i64 0, .slice none 0 0] 30 (0, 0)) (by (with_reducible repeat (first | refine blk_drewN ?_ _ | refine blk_drew ?_ | refine blk_alloc ?_ _)); exact BK4.out))) : g4 ≠ g5); have z0 : W2.cell? ⟨g5, 0, none⟩ = some (.int .i64 0) := (blk_cell BK5.out 0).trans rfl; have z1 : W2.cell? ⟨g5, 1, none⟩ = some (.slice none 0 0) := (blk_cell BK5.out 1).trans rfl; have f0 := blk_frozen BK5.out 0; have f1 := blk_frozen BK5.out 1; clear W2b g5b g5e))
  clear z0 z1 f0 f1
  have BK6 := Aside0.mk (blk_put (cs' := #[.int .i64 n, .slice none 0 0]) (blk_put (cs' := #[.int .i64 n, .slice none 0 0]) BK5.out 0 (.int .i64 n) rfl) 1 (.slice none 0 0) rfl)
  go_loopw [11] (fun v11 wr => ∃ (i : Int) (u : Value), Aside0 (0 ≤ i ∧ i ≤ 128) ∧ v11 = .int .i64 i ∧ Aside0 (Kd.R (Kd.int .i64) 3 wr w.heap.size (fun _ => True) u (setsTo F i.toNat)) ∧ Aside0 (wr.heap[g4]? = some (.cells #[.int .i64 0, .slice none 0 0] 30 (0, 0))) ∧ Aside0 (wr.heap[g5]? = some (.cells #[.int .i64 n, u] 30 (0, 0))) ∧ Aside0 (Below w.heap.size w wr)) (fun v11 _ => 128 - (intOf v11).toNat)
  case atStart => exact ⟨0, .slice none 0 0, ⟨by omega⟩, rfl, ⟨Kd.R_nil _ _ _ _ _⟩, ⟨by repeat (first | exact BK4'.out | refine blk_drewN ?_ _ | refine blk_drew ?_ | refine blk_far ?_ NB.out _)⟩, ⟨by repeat (first | exact BK6.out | refine blk_drewN ?_ _ | refine blk_drew ?_)⟩, ⟨by repeat (first | exact HB2.out | apply pw_below_drewN | apply below_drew1 | refine below_set ?_ GE5.out)⟩⟩
  case round =>
    obtain ⟨i, u, hi, rfl, HO, BK4, BK5, HBr⟩ := hrel
    have HFr := Aside0.mk (HFA.out.below HBr.out)
    obtain ⟨Au, cu, eu⟩ := Kd.R_slice HO.out
    subst eu
    by_cases hlt : i < 128
    · have i0 := hi.out.1
      have fc := HFr.out.at_ i i0 hlt
      have hln := setsTo_length F i.toNat
      cases hb : F.getD i.toNat false with
      | false =>
        rw [hb] at fc
        have HS := Aside0.mk (setsTo_no i0 hb)
        clear hb
        go_wp2
        go_quiet (fail)
        go_wp2
        go_roundw
        case rel => exact ⟨i + 1, _, ⟨by omega⟩, by first | rfl | go_num, ⟨by rw [HS.out]; (with_reducible repeat (first | apply Kd.R_alloc | apply Kd.R_drewN | apply Kd.R_drew)); exact HO.out⟩, ⟨by repeat (first | exact BK4.out | refine blk_drewN ?_ _ | refine blk_drew ?_)⟩, ⟨by repeat (first | exact BK5.out | refine blk_drewN ?_ _ | refine blk_drew ?_)⟩, ⟨by repeat (first | exact HBr.out | apply pw_below_drewN | apply below_drew1)⟩⟩
        case measure => simp [intOf]; omega
      | true =>
        rw [hb] at fc
        have HS := Aside0.mk (setsTo_yes i0 hb)
        clear hb
        have z1 : wr.cell? ⟨g5, 1, none⟩ = some (.slice Au (setsTo F i.toNat).length cu) := (blk_cell BK5.out 1).trans rfl
        have f1 := blk_frozen BK5.out 1
        go_wp2
        go_quiet (fail)
        go_wp2_with (first | ((with_reducible refine gate_builtin (b := .append) (xs := #[.tmp 19, .tmp 21]) rfl ?_); at_builtin; refine Kd.R_append (Kd.int .i64) (w0 := w) w.heap.size rfl (.tmp 19) (.tmp 21) 22 3 (.int .i64 0) 8 rfl Try.underlying22 info3 rfl (by decide) (by omega) (.slice Au (setsTo F i.toNat).length cu) (setsTo F i.toNat) i [.int .i64 i] (fun _ => True) (fun _ => False) rfl rfl ?aP (fun _ hk => hk.elim) ?aF ?aO ?aB ?aS ?aL ?_; (case aP => exact rfl); (case aB => exact (by repeat (first | exact HBr.out | apply pw_below_drewN | apply below_drew1 | apply below_alloc))); (case aF => exact (fun _ _ => trivial)); (case aO => exact (by (with_reducible repeat (first | apply Kd.R_alloc | apply Kd.R_drewN | apply Kd.R_drew)); exact HO.out)); (case aS => exact (below_size (by repeat (first | exact HBr.out | apply pw_below_drewN | apply below_drew1 | apply below_alloc)))); (case aL => omega); intro v W3 ho_ hb_ hg_ hat_; have HO2 := Aside0.mk ho_; have HB2r := Aside0.mk hb_; have BK4r := Aside0.mk (blk_grown (g := g4) (o := .cells #[.int .i64 0, .slice none 0 0] 30 (0, 0)) (by (with_reducible repeat (first | refine blk_drewN ?_ _ | refine blk_drew ?_ | refine blk_alloc ?_ _)); exact BK4.out) hg_ (Kd.R_ne HO.out BK4.out (by decide))); have BK5r := Aside0.mk (blk_grown (g := g5) (o := .cells #[.int .i64 n, .slice Au (setsTo F i.toNat).length cu] 30 (0, 0)) (by (with_reducible repeat (first | refine blk_drewN ?_ _ | refine blk_drew ?_ | refine blk_alloc ?_ _)); exact BK5.out) hg_ (Kd.R_ne HO.out BK5.out (by decide))); have z2 : W3.cell? ⟨g5, 1, none⟩ = some (.slice Au (setsTo F i.toNat).length cu) := (blk_cell BK5r.out 1).trans rfl; have f2 := blk_frozen BK5r.out 1; obtain ⟨Av, cv, ev⟩ := Kd.R_slice HO2.out; subst ev; clear ho_ hb_ hg_ hat_))
        go_roundw
        case rel => exact ⟨i + 1, _, ⟨by omega⟩, by first | rfl | go_num, ⟨by rw [HS.out]; (with_reducible repeat (first | apply Kd.R_alloc | apply Kd.R_drewN | apply Kd.R_drew)); exact Kd.R_mono (Kd.R_far (p := ⟨g5, 1, none⟩) (Kd.R_types HO2.out BK5r.out (by decide)) (fun _ hk => hk.2) _) (fun _ hk => trivial)⟩, ⟨by repeat (first | exact BK4r.out | refine blk_drewN ?_ _ | refine blk_drew ?_ | refine blk_far ?_ NB.out _)⟩, ⟨by (with_reducible repeat (first | refine blk_drewN ?_ _ | refine blk_drew ?_ | refine blk_alloc ?_ _)); refine blk_put (cs := #[.int .i64 n, .slice Au (setsTo F i.toNat).length cu]) ?_ 1 _ (by rw [List.length_append]; rfl); exact BK5r.out⟩, ⟨by repeat (first | exact HB2r.out | apply pw_below_drewN | apply below_drew1 | refine below_set ?_ GE5.out)⟩⟩
        case measure => simp [intOf]; omega
    · obtain rfl : i = 128 := by have := hi.out; omega
      have z0 : wr.cell? ⟨g5, 0, none⟩ = some (.int .i64 n) := (blk_cell BK5.out 0).trans rfl
      have z1 : wr.cell? ⟨g5, 1, none⟩ = some (.slice Au (setsTo F (128 : Int).toNat).length cu) := (blk_cell BK5.out 1).trans rfl
      have y0 : wr.cell? ⟨g4, 0, none⟩ = some (.int .i64 0) := (blk_cell BK4.out 0).trans rfl
      have y1 : wr.cell? ⟨g4, 1, none⟩ = some (.slice none 0 0) := (blk_cell BK4.out 1).trans rfl
      have f0 := blk_frozen BK4.out 0
      have f1 := blk_frozen BK4.out 1
      go_wp2
      refine bodyPost_ret (results_cell_row rfl _ _ g4 30 #[.int .i64 n, .slice Au (setsTo F (128 : Int).toNat).length cu] (0, 0) _ rfl (by (with_reducible repeat (first | refine blk_drewN ?_ _ | refine blk_drew ?_ | refine blk_alloc ?_ _)); refine blk_put (cs := #[.int .i64 n, .slice none 0 0]) ?_ 1 _ rfl; refine blk_put (cs := #[.int .i64 0, .slice none 0 0]) ?_ 0 _ rfl; (with_reducible repeat (first | refine blk_drewN ?_ _ | refine blk_drew ?_ | refine blk_alloc ?_ _)); exact BK4.out) Try.underlying30 rfl (by kernel_rfl)) rfl ?_
      exact ⟨_, rfl, by (with_reducible repeat (first | apply Kd.R_alloc | apply Kd.R_drewN | apply Kd.R_drew)); exact Kd.R_mono (Kd.R_far (p := ⟨g4, 1, none⟩) (Kd.R_far (p := ⟨g4, 0, none⟩) (Kd.R_types HO.out BK4.out (by decide)) (fun _ hk => hk.2) (.int .i64 n)) (fun _ hk => hk.2) _) (fun _ hk => trivial), by repeat (first | exact HBr.out | apply pw_below_drewN | apply below_drew1 | refine below_set ?_ GE4.out)⟩
theorem impl_family_space.walk (b : Nat) (F : List Bool) (n : Int) (w : World) (HF : FamAt w b F) :
    Calls Try.prog 94 #[.pointer (some ⟨b, 0, none⟩), .int .i64 n] w fun e w' => ∃ v : Value, e = .returned (.agg #[.int .i64 n, v]) ∧ Kd.R (Kd.int .i64) 3 w' w.heap.size (fun _ => True) v (setsOf F) ∧ Below w.heap.size w w' := impl_family_space.walkC ⟨b, 0, none⟩ F n w HF.c
def impl_family_space.f (l0 : List Bool) (a1 : Int) : Option (Int × List Int) := if l0.length = 128 then some (a1, setsOf l0) else none
theorem impl_family_space.calls (A0 : Option Addr) (c0 : Nat) (l0 : List Bool) (a1 : Int) (r1 : Int) (r2 : List Int) (w : World) (hr0 : Kd.C Kd.bool w A0 l0.length l0) (hc0 : l0.length ≤ c0) (h : impl_family_space.f l0 a1 = some (r1, r2)) :
    Calls Try.prog 94 #[.pointer A0, .int .i64 a1] w fun e w' => ∃ v1_ : Value, e = .returned (.agg #[.int .i64 r1, v1_]) ∧ Kd.R (Kd.int .i64) 3 w' w.heap.size (fun _ => True) v1_ r2 ∧ Below w.heap.size w w' := by
  unfold impl_family_space.f at h
  split at h
  · rename_i hl
    have e := Option.some.inj h
    injection e with e1 e2
    subst e1 e2
    obtain ⟨ad, rfl, HF⟩ := FamC.of_reads hr0 hl
    exact impl_family_space.walkC ad l0 a1 w HF
  · cases h

/-! ### impl_spaceOf: function 65 -/
mutual
def impl_spaceOf.l0 : Nat → Int → List Bool → List (List Int) → Int → Int → Option (Int × List Int)
  | 0, _, _, _, _, _ => none
  | k + 1, x0, x5, x13, x14, x15 => if x15 < x14 then (if 0 ≤ x15 then (if x15 < (x13.length : Int) then (impl_spaceOf.l1 k x0 x5 0 x13 x14 x15 (rd_L9 x13 x15) ((rd_L9 x13 x15).length : Int) 0) else (none)) else (none)) else ((impl_family_closed.f k x5).bind fun t105 => ((impl_family_space.f t105 x0).bind fun bt108 => (some (bt108.1, bt108.2))))
def impl_spaceOf.l1 : Nat → Int → List Bool → Int → List (List Int) → Int → Int → List Int → Int → Int → Option (Int × List Int)
  | 0, _, _, _, _, _, _, _, _, _ => none
  | k + 1, x0, x5, x8, x13, x14, x15, x19, x20, x21 => if x21 < x20 then (if 0 ≤ x21 then (if x21 < (x19.length : Int) then (if 0 ≤ (rd x19 x21) then (if 0 ≤ (Go.bits .or .i64 x8 (shl .i64 1 (rd x19 x21))) then (if (Go.bits .or .i64 x8 (shl .i64 1 (rd x19 x21))) < 128 then (impl_spaceOf.l1 k x0 (x5.set ((Go.bits .or .i64 x8 (shl .i64 1 (rd x19 x21))) : Int).toNat true) (Go.bits .or .i64 x8 (shl .i64 1 (rd x19 x21))) x13 x14 x15 x19 x20 (wrap64 (x21 + 1))) else (none)) else (none)) else (none)) else (none)) else (none)) else (impl_spaceOf.l0 k x0 x5 x13 x14 (wrap64 (x15 + 1)))
end
def impl_spaceOf.f (k : Nat) (a0 : Int) (l1 : List (List Int)) : Option (Int × List Int) := impl_spaceOf.l0 k a0 (List.replicate 128 false) l1 (l1.length : Int) 0
theorem impl_spaceOf.mono_l : ∀ k, (∀ y0 y1 y2 y3 y4, LeO (impl_spaceOf.l0 k y0 y1 y2 y3 y4) (impl_spaceOf.l0 (k + 1) y0 y1 y2 y3 y4)) ∧ (∀ y0 y1 y2 y3 y4 y5 y6 y7 y8, LeO (impl_spaceOf.l1 k y0 y1 y2 y3 y4 y5 y6 y7 y8) (impl_spaceOf.l1 (k + 1) y0 y1 y2 y3 y4 y5 y6 y7 y8))
  | 0 => ⟨fun _ _ _ _ _ r h => by simp [impl_spaceOf.l0] at h, fun _ _ _ _ _ _ _ _ _ r h => by simp [impl_spaceOf.l1] at h⟩
  | k + 1 => by
    obtain ⟨ih0, ih1⟩ := impl_spaceOf.mono_l k
    refine ⟨?_, ?_⟩
    · intro y0 y1 y2 y3 y4
      unfold impl_spaceOf.l0
      repeat' first
      | (with_reducible exact ih0 _ _ _ _ _)
      | (with_reducible exact ih1 _ _ _ _ _ _ _ _ _)
      | (with_reducible exact impl_family_closed.mono _ _)
      | (with_reducible exact LeO.refl _)
      | (with_reducible exact LeO.none _)
      | (with_reducible refine LeO.ite ?_ ?_)
      | (with_reducible refine LeO.bind ?_ (fun _ => ?_))
      | exact ih0 _ _ _ _ _
      | exact ih1 _ _ _ _ _ _ _ _ _
      | exact impl_family_closed.mono _ _
      | exact LeO.none _
      | refine LeO.ite ?_ ?_
      | refine LeO.bind ?_ (fun _ => ?_)
    · intro y0 y1 y2 y3 y4 y5 y6 y7 y8
      unfold impl_spaceOf.l1
      repeat' first
      | (with_reducible exact ih0 _ _ _ _ _)
      | (with_reducible exact ih1 _ _ _ _ _ _ _ _ _)
      | (with_reducible exact impl_family_closed.mono _ _)
      | (with_reducible exact LeO.refl _)
      | (with_reducible exact LeO.none _)
      | (with_reducible refine LeO.ite ?_ ?_)
      | (with_reducible refine LeO.bind ?_ (fun _ => ?_))
      | exact ih0 _ _ _ _ _
      | exact ih1 _ _ _ _ _ _ _ _ _
      | exact impl_family_closed.mono _ _
      | exact LeO.none _
      | refine LeO.ite ?_ ?_
      | refine LeO.bind ?_ (fun _ => ?_)
theorem impl_spaceOf.mono : ∀ a0 a1 k, LeO (impl_spaceOf.f k a0 a1) (impl_spaceOf.f (k + 1) a0 a1) := by
  intro a0 a1 k
  obtain ⟨ih0, ih1⟩ := impl_spaceOf.mono_l k
  unfold impl_spaceOf.f
  repeat' first
      | (with_reducible exact ih0 _ _ _ _ _)
      | (with_reducible exact ih1 _ _ _ _ _ _ _ _ _)
      | (with_reducible exact impl_family_closed.mono _ _)
      | (with_reducible exact LeO.refl _)
      | (with_reducible exact LeO.none _)
      | (with_reducible refine LeO.ite ?_ ?_)
      | (with_reducible refine LeO.bind ?_ (fun _ => ?_))
      | exact ih0 _ _ _ _ _
      | exact ih1 _ _ _ _ _ _ _ _ _
      | exact impl_family_closed.mono _ _
      | exact LeO.none _
      | refine LeO.ite ?_ ?_
      | refine LeO.bind ?_ (fun _ => ?_)
set_option maxHeartbeats 8000000 in
set_option maxRecDepth 100000 in
theorem impl_spaceOf.calls (k : Nat) (a0 : Int) (A1 : Option Addr) (c1 : Nat) (l1 : List (List Int)) (r1 : Int) (r2 : List Int) (w : World) (hr1 : Kd.C (Kd.slice 3 (Kd.int .i64)) w A1 l1.length l1) (hc1 : l1.length ≤ c1) (h : impl_spaceOf.f k a0 l1 = some (r1, r2)) :
    Calls Try.prog 65 #[.int .i64 a0, .slice A1 l1.length c1] w fun e w' => ∃ v1_ : Value, e = .returned (.agg #[.int .i64 r1, v1_]) ∧ Kd.R (Kd.int .i64) 3 w' w.heap.size (fun _ => True) v1_ r2 ∧ Below w.heap.size w w' := by
  have hu30 := Try.underlying30
  have HR1 := Aside0.mk hr1
  have HC1 := Aside0.mk hc1
  clear hr1 hc1
  have HB := Aside0.mk (Below.refl w.heap.size w)
  have H : (impl_spaceOf.l0 k a0 (List.replicate 128 false) l1 (l1.length : Int) 0) = some (r1, r2) := h
  clear h
  obtain ⟨y102, hy102⟩ : ∃ y_ : List Bool, y_ = (List.replicate 128 false) := ⟨_, rfl⟩
  replace H : (impl_spaceOf.l0 k a0 y102 l1 (l1.length : Int) 0) = some (r1, r2) := by first | (rw [hy102]; with_reducible exact H) | (have H2_ := (Option.bind_some _ _).symm.trans H; rw [hy102]; with_reducible exact H2_) | (have H2_ := (Option.bind_some _ _).symm.trans H; with_reducible exact H2_) | with_reducible exact H | (rw [hy102]; exact H) | exact H
  have Ny102 := Aside0.mk hy102
  clear hy102
  have HLy102 := Aside0.mk (show y102.length = 128 from by rw [Ny102.out]; simp; done)
  have H' := Aside0.mk H
  clear H
  go_enter Try.func65, Try.ntmps65
  go_wp2_with (first | ((with_reducible refine gate_dst (N := 4) rfl ?_); refine box_event ?hg (N := 4) ?hd (cs := #[.int .i64 0, .slice none 0 0]) (t := 30) ?hr ?_; (case hd => rfl); (case hg => rfl); (case hr => first | (go_simp; done) | (go_simp; rfl)); intro gb101 hg w3 hbox hb; have n0_ := Aside0.mk (below_step (by repeat (first | (with_reducible first | exact HB.out | apply below_alloc | apply pw_below_drewN | apply below_drew1) | exact HB.out)) hb); have n1_ := Aside0.mk (hbox); have n2_ := Aside0.mk ((by rw [hg]; exact (below_size (by repeat (first | (with_reducible first | exact HB.out | apply below_alloc | apply pw_below_drewN | apply below_drew1) | exact HB.out))) : w.heap.size ≤ gb101)); have n3_ := Aside0.mk ((by rw [hg]; exact (below_size (by repeat (first | (with_reducible first | exact HB.out | apply below_alloc | apply pw_below_drewN | apply below_drew1) | exact HB.out))) : w.heap.size ≤ gb101)); clear HB; have HB := n0_; have BK101 := n1_; have GW101 := n2_; have GE101 := n3_; clear n0_ n1_ n2_ n3_; clear hb hbox hg) | ((with_reducible refine gate_dst (N := 12) rfl ?_); refine fam_lit ?hg (N := 12) ?hd ?hr ?_; (case hd => rfl); (case hg => rfl); (case hr => first | (go_simp; done) | (go_simp; rfl)); intro v103 w4 ho5 hb hg_ hnew_; clear hg_ hnew_; (first | rw [← Ny102.out] at ho5 | (simp only [Int.reduceToNat] at ho5; rw [← Ny102.out] at ho5)); have n0_ := Aside0.mk (Kd.R_lower ho5 (below_size (by repeat (first | (with_reducible first | exact HB.out | apply below_alloc | apply pw_below_drewN | apply below_drew1 | refine below_set ?_ GE101.out) | exact HB.out)))); have n1_ := Aside0.mk (blk_below (g := gb101) (o := .cells #[.int .i64 0, .slice none 0 0] 30 (0, 0)) (by (with_reducible repeat (first | refine blk_drewN ?_ _ | refine blk_drew ?_ | refine blk_alloc ?_ _)); exact BK101.out) hb); have n2_ := Aside0.mk (below_step (by repeat (first | (with_reducible first | exact HB.out | apply below_alloc | apply pw_below_drewN | apply below_drew1 | refine below_set ?_ GE101.out) | exact HB.out)) hb); clear BK101; clear HB; have HO104 := n0_; have BK101 := n1_; have HB := n2_; clear n0_ n1_ n2_; clear hb ho5; obtain ⟨go6, co6, eo6, gb6, gl6, cl6, HG6⟩ := Kd.R_form HO104.out (by (try have e_ := (Kd.R_reads' HO104.out).1); (try have e0_ := HLt102.out); (try have e1_ := HLl0.out); (try have e2_ := HLy101.out); (try have e3_ := HLx0_1.out); (try have e4_ := HLx0_2.out); (try have e5_ := HLy104.out); (try have e6_ := HLy102.out); omega); (first | cases eo6 | (injection eo6 with ea_ en_ ec_; (first | subst ea_ | (injection ea_ with ea_; subst ea_)); subst ec_; clear en_)); have GB6 := Aside0.mk gb6; have GG6 := Aside0.mk HG6; clear gb6 gl6 HG6; (try simp only [ptrOf_slice])))
  go_loopg [15] k (fun kq v15 w' => ∃ (x5_1 : List Bool) (x15_1 : Int), v15 = .int .i64 x15_1 ∧ Aside0 (impl_spaceOf.l0 kq a0 x5_1 l1 (l1.length : Int) x15_1 = some (r1, r2)) ∧ Aside0 (kq ≤ k) ∧ Aside0 (Kd.R Kd.bool 88 w' w.heap.size (fun _ => True) (.slice (some ⟨go6, 0, none⟩) y102.length co6) x5_1) ∧ Aside0 (w'.heap[gb101]? = some (.cells #[.int .i64 0, (.slice none 0 0)] 30 (0, 0))) ∧ Aside0 (Below w.heap.size w w'))
  case atStart => exact ⟨(y102), (0), (by first | rfl | (simp; done) | (simp [*]; done)), H', ⟨Nat.le_refl _⟩, ⟨by (with_reducible repeat (first | apply Kd.R_alloc | apply Kd.R_drewN | apply Kd.R_drew)); exact HO104.out⟩, ⟨by (with_reducible repeat (first | refine blk_drewN ?_ _ | refine blk_drew ?_ | refine blk_alloc ?_ _)); exact BK101.out⟩, ⟨by repeat (first | (with_reducible first | exact HB.out | apply below_alloc | apply pw_below_drewN | apply below_drew1 | refine below_set ?_ GE101.out) | exact HB.out)⟩⟩
  case round =>
    clear H'
    try clear c1
    try clear p2
    try clear c6
    obtain ⟨x5_1, x15_1, rfl, HA, HK1, HO_5, BK101, HB⟩ := hrel
    have hl5_1 := (Kd.R_reads' HO_5.out).1
    have HLx5_1 := Aside0.mk (show x5_1.length = 128 from by rw [← hl5_1]; first | exact HLt102.out | exact HLl0.out | exact HLy101.out | exact HLx0_1.out | exact HLx0_2.out | exact HLy104.out | exact HLy102.out | omega)
    rw [hl5_1] at HO_5
    (try simp only [hl5_1])
    (try simp only [hl5_1] at BK101)
    cases gk with
    | zero => exact absurd HA.out (by simp [impl_spaceOf.l0])
    | succ k1 =>
      have H := HA.out
      clear HA
      simp only [impl_spaceOf.l0] at H
      by_cases c7 : x15_1 < (l1.length : Int)
      · rw [if_pos c7] at H
        have c7b0 : decide (x15_1 < (l1.length : Int)) = true := decide_eq_true c7
        clear c7
        by_cases c8 : 0 ≤ x15_1
        · rw [if_pos c8] at H
          have c8b0 : decide (0 ≤ x15_1) = true := decide_eq_true c8
          clear c8
          by_cases c9 : x15_1 < (l1.length : Int)
          · rw [if_pos c9] at H
            have c9b0 : decide (x15_1 < (l1.length : Int)) = true := decide_eq_true c9
            clear c9
            have H' := Aside0.mk H
            clear H
            have p112 : 0 ≤ (x15_1 : Int) := of_decide_eq_true (by first | (with_reducible assumption) | assumption)
            have q112 : x15_1 < (l1.length : Int) := of_decide_eq_true (by first | (with_reducible assumption) | assumption)
            obtain ⟨ad112, A112_0, c112_0, e112, hx112_0, hl112_0, hi112_0⟩ := at_L9 HR1.out x15_1 p112 q112
            cases e112
            replace hx112_0 := (HB.out.cell (World.block_lt_of_cell? w _ hx112_0)).trans hx112_0
            have HR112_0 := Aside0.mk hi112_0
            have HC112_0 := Aside0.mk hl112_0
            clear hi112_0 hl112_0
            replace p112 := eq_true p112
            replace q112 := eq_true q112
            go_wp2
            go_loopg [8, 21] k1 (fun kq v8 v21 w' => ∃ (x5_2 : List Bool) (x8_2 : Int) (x21_2 : Int), v8 = .int .i64 x8_2 ∧ v21 = .int .i64 x21_2 ∧ Aside0 (impl_spaceOf.l1 kq a0 x5_2 x8_2 l1 (l1.length : Int) x15_1 (rd_L9 l1 x15_1) ((rd_L9 l1 x15_1).length : Int) x21_2 = some (r1, r2)) ∧ Aside0 (kq ≤ k1) ∧ Aside0 (Kd.R Kd.bool 88 w' w.heap.size (fun _ => True) (.slice (some ⟨go6, 0, none⟩) x5_1.length co6) x5_2) ∧ Aside0 (w'.heap[gb101]? = some (.cells #[.int .i64 0, (.slice none 0 0)] 30 (0, 0))) ∧ Aside0 (Below w.heap.size w w'))
            case atStart => exact ⟨(x5_1), (0), (0), (by first | rfl | (simp; done) | (simp [*]; done)), (by first | rfl | (simp; done) | (simp [*]; done)), H', ⟨Nat.le_refl _⟩, ⟨by (try simp only [hl5_1]); (with_reducible repeat (first | apply Kd.R_alloc | apply Kd.R_drewN | apply Kd.R_drew)); exact HO_5.out⟩, ⟨by (try simp only [hl5_1]); (with_reducible repeat (first | refine blk_drewN ?_ _ | refine blk_drew ?_ | refine blk_alloc ?_ _)); exact BK101.out⟩, ⟨by repeat (first | (with_reducible first | exact HB.out | apply below_alloc | apply pw_below_drewN | apply below_drew1 | refine below_set ?_ GE101.out) | exact HB.out)⟩⟩
            case round =>
              clear H'
              try clear c1
              try clear p1
              try clear q1
              try clear hx1
              try clear p2
              try clear c6
              try clear c7
              try clear c7b0
              try clear c8
              try clear c8b0
              try clear c9
              try clear c9b0
              try clear hx112_0
              try clear p112
              try clear p2
              try clear q112
              obtain ⟨x5_2, x8_2, x21_2, rfl, rfl, HA, HK2, HO_5, BK101, HB⟩ := hrel
              have hl5_2 := (Kd.R_reads' HO_5.out).1
              have HLx5_2 := Aside0.mk (show x5_2.length = 128 from by rw [← hl5_2]; first | exact HLt102.out | exact HLl0.out | exact HLy101.out | exact HLx0_1.out | exact HLx0_2.out | exact HLy104.out | exact HLy102.out | exact HLx5_1.out | omega)
              rw [hl5_2] at HO_5
              (try simp only [hl5_2])
              (try simp only [hl5_2] at BK101)
              cases gk with
              | zero => exact absurd HA.out (by simp [impl_spaceOf.l1])
              | succ k2 =>
                have H := HA.out
                clear HA
                simp only [impl_spaceOf.l1] at H
                by_cases c10 : x21_2 < ((rd_L9 l1 x15_1).length : Int)
                · rw [if_pos c10] at H
                  have c10b0 : decide (x21_2 < ((rd_L9 l1 x15_1).length : Int)) = true := decide_eq_true c10
                  clear c10
                  by_cases c11 : 0 ≤ x21_2
                  · rw [if_pos c11] at H
                    have c11b0 : decide (0 ≤ x21_2) = true := decide_eq_true c11
                    clear c11
                    by_cases c12 : x21_2 < ((rd_L9 l1 x15_1).length : Int)
                    · rw [if_pos c12] at H
                      have c12b0 : decide (x21_2 < ((rd_L9 l1 x15_1).length : Int)) = true := decide_eq_true c12
                      clear c12
                      by_cases c13 : 0 ≤ (rd (rd_L9 l1 x15_1) x21_2)
                      · rw [if_pos c13] at H
                        have c13b0 := eq_true c13
                        have c13b1 : decide (0 ≤ (rd (rd_L9 l1 x15_1) x21_2)) = true := decide_eq_true c13
                        clear c13
                        obtain ⟨ji14, hji14⟩ : ∃ j_ : Int, (shl .i64 1 (rd (rd_L9 l1 x15_1) x21_2)) = j_ := ⟨_, rfl⟩
                        replace H : (if 0 ≤ (Go.bits .or .i64 x8_2 (ji14)) then (if (Go.bits .or .i64 x8_2 (ji14)) < 128 then (impl_spaceOf.l1 k2 a0 (x5_2.set ((Go.bits .or .i64 x8_2 (ji14)) : Int).toNat true) (Go.bits .or .i64 x8_2 (ji14)) l1 (l1.length : Int) x15_1 (rd_L9 l1 x15_1) ((rd_L9 l1 x15_1).length : Int) (wrap64 (x21_2 + 1))) else (none)) else (none)) = some (r1, r2) := by first | (rw [hji14] at H; exact H) | (simp only [hji14] at H ⊢; exact H)
                        have hji14_ : (IntKind.i64.wrap (1 * 2 ^ min (rd (rd_L9 l1 x15_1) x21_2).toNat 64)) = ji14 := hji14
                        have hji14z : (rd (rd_L9 l1 x15_1) x21_2) ≤ 64 → (IntKind.i64.wrap (1 * 2 ^ (rd (rd_L9 l1 x15_1) x21_2).toNat)) = ji14 := shl_small hji14
                        have hji14u : (IntKind.i64.wrap (2 ^ min (rd (rd_L9 l1 x15_1) x21_2).toNat 64)) = ji14 := by have h_ := hji14_; rw [Int.one_mul] at h_; exact h_
                        have hji14v : (rd (rd_L9 l1 x15_1) x21_2) ≤ 64 → (IntKind.i64.wrap (2 ^ (rd (rd_L9 l1 x15_1) x21_2).toNat)) = ji14 := fun hle_ => by have h_ := hji14z hle_; rw [Int.one_mul] at h_; exact h_
                        have hji14y : (wrap64 (1 * 2 ^ min (rd (rd_L9 l1 x15_1) x21_2).toNat 64)) = ji14 := (i64_w _).symm.trans hji14_
                        have hji14x : (rd (rd_L9 l1 x15_1) x21_2) ≤ 64 → (wrap64 (1 * 2 ^ (rd (rd_L9 l1 x15_1) x21_2).toNat)) = ji14 := fun h_ => (i64_w _).symm.trans (hji14z h_)
                        by_cases c15 : 0 ≤ (Go.bits .or .i64 x8_2 (ji14))
                        · rw [if_pos c15] at H
                          have c15b0 : decide (0 ≤ (Go.bits .or .i64 x8_2 (ji14))) = true := decide_eq_true c15
                          clear c15
                          by_cases c16 : (Go.bits .or .i64 x8_2 (ji14)) < 128
                          · rw [if_pos c16] at H
                            have c16b0 : decide ((Go.bits .or .i64 x8_2 (ji14)) < 128) = true := decide_eq_true c16
                            clear c16
                            obtain ⟨y114, hy114⟩ : ∃ y_ : List Bool, y_ = (x5_2.set ((Go.bits .or .i64 x8_2 (ji14)) : Int).toNat true) := ⟨_, rfl⟩
                            replace H : (impl_spaceOf.l1 k2 a0 y114 (Go.bits .or .i64 x8_2 (ji14)) l1 (l1.length : Int) x15_1 (rd_L9 l1 x15_1) ((rd_L9 l1 x15_1).length : Int) (wrap64 (x21_2 + 1))) = some (r1, r2) := by first | (rw [hy114]; with_reducible exact H) | (have H2_ := (Option.bind_some _ _).symm.trans H; rw [hy114]; with_reducible exact H2_) | (have H2_ := (Option.bind_some _ _).symm.trans H; with_reducible exact H2_) | with_reducible exact H | (rw [hy114]; exact H) | exact H
                            have Ny114 := Aside0.mk hy114
                            clear hy114
                            have HLy114 := Aside0.mk (show y114.length = 128 from by rw [Ny114.out, List.length_set]; first | exact HLt102.out | exact HLl0.out | exact HLy101.out | exact HLx0_1.out | exact HLx0_2.out | exact HLy104.out | exact HLy102.out | exact HLx5_1.out | exact HLx5_2.out | omega)
                            have H' := Aside0.mk H
                            clear H
                            have p113 : 0 ≤ (x21_2 : Int) := of_decide_eq_true (by first | (with_reducible assumption) | assumption)
                            have q113 : x21_2 < ((rd_L9 l1 x15_1).length : Int) := of_decide_eq_true (by first | (with_reducible assumption) | assumption)
                            obtain ⟨ad113, e113, hx113_0⟩ := Kd.at_int HR112_0.out x21_2 p113 q113
                            cases e113
                            replace hx113_0 := (HB.out.cell (World.block_lt_of_cell? w _ hx113_0)).trans hx113_0
                            replace p113 := eq_true p113
                            replace q113 := eq_true q113
                            have p17 : 0 ≤ ((Go.bits .or .i64 x8_2 (ji14)) : Int) := of_decide_eq_true (by first | (with_reducible assumption) | assumption)
                            have q17 : ((Go.bits .or .i64 x8_2 (ji14)) : Int) < (128 : Int) := of_decide_eq_true (by first | (with_reducible assumption) | assumption)
                            obtain ⟨hx17_0, hf17_0⟩ := Kd.R_celln false HO_5.out ((Go.bits .or .i64 x8_2 (ji14)) : Int) p17 (by have h_ := q17; (try have e_ := (Kd.R_reads' HO_5.out).1); (try have e0_ := HLt102.out); (try have e1_ := HLl0.out); (try have e2_ := HLy101.out); (try have e3_ := HLx0_1.out); (try have e4_ := HLx0_2.out); (try have e5_ := HLy104.out); (try have e6_ := HLy102.out); (try have e7_ := HLx5_1.out); (try have e8_ := HLx5_2.out); (try have e9_ := HLy114.out); omega)
                            replace p17 := eq_true p17
                            replace q17 := eq_true q17
                            have HP18 := Kd.R_putg HO_5.out ((Go.bits .or .i64 x8_2 (ji14)) : Int) true
                            go_wp2_with (first | ((with_reducible refine gate_store (t := 4) (p := 32) rfl ?_); refine store_event (t := 4) (p := 32) (v := ?vo_w19) (w1 := (wr.setCell ⟨go6, ((Go.bits .or .i64 x8_2 (ji14)) : Int).toNat, none⟩ (.bool true))) ?hg ?ho ?hn ?hr ?_; (case ho => rfl); (case hg => rfl); (case hn => rfl); (case hr => first | (go_simp; done) | (go_simp; rfl)); intro w19 hw; have hg : wr.grownBy w19 (some go6) := (by rw [hw]; exact HP18.2); have hp_ : Kd.R Kd.bool 88 w19 w.heap.size (fun _ => True) (.slice (some ⟨go6, 0, none⟩) x5_2.length co6) y114 := (by rw [hw, Ny114.out]; exact HP18.1); clear HP18; have n0_ := Aside0.mk (hp_); have n1_ := Aside0.mk (blk_grown (g := gb101) (o := .cells #[.int .i64 0, .slice none 0 0] 30 (0, 0)) (by (with_reducible repeat (first | refine blk_drewN ?_ _ | refine blk_drew ?_ | refine blk_alloc ?_ _)); exact BK101.out) hg (Kd.R_ne HO_5.out BK101.out (by decide))); have n2_ := Aside0.mk ((by rw [hw]; exact below_set (HB.out) GB6.out : Below w.heap.size w w19)); clear HO_5; clear BK101; clear HB; have HO_5 := n0_; have BK101 := n1_; have HB := n2_; clear n0_ n1_ n2_; clear hg hw hp_))
                            (try simp only [← hl5_2])
                            go_roundg k2
                            case measure => have := HK1.out; have := HK2.out; omega
                            case rel => exact ⟨(y114), (Go.bits .or .i64 x8_2 (ji14)), (wrap64 (x21_2 + 1)), (by first | rfl | (simp; done) | (simp only [← hji14] <;> (first | rfl | simp)) | (simp [*]; done)), (by first | rfl | (simp; done) | (simp [*]; done)), H', ⟨by have := HK1.out; have := HK2.out; omega⟩, ⟨by (try simp only [hl5_1]); (try simp only [hl5_2]); (with_reducible repeat (first | apply Kd.R_alloc | apply Kd.R_drewN | apply Kd.R_drew)); exact HO_5.out⟩, ⟨by (try simp only [hl5_1]); (try simp only [hl5_2]); (with_reducible repeat (first | refine blk_drewN ?_ _ | refine blk_drew ?_ | refine blk_alloc ?_ _)); exact BK101.out⟩, ⟨by repeat (first | (with_reducible first | exact HB.out | apply below_alloc | apply pw_below_drewN | apply below_drew1 | refine below_set ?_ GE101.out) | exact HB.out)⟩⟩
                          · rw [if_neg c16] at H
                            exact absurd H (by simp)
                        · rw [if_neg c15] at H
                          exact absurd H (by simp)
                      · rw [if_neg c13] at H
                        exact absurd H (by simp)
                    · rw [if_neg c12] at H
                      exact absurd H (by simp)
                  · rw [if_neg c11] at H
                    exact absurd H (by simp)
                · rw [if_neg c10] at H
                  have c10b0 : decide (x21_2 < ((rd_L9 l1 x15_1).length : Int)) = false := decide_eq_false c10
                  clear c10
                  have H' := Aside0.mk H
                  clear H
                  go_wp2
                  (try simp only [← hl5_1, ← hl5_2])
                  go_roundg k2
                  case measure => have := HK1.out; have := HK2.out; omega
                  case rel => exact ⟨(x5_2), (wrap64 (x15_1 + 1)), (by first | rfl | (simp; done) | (simp [*]; done)), H', ⟨by have := HK1.out; have := HK2.out; omega⟩, ⟨by (try simp only [hl5_1]); (try simp only [hl5_2]); (with_reducible repeat (first | apply Kd.R_alloc | apply Kd.R_drewN | apply Kd.R_drew)); exact HO_5.out⟩, ⟨by (try simp only [hl5_1]); (try simp only [hl5_2]); (with_reducible repeat (first | refine blk_drewN ?_ _ | refine blk_drew ?_ | refine blk_alloc ?_ _)); exact BK101.out⟩, ⟨by repeat (first | (with_reducible first | exact HB.out | apply below_alloc | apply pw_below_drewN | apply below_drew1 | refine below_set ?_ GE101.out) | exact HB.out)⟩⟩
          · rw [if_neg c9] at H
            exact absurd H (by simp)
        · rw [if_neg c8] at H
          exact absurd H (by simp)
      · rw [if_neg c7] at H
        have c7b0 : decide (x15_1 < (l1.length : Int)) = false := decide_eq_false c7
        clear c7
        replace H := Option.bind_eq_some_iff.mp H
        obtain ⟨t105, A200, H⟩ := H
        replace H : ((impl_family_space.f t105 a0).bind fun bt108 => (some (bt108.1, bt108.2))) = some (r1, r2) := H
        have A20 := Aside0.mk A200
        clear A200
        have HLt105 := Aside0.mk (impl_family_closed.len A20.out)
        replace H := Option.bind_eq_some_iff.mp H
        obtain ⟨⟨t108, t109⟩, A210, H⟩ := H
        replace H : (some (t108, t109)) = some (r1, r2) := H
        have A21 := Aside0.mk A210
        clear A210
        simp only [Option.some.injEq, Prod.mk.injEq] at H
        obtain ⟨rfl, rfl⟩ := H
        go_wp2_with (first | ((with_reducible refine gate_callee (f := 93) rfl ?_); refine goesL_ (some 36) rfl rfl Try.func93 (by kernel_rfl) rfl #[.pointer (some ⟨go6, 0, none⟩)] rfl (by (try simp only [List.map_toArray, List.map_cons, List.map_nil]); first | done | rfl | (simp only [List.length_drop, List.length_take]; rfl)) ?_; (with_reducible refine (impl_family_closed.calls k1 (fun k_ => some k_ = (.slice (some ⟨go6, 0, none⟩) x5_1.length co6 : Value).ownBlock) (.slice (some ⟨go6, 0, none⟩) x5_1.length co6) x5_1 t105 w _ ?side1 ?side2 A20.out).mono ?_); (case side1 => repeat (first | (with_reducible first | exact HB.out | apply below_alloc | apply pw_below_drewN | apply below_drew1 | refine below_set ?_ GE101.out) | exact HB.out)); (case side2 => exact Kd.R_tight rfl HO_5.out); rintro e w22 ⟨v106, rfl, ho0, hb, hkp⟩; refine ⟨_, rfl, ?_⟩; have n0_ := Aside0.mk (blk_kept (by (with_reducible repeat (first | refine blk_drewN ?_ _ | refine blk_drew ?_ | refine blk_alloc ?_ _)); exact BK101.out) hkp (fun hs_ => (fun e_ => (Kd.R_ne HO_5.out BK101.out (by decide)) e_) hs_)); have n1_ := Aside0.mk (Kd.R_mono (ok' := fun k_ => True) ho0 (fun k_ hk_ => trivial)); have n2_ := Aside0.mk (hb); clear BK101; clear HB; clear HO_5; have BK101 := n0_; have HO107 := n1_; have HB := n2_; clear n0_ n1_ n2_; (try clear hb); (try clear hkp); (try clear ho0); obtain ⟨Ao23, co23, eo23⟩ := Kd.R_slice HO107.out; subst eo23; (try simp only [ptrOf_slice])) | ((with_reducible refine gate_callee (f := 94) rfl ?_); refine goesL_ (some 38) rfl rfl Try.func94 (by kernel_rfl) rfl #[.pointer Ao23, .int .i64 a0] rfl (by (try simp only [List.map_toArray, List.map_cons, List.map_nil]); first | done | rfl | (simp only [List.length_drop, List.length_take]; rfl)) ?_; (with_reducible refine (impl_family_space.calls _ co23 t105 a0 t108 t109 _ ?side1 ?side2 A21.out).mono ?_); (case side1 => repeat (first | exact (Kd.R_reads' HO107.out).2.2 | (with_reducible refine Kd.C_alloc ?_ _) | (with_reducible refine Kd.C_drewN ?_ _) | (with_reducible refine Kd.C_drew ?_))); (case side2 => exact (Kd.R_reads' HO107.out).2.1); rintro e w24 ⟨v110, rfl, ho0, hb⟩; refine ⟨_, rfl, ?_⟩; have n0_ := Aside0.mk (Kd.R_below (by (with_reducible repeat (first | apply Kd.R_alloc | apply Kd.R_drewN | apply Kd.R_drew)); exact HO107.out) hb); have n1_ := Aside0.mk (Kd.R_lower ho0 (below_size (by repeat (first | (with_reducible first | exact HB.out | apply below_alloc | apply pw_below_drewN | apply below_drew1 | refine below_set ?_ GE101.out) | exact HB.out)))); have n2_ := Aside0.mk (blk_below (g := gb101) (o := .cells #[.int .i64 0, .slice none 0 0] 30 (0, 0)) (by (with_reducible repeat (first | refine blk_drewN ?_ _ | refine blk_drew ?_ | refine blk_alloc ?_ _)); exact BK101.out) hb); have n3_ := Aside0.mk (below_step (by repeat (first | (with_reducible first | exact HB.out | apply below_alloc | apply pw_below_drewN | apply below_drew1 | refine below_set ?_ GE101.out) | exact HB.out)) hb); clear HO107; clear BK101; clear HB; have HO107 := n0_; have HO111 := n1_; have BK101 := n2_; have HB := n3_; clear n0_ n1_ n2_ n3_; (try clear hb); (try clear hb2); (try clear hk); (try clear hi); (try clear ho0); have hcz25_0 : w24.cell? ⟨gb101, 0, none⟩ = some (.int .i64 0) := (blk_cell BK101.out 0).trans rfl; have hcz25_1 : w24.cell? ⟨gb101, 1, none⟩ = some (.slice none 0 0) := (blk_cell BK101.out 1).trans rfl; have hfz25_0 := blk_frozen BK101.out 0; have hfz25_1 := blk_frozen BK101.out 1; obtain ⟨Ao26, co26, eo26⟩ := Kd.R_slice HO111.out; subst eo26))
        refine bodyPost_ret (results_cell_row rfl _ _ gb101 30 #[.int .i64 t108, .slice Ao26 t109.length co26] (0, 0) _ rfl (by (with_reducible repeat (first | refine blk_drewN ?_ _ | refine blk_drew ?_ | refine blk_alloc ?_ _)); refine blk_put (cs := #[.int .i64 t108, .slice none 0 0]) ?_ 1 _ rfl; (with_reducible repeat (first | refine blk_drewN ?_ _ | refine blk_drew ?_ | refine blk_alloc ?_ _)); refine blk_put (cs := #[.int .i64 0, .slice none 0 0]) ?_ 0 _ rfl; (with_reducible repeat (first | refine blk_drewN ?_ _ | refine blk_drew ?_ | refine blk_alloc ?_ _)); exact BK101.out) Try.underlying30 rfl (by kernel_rfl)) rfl ?_
        exact ⟨_, by first | rfl | (simp [errW_none, errW_some] <;> rfl) | (simp [*, errW_none, errW_some] <;> rfl), by (with_reducible repeat (first | apply Kd.R_alloc | apply Kd.R_drewN | apply Kd.R_drew)); exact Kd.R_mono (Kd.R_far (p := ⟨gb101, 1, none⟩) (Kd.R_far (p := ⟨gb101, 0, none⟩) (Kd.R_types HO111.out BK101.out (by decide)) (fun _ hk => hk.2) (.int .i64 t108)) (fun _ hk => hk.2) (.slice Ao26 t109.length co26)) (fun _ hk => trivial), by repeat (first | (with_reducible first | exact HB.out | apply below_alloc | apply pw_below_drewN | apply below_drew1 | refine below_set ?_ GE101.out) | exact HB.out)⟩

-- HAND with impl.spaceOf+(*impl.family).closed+(*impl.family).space
theorem so_inner (n len i : Int) (ws : List (List Int)) (w : List Int) (hw : ∀ i ∈ w, 0 ≤ i ∧ i < 7) (hwl : w.length ≤ 7) (P : Int × List Int → Prop) (T : Nat → Prop) :
    ∀ (C D : List Int) (s : Nat) (F : List Bool), D ++ C = w → F.length = 128 → s < 128 → (∀ z, (F.getD z false = true ∨ (z : Int) ∈ chainFrom s C) ↔ T z) →
    (∀ F', F'.length = 128 → (∀ z, F'.getD z false = true ↔ T z) → ∃ R, Ev (fun k => impl_spaceOf.l0 k n F' ws len (wrap64 (i + 1))) R ∧ P R) →
    ∃ R, Ev (fun k => impl_spaceOf.l1 k n F s ws len i w w.length D.length) R ∧ P R
  | [], D, s, F, hD, hF, hs, hm, hk => by
    rw [List.append_nil] at hD
    subst hD
    obtain ⟨R, h1, h2⟩ := hk F hF (fun z => ⟨fun h => (hm z).1 (.inl h), fun h => ((hm z).2 h).elim id (fun h => absurd h (by simp [chainFrom]))⟩)
    exact ⟨R, Ev.succ (fun k => by simp only [impl_spaceOf.l1]; rw [if_neg (by omega)]) h1, h2⟩
  | x :: C, D, s, F, hD, hF, hs, hm, hk => by
    have hltD : D.length < w.length := by rw [← hD]; simp
    have hrdD : rd w (D.length : Int) = x := by rw [← hD]; exact rd_append D C x
    obtain ⟨i0, i1⟩ := hw x (by rw [← hD]; simp)
    have hy : s ||| 2 ^ x.toNat < 128 := Nat.or_lt_two_pow (n := 7) hs (two_lt128 (by omega))
    have h2i : 2 ^ x.toNat < 128 := two_lt128 (by omega)
    have hbits : Go.bits .or .i64 (s : Int) (shl .i64 1 x) = ((s ||| 2 ^ x.toNat : Nat) : Int) := by rw [shl_nat i0 (by omega), bits_or s (2 ^ x.toNat) (by omega) (by omega)]
    have hg : ∀ z, (F.set (s ||| 2 ^ x.toNat) true).getD z false = (F.getD z false || decide (s ||| 2 ^ x.toNat = z)) := fun z => getD_set hF _ _ hy
    have hch : ∀ z : Nat, (z : Int) ∈ chainFrom s (x :: C) ↔ (s ||| 2 ^ x.toNat = z ∨ (z : Int) ∈ chainFrom (s ||| 2 ^ x.toNat) C) := by
      intro z
      simp only [chainFrom, List.mem_cons]
      constructor
      · rintro (h | h)
        · exact .inl (by exact_mod_cast h.symm)
        · exact .inr h
      · rintro (h | h)
        · exact .inl (by exact_mod_cast h.symm)
        · exact .inr h
    generalize s ||| 2 ^ x.toNat = y at *
    have hm' : ∀ z, ((F.set y true).getD z false = true ∨ (z : Int) ∈ chainFrom y C) ↔ T z := by
      intro z
      rw [hg z, Bool.or_eq_true, decide_eq_true_eq, ← hm z, hch z, or_assoc]
    obtain ⟨R, h1, h2⟩ := so_inner n len i ws w hw hwl P T C (D ++ [x]) y (F.set y true) (by rw [List.append_assoc]; exact hD) (by rw [List.length_set]; exact hF) hy hm' hk
    rw [List.length_append, List.length_singleton] at h1
    push_cast at h1
    refine ⟨R, ?_, h2⟩
    have hwsD : wrap64 ((D.length : Int) + 1) = D.length + 1 := wrap_succ (by omega) (by omega)
    exact Ev.succ (fun k => by simp only [impl_spaceOf.l1]; rw [if_pos (by omega), if_pos (by omega), if_pos (by omega), hrdD, if_pos i0, hbits, if_pos (by omega), if_pos (by omega), Int.toNat_natCast, hwsD]) h1
theorem getD_snoc (A B : List (List Int)) (w : List Int) : rd_L9 (A ++ w :: B) (A.length : Int) = w := by
  show (A ++ w :: B).getD ((A.length : Int)).toNat [] = w
  rw [Int.toNat_natCast]
  simp [List.getD]
theorem so_loop (n : Int) (ws : List (List Int)) (hw : ∀ w ∈ ws, (∀ i ∈ w, 0 ≤ i ∧ i < 7) ∧ w.length ≤ 7) (hl : ws.length ≤ 1000) : ∀ (B A : List (List Int)) (F : List Bool), A ++ B = ws → F.length = 128 → (∀ z, F.getD z false = true ↔ ∃ w ∈ A, (z : Int) ∈ chainFrom 0 w) →
    ∃ R, Ev (fun k => impl_spaceOf.l0 k n F ws ws.length A.length) R ∧ ∃ Q, R = (n, setsOf Q) ∧ Q.length = 128 ∧ ∀ z, Q.getD z false = true ↔ Un (fun y => ∃ w ∈ ws, (y : Int) ∈ chainFrom 0 w) z
  | [], A, F, hA, hF, hm => by
    rw [List.append_nil] at hA
    subst hA
    obtain ⟨R, h1, h2, h3⟩ := closed_ok F hF
    refine ⟨(n, setsOf R), ?_, R, rfl, h2, fun z => (h3 z).trans ⟨fun h => h.mono (fun y hy => .base ((hm y).1 hy)), fun h => h.mono (fun y hy => .base ((hm y).2 hy))⟩⟩
    refine Ev.succ (fun k => by simp only [impl_spaceOf.l0]; rw [if_neg (by omega)]) ?_
    refine Ev.bind h1 ?_
    refine Ev.bindc (show impl_family_space.f R n = some (n, setsOf R) from by unfold impl_family_space.f; rw [if_pos h2]) ?_
    exact Ev.const rfl
  | w :: B, A, F, hA, hF, hm => by
    have hlt : A.length < ws.length := by rw [← hA]; simp
    have hrd : rd_L9 ws (A.length : Int) = w := by rw [← hA]; exact getD_snoc A B w
    have hww := hw w (by rw [← hA]; simp)
    have hws : wrap64 ((A.length : Int) + 1) = A.length + 1 := wrap_succ (by omega) (by omega)
    obtain ⟨R, h1, h2⟩ := so_inner n ws.length A.length ws w hww.1 hww.2 (fun R => ∃ Q, R = (n, setsOf Q) ∧ Q.length = 128 ∧ ∀ z, Q.getD z false = true ↔ Un (fun y => ∃ w ∈ ws, (y : Int) ∈ chainFrom 0 w) z) (fun z => ∃ v ∈ A ++ [w], (z : Int) ∈ chainFrom 0 v) w [] 0 F rfl hF (by decide) (fun z => by
      rw [hm z]
      constructor
      · rintro (⟨v, hv, h⟩ | h)
        · exact ⟨v, by simp [hv], h⟩
        · exact ⟨w, by simp, h⟩
      · rintro ⟨v, hv, h⟩
        rcases List.mem_append.1 hv with hv | hv
        · exact .inl ⟨v, hv, h⟩
        · rw [List.mem_singleton.1 hv] at h
          exact .inr h) (fun F' hF' hm' => by
      have := so_loop n ws hw hl B (A ++ [w]) F' (by rw [List.append_assoc]; exact hA) hF' hm'
      rw [List.length_append, List.length_singleton] at this
      push_cast at this
      rw [hws]
      exact this)
    replace h1 : Ev (fun k => impl_spaceOf.l1 k n F 0 ws ws.length A.length w w.length 0) R := h1
    refine ⟨R, ?_, h2⟩
    exact Ev.succ (fun k => by simp only [impl_spaceOf.l0]; rw [if_pos (by omega), if_pos (by omega), if_pos (by omega), hrd]) h1
theorem spaceOf_ok (n : Int) (ws : List (List Int)) (hw : ∀ w ∈ ws, (∀ i ∈ w, 0 ≤ i ∧ i < 7) ∧ w.length ≤ 7) (hl : ws.length ≤ 1000) : ∃ Q, Ev (fun k => impl_spaceOf.f k n ws) (n, setsOf Q) ∧ Q.length = 128 ∧ ∀ z, Q.getD z false = true ↔ Un (fun y => ∃ w ∈ ws, (y : Int) ∈ chainFrom 0 w) z := by
  unfold impl_spaceOf.f
  obtain ⟨R, h1, Q, rfl, h2, h3⟩ := so_loop n ws hw hl ws [] (List.replicate 128 false) rfl (by simp) (fun z => by
    constructor
    · intro h
      rw [List.getD_eq_getElem?_getD, List.getElem?_replicate] at h
      split at h <;> cases h
    · rintro ⟨w, hw, _⟩
      exact absurd hw (by simp))
  exact ⟨Q, h1, h2, h3⟩

end Go.Proofs.Ytpamaelmdncpoaa.Q
