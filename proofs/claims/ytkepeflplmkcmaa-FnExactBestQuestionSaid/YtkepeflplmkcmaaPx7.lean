/- Contracts of functions that the laws reach: a call returns what the plain Lean function of the same name tells. Conditions: those of each theorem. Made by gen.py, a program of this session, over the print of the translation. -/
import Derived.Test.YtkepeflplmkcmaaPx0
import Derived.Test.YtkepeflplmkcmaaPx1
import Derived.Test.YtkepeflplmkcmaaPx2
import Derived.Test.YtkepeflplmkcmaaPx3
import Derived.Test.YtkepeflplmkcmaaPx5
import Derived.Test.YtkepeflplmkcmaaPx6
namespace Go.Proofs.Ytkepeflplmkcmaa.Q
open Go.RowKit Go.Proofs.YtkepeflplmkcmaaW.PrintWords Go.Proofs.YtkepeflplmkcmaaW.PrintLast Go.Proofs.YtkepeflplmkcmaaW.PrintMore
attribute [local go_sem] max2_int min2_int max_two min_two max_three min_three max_four min_four   -- for this text's walks alone
set_option linter.unusedVariables false
set_option linter.unusedSimpArgs false

-- HAND impl_asker_least: function 52
set_option maxHeartbeats 8000000 in
set_option maxRecDepth 100000 in
theorem impl_asker_least.calls (g bm : Nat) (n : Int) (A : Option Addr) (c : Nat) (l : List Int) (m1 : Value) (wb : World) (hl : Kd.C (Kd.int .i64) wb A l.length l) (hc : l.length ≤ c) :
  ∀ (k : Nat) (y x r : Int) (D : DataW Unit) (w : World) (hS : AskS combW wb w g bm n A c l (.map (some bm)) m1 D) (h : askF combW n l k y x = some r),
  Calls Try.prog 52 #[.pointer (some ⟨g, 0, none⟩), .int .i64 y, .int .i64 x] w fun e w' => e = .returned (.int .i64 r) ∧ AskOk combW wb w w' g bm n A c l (.map (some bm)) m1 := by
 have hu := Try.underlying28
 have hu2 := Try.underlying110
 have HL := asd hl
 have HC := asd hc
 clear hl hc
 intro k
 induction k with
 | zero =>
  intro y x r D w hS h
  cases h
 | succ k ih =>
  intro y x r D w hS h
  have IH := asd ih
  have HW := asd h
  have HLW := asd hS.map.lt
  clear ih
  obtain ⟨hry, hrx⟩ := askF_range h
  have hX := below_alloc (Below.refl _ w) (.cells #[.int .i64 y, .int .i64 x] 111)
  have HS1 := asd (hS.below hX)
  have BK1 := asd (heap_alloc_new w (.cells #[.int .i64 y, .int .i64 x] 111))
  have HX := asd hX
  clear hS hX
  unfold askF at h
  rw [if_pos ⟨hry.1, hry.2, hrx⟩] at h
  obtain ⟨L, hL, h⟩ := Option.bind_eq_some_iff.1 h
  obtain ⟨O, hO, h⟩ := Option.bind_eq_some_iff.1 h
  have HLL := asd hL
  have HO := asd hO
  have HV := asd h
  have HRG : Aside0 ((0 ≤ y ∧ y < 128) ∧ (0 ≤ x ∧ x < 128)) := ⟨⟨hry, hrx⟩⟩
  clear h hL hO hry hrx
  obtain ⟨cv, hcv⟩ := HS1.out.at_ HRG.out.1 HRG.out.2
  have HCV := asd hcv
  clear hcv
  cases hh : Go.Maps.has D (kl2 y x) with
  | true =>
   obtain ⟨k2, v2, e1, e2⟩ := HS1.out.memo.2 y x HRG.out.1 HRG.out.2 hh
   have HC2 : Aside0 (cv = r) := ⟨by
    have h1 := HCV.out.symm.trans e2
    rw [askF_det HW.out e1]
    exact (Lit.int.inj (DataW.lit.inj h1)).2⟩
   have HH := asd hh
   clear hh e1 e2
   go_enter Try.func52, Try.ntmps52
   go_wp2
   generalize w.alloc (.cells #[.int .i64 y, .int .i64 x] 111) = w1 at *
   have HK0 : Aside0 (∀ w', Below w1.heap.size w1 w' → Aside0 (Below w1.heap.size w1 w') ∧ w'.cell? ⟨g, 2, none⟩ = some (.map (some bm)) ∧ w'.cell? ⟨w.heap.size, 0, none⟩ = some (.int .i64 y) ∧ w'.cell? ⟨w.heap.size, 1, none⟩ = some (.int .i64 x) ∧ (Instr.lookup 108 (.map (some bm)) (.agg #[.int .i64 y, .int .i64 x]) true).run Try.prog w' = .ok (.tuple #[.int .i64 cv, .bool true]) w') := ⟨fun w' hb => ⟨⟨hb⟩, (HS1.out.below hb).cells.2.2.1, (blk_cell (blk_below BK1.out hb) 0).trans rfl, (blk_cell (blk_below BK1.out hb) 1).trans rfl, (HS1.out.below hb).look HRG.out.1 HRG.out.2 HCV.out HH.out⟩⟩
   go_region_held3 (fun w' => Aside0 (Below w1.heap.size w1 w') ∧ w'.cell? ⟨g, 2, none⟩ = some (.map (some bm)) ∧ w'.cell? ⟨w.heap.size, 0, none⟩ = some (.int .i64 y) ∧ w'.cell? ⟨w.heap.size, 1, none⟩ = some (.int .i64 x) ∧ (Instr.lookup 108 (.map (some bm)) (.agg #[.int .i64 y, .int .i64 x]) true).run Try.prog w' = .ok (.tuple #[.int .i64 cv, .bool true]) w') (first | exact HK0.out _ (Below.refl _ _) | exact HK0.out _ (below_drew1 (Below.refl _ _)) | exact HK0.out _ (below_step (‹Aside0 (Below w1.heap.size w1 _) ∧ _›).1.out (by assumption))) (fail)
   go_wp2
   go_ret
   exact ⟨by rw [HC2.out]; rfl, D, HS1.out.below (below_drew1 (Below.refl _ _)), Kept.of_below (below_step HX.out (below_drew1 (Below.refl _ _))) _⟩
  | false =>
   have HH := asd hh
   clear hh
   go_enter Try.func52, Try.ntmps52
   go_wp2
   generalize w.alloc (.cells #[.int .i64 y, .int .i64 x] 111) = w1 at *
   have HK0 : Aside0 (∀ w', Below w1.heap.size w1 w' → Aside0 (Below w1.heap.size w1 w') ∧ w'.cell? ⟨g, 2, none⟩ = some (.map (some bm)) ∧ w'.cell? ⟨w.heap.size, 0, none⟩ = some (.int .i64 y) ∧ w'.cell? ⟨w.heap.size, 1, none⟩ = some (.int .i64 x) ∧ (Instr.lookup 108 (.map (some bm)) (.agg #[.int .i64 y, .int .i64 x]) true).run Try.prog w' = .ok (.tuple #[.int .i64 cv, .bool false]) w') := ⟨fun w' hb => ⟨⟨hb⟩, (HS1.out.below hb).cells.2.2.1, (blk_cell (blk_below BK1.out hb) 0).trans rfl, (blk_cell (blk_below BK1.out hb) 1).trans rfl, (HS1.out.below hb).look HRG.out.1 HRG.out.2 HCV.out HH.out⟩⟩
   go_region_held3 (fun w' => Aside0 (Below w1.heap.size w1 w') ∧ w'.cell? ⟨g, 2, none⟩ = some (.map (some bm)) ∧ w'.cell? ⟨w.heap.size, 0, none⟩ = some (.int .i64 y) ∧ w'.cell? ⟨w.heap.size, 1, none⟩ = some (.int .i64 x) ∧ (Instr.lookup 108 (.map (some bm)) (.agg #[.int .i64 y, .int .i64 x]) true).run Try.prog w' = .ok (.tuple #[.int .i64 cv, .bool false]) w') (first | exact HK0.out _ (Below.refl _ _) | exact HK0.out _ (below_drew1 (Below.refl _ _)) | exact HK0.out _ (below_step (‹Aside0 (Below w1.heap.size w1 _) ∧ _›).1.out (by assumption))) (fail)
   have HB2 : Aside0 (Below w1.heap.size w1 w1.drew) := ⟨below_drew1 (Below.refl _ _)⟩
   clear HK0 HCV HH
   generalize w1.drew = w2 at *
   have HS2 := asd (HS1.out.below HB2.out)
   have BK2 := asd (blk_below BK1.out HB2.out)
   have HX2 := asd (below_step HX.out HB2.out)
   have q0 := HS2.out.cells.1
   have q1 := HS2.out.cells.2.1
   clear HS1 HB2 BK1 HX
   go_wp2_with (first | (go_at_call 55; (with_reducible refine (impl_Space_left.calls k n _ _ l y x L _ ?sa ?sb HLL.out).mono ?_); (case sa => exact Kd.C_below HL.out HS2.out.bel); (case sb => exact HC.out); rintro e W4 ⟨vL, rfl, hR, hb4⟩; have HS4 := asd (HS2.out.below hb4); have HB4 := asd (below_step HX2.out hb4); have BK4 := asd (blk_below BK2.out hb4); obtain ⟨AL, cL, rfl⟩ := Kd.R_slice hR; have HRL := asd (Kd.R_reads' hR).2.2; have HCL := asd (Kd.R_reads' hR).2.1; clear hR hb4 q0 q1) | (go_at_call 105; (refine (impl_open.calls k _ _ L O _ HRL.out HCL.out HO.out).mono ?_); rintro e W5 ⟨vI, rfl, hR, hb5⟩; have HS5 := asd (HS4.out.below hb5); have HB5 := asd (below_step HB4.out hb5); have BK5 := asd (blk_below BK4.out hb5); obtain ⟨AI, cI, rfl⟩ := Kd.R_slice hR; have HIT := asd (Kd.R_tight rfl hR); have HIB := asd (Kd.R_base hR); have HLT := asd HS4.out.map.lt; clear hR hb5))
   have HNI : Aside0 (∀ k, some k = (Value.slice AI O.length cI).ownBlock → ¬ k = bm) := ⟨fun k hk hh => by
    have h1 := HIB.out k hk.symm
    have := HLT.out
    omega⟩
   clear HS2 BK2 HX2 HS4 HB4 BK4 HRL HCL HIB HLT
   go_loopg [10, 37] O.length (fun kq v11 v39 wr => ∃ (j : Nat) (b : Int) (D1 : DataW Unit), v11 = .int .i64 b ∧ v39 = .int .i64 j ∧ Aside0 (j ≤ O.length ∧ O.length - j ≤ kq) ∧ Aside0 (askLoop (fun y x => askF combW n l k y x) (combW L.length) y x (O.drop j) (decide (j = 0)) b = some r) ∧ Aside0 (AskS combW wb wr g bm n A c l (.map (some bm)) m1 D1) ∧ Aside0 (Kept W5 wr (fun k => k = bm)))
   case atStart => exact ⟨0, 0, D, rfl, rfl, ⟨Nat.zero_le _, Nat.le_refl _⟩, ⟨HV.out⟩, HS5, ⟨Kept.refl _ _⟩⟩
   case round =>
    obtain ⟨j, b, D1, rfl, rfl, hj, HA, HS, HK⟩ := hrel
    obtain ⟨hjl, hgg⟩ := hj.out
    clear hj
    have HOK : Aside0 (AskOk combW wb wr wr g bm n A c l (.map (some bm)) m1) := ⟨⟨D1, HS.out, Kept.refl _ _⟩⟩
    by_cases hlt : j < O.length
    ·
     have HIR := asd (Kd.R_reads' (Kd.R_step HIT.out (fun k hk hlt => HK.out.2 k hlt (HNI.out k hk)))).2.2
     have hmx := Kd.C_max HIR.out
     have hltz : (j : Int) < (O.length : Int) := by omega
     have H := HA.out
     clear HA
     rw [List.drop_eq_getElem_cons hlt, ← rd_get hlt] at H
     obtain ⟨ad, e, hcx⟩ := Kd.at_int HIR.out (j : Int) (by omega) hltz
     cases e
     rw [Int.toNat_natCast] at hcx
     generalize rd O (j : Int) = i at *
     unfold askLoop at H
     by_cases hi : 0 ≤ i
     ·
      rw [if_pos hi] at H
      obtain ⟨p, hp, H⟩ := Option.bind_eq_some_iff.1 H
      obtain ⟨q, hq, H⟩ := Option.bind_eq_some_iff.1 H
      obtain ⟨v0, hv0⟩ : ∃ v0, v0 = combW L.length p q := ⟨_, rfl⟩
      rw [← hv0] at H
      have HH2 := asd H
      have hi0b : decide (0 ≤ i) = true := decide_eq_true hi
      obtain ⟨sx, hsx⟩ : ∃ y, y = shl .i64 1 i := ⟨_, rfl⟩
      have sA : IntKind.i64.wrap (1 * 2 ^ min i.toNat 64) = sx := hsx.symm
      have sB : IntKind.i64.wrap (2 ^ min i.toNat 64) = sx := by rw [← sA, Int.one_mul]
      have sC : wrap64 (1 * 2 ^ min i.toNat 64) = sx := (i64_w _).symm.trans sA
      have sD : wrap64 (2 ^ min i.toNat 64) = sx := (i64_w _).symm.trans sB
      have HREC1 : Aside0 (askF combW n l k (Go.bits .or .i64 y sx) x = some p) := ⟨by rw [hsx]; exact hp⟩
      have HREC2 : Aside0 (askF combW n l k y (Go.bits .or .i64 x sx) = some q) := ⟨by rw [hsx]; exact hq⟩
      have cA : IntKind.i64.wrap (1 + if p < q then q else p) = v0 := by rw [hv0, i64_w]; rfl
      clear hsx H hp hq hv0
      go_wp2
      go_region_held3 (fun w' => Aside0 (AskOk combW wb wr w' g bm n A c l (.map (some bm)) m1)) (first | assumption | exact ⟨HOK.out.below (below_drew1 (Below.refl _ _))⟩ | exact ⟨(‹Aside0 (AskOk combW wb wr _ g bm n A c l (.map (some bm)) m1)›).out.trans (by assumption)⟩ | exact HOK) (first | (go_at_call 52; obtain ⟨Dq, hSq, hKq⟩ := (‹Aside0 (AskOk combW wb wr _ g bm n A c l (.map (some bm)) m1)›).out; (first | (with_reducible refine (IH.out (Go.bits .or .i64 y sx) x p Dq _ hSq HREC1.out).mono ?_) | (with_reducible refine (IH.out y (Go.bits .or .i64 x sx) q Dq _ hSq HREC2.out).mono ?_)); rintro e W3 ⟨rfl, hb3⟩))
      have HB3 := ‹Aside0 (AskOk combW wb wr _ g bm n A c l (.map (some bm)) m1)›
      by_cases hj0 : j = 0
      ·
       have jb : ((j : Int) == 0) = true := beq_iff_eq.mpr (by omega)
       go_wp2
       all_goals go_roundg (O.length - (j + 1))
       all_goals first | (case measure => omega) | (case rel => obtain ⟨D2, hS2, hK2⟩ := HB3.out; exact ⟨j + 1, v0, D2, rfl, by go_num, ⟨by omega, Nat.le_refl _⟩, ⟨by have h := HH2.out; rw [if_pos (Or.inl (decide_eq_true hj0))] at h; rw [show decide (j + 1 = 0) = false from decide_eq_false (by omega)]; exact h⟩, ⟨hS2⟩, ⟨HK.out.then_ hK2 (fun _ hk => .inl hk)⟩⟩)
      ·
       have jb : ((j : Int) == 0) = false := beq_eq_false_iff_ne.mpr (by omega)
       have jd : ¬ decide (j = 0) = true := by simp [hj0]
       by_cases hvb : v0 < b
       ·
        have vb : decide (v0 < b) = true := decide_eq_true hvb
        go_wp2
        all_goals go_roundg (O.length - (j + 1))
        all_goals first | (case measure => omega) | (case rel => obtain ⟨D2, hS2, hK2⟩ := HB3.out; exact ⟨j + 1, v0, D2, rfl, by go_num, ⟨by omega, Nat.le_refl _⟩, ⟨by have h := HH2.out; rw [if_pos (Or.inr hvb)] at h; rw [show decide (j + 1 = 0) = false from decide_eq_false (by omega)]; exact h⟩, ⟨hS2⟩, ⟨HK.out.then_ hK2 (fun _ hk => .inl hk)⟩⟩)
       ·
        have vb : decide (v0 < b) = false := decide_eq_false hvb
        go_wp2
        all_goals go_roundg (O.length - (j + 1))
        all_goals first | (case measure => omega) | (case rel => obtain ⟨D2, hS2, hK2⟩ := HB3.out; exact ⟨j + 1, b, D2, rfl, by go_num, ⟨by omega, Nat.le_refl _⟩, ⟨by have h := HH2.out; rw [if_neg (fun h2 => h2.elim jd (fun h3 => absurd h3 (by omega)))] at h; rw [show decide (j + 1 = 0) = false from decide_eq_false (by omega)]; exact h⟩, ⟨hS2⟩, ⟨HK.out.then_ hK2 (fun _ hk => .inl hk)⟩⟩)
     ·
      rw [if_neg hi] at H
      cases H
    ·
     obtain rfl : j = O.length := by omega
     have hltz : ¬ (O.length : Int) < (O.length : Int) := by omega
     have H := HA.out
     clear HA
     rw [List.drop_of_length_le (Nat.le_refl _)] at H
     unfold askLoop at H
     obtain rfl : b = r := Option.some.inj H
     clear H
     have HWV : Aside0 ((Lit.int .i64 b).wf = true) := ⟨askLoop_wf (fun p q => combW_wf _ p q) _ _ _ _ (WalkArith.wf_i64 (by omega)) HV.out⟩
     have BKr := asd (blk_kept BK5.out HK.out (by have := HLW.out; omega))
     have HKU : Aside0 (∀ w', AskOk combW wb wr w' g bm n A c l (.map (some bm)) m1 → Kept wr w' (fun k => k = bm) → Aside0 (AskOk combW wb wr w' g bm n A c l (.map (some bm)) m1) ∧ w'.cell? ⟨g, 2, none⟩ = some (.map (some bm)) ∧ w'.cell? ⟨w.heap.size, 0, none⟩ = some (.int .i64 y) ∧ w'.cell? ⟨w.heap.size, 1, none⟩ = some (.int .i64 x) ∧ (Instr.mapUpdate 108 (.map (some bm)) (.agg #[.int .i64 y, .int .i64 x]) (.int .i64 b)).run Try.prog w' = .ok () (putW bm y x b w')) := ⟨fun w' h hk => by
      obtain ⟨D2, hS2, _⟩ := h
      have hb := blk_kept BKr.out hk (by have := HLW.out; omega)
      exact ⟨⟨⟨D2, hS2, hk⟩⟩, hS2.cells.2.2.1, (blk_cell hb 0).trans rfl, (blk_cell hb 1).trans rfl, (hS2.update HW.out HWV.out).1⟩⟩
     have HKA : Aside0 (∀ w', AskOk combW wb wr w' g bm n A c l (.map (some bm)) m1 → Aside0 (AskOk combW wb wr w' g bm n A c l (.map (some bm)) m1) ∧ w'.cell? ⟨g, 2, none⟩ = some (.map (some bm)) ∧ w'.cell? ⟨w.heap.size, 0, none⟩ = some (.int .i64 y) ∧ w'.cell? ⟨w.heap.size, 1, none⟩ = some (.int .i64 x) ∧ (Instr.mapUpdate 108 (.map (some bm)) (.agg #[.int .i64 y, .int .i64 x]) (.int .i64 b)).run Try.prog w' = .ok () (putW bm y x b w')) := ⟨fun w' h => HKU.out w' h (by obtain ⟨_, _, hk⟩ := h; exact hk)⟩
     have HKP : Aside0 (∀ w', AskOk combW wb wr w' g bm n A c l (.map (some bm)) m1 → AskOk combW wb wr (putW bm y x b w') g bm n A c l (.map (some bm)) m1) := ⟨fun w' h => by
      obtain ⟨D2, hS2, hk⟩ := h
      exact AskOk.trans ⟨D2, hS2, hk⟩ (hS2.update HW.out HWV.out).2⟩
     go_wp2
     go_region_held3 (fun w' => Aside0 (AskOk combW wb wr w' g bm n A c l (.map (some bm)) m1) ∧ w'.cell? ⟨g, 2, none⟩ = some (.map (some bm)) ∧ w'.cell? ⟨w.heap.size, 0, none⟩ = some (.int .i64 y) ∧ w'.cell? ⟨w.heap.size, 1, none⟩ = some (.int .i64 x) ∧ (Instr.mapUpdate 108 (.map (some bm)) (.agg #[.int .i64 y, .int .i64 x]) (.int .i64 b)).run Try.prog w' = .ok () (putW bm y x b w')) (first | exact HKA.out _ HOK.out | exact HKA.out _ (HOK.out.below (below_drew1 (Below.refl _ _))) | exact HKA.out _ (HKP.out _ (‹Aside0 (AskOk combW wb wr _ g bm n A c l (.map (some bm)) m1) ∧ _›).1.out)) (fail)
     go_wp2
     go_ret
     have hw1 : AskOk combW wb w wr g bm n A c l (.map (some bm)) m1 := ⟨D1, HS.out, (Kept.of_below HB5.out (fun k => k = bm)).then_ HK.out (fun _ hk => .inl hk)⟩
     exact ⟨rfl, hw1.trans (HKP.out _ (HOK.out.below (below_drew1 (Below.refl _ _))))⟩

-- HAND impl_asker_best: function 56
set_option maxHeartbeats 8000000 in
set_option maxRecDepth 100000 in
theorem impl_asker_best.calls (g bm : Nat) (n : Int) (A : Option Addr) (c : Nat) (l : List Int) (m1 : Value) (wb : World) (hl : Kd.C (Kd.int .i64) wb A l.length l) (hc : l.length ≤ c) (hM : ∀ z ∈ l, I128 z) (hlen : l.length ≤ 128) (hri : l.Pairwise (· < ·)) (y x : Nat) (hy : y < 128) (hx : x < 128) (h2 : 2 ≤ (leftL l (y : Int) (x : Int)).length) (D : DataW Unit) (w : World) (hS : AskS combW wb w g bm n A c l (.map (some bm)) m1 D) :
  Calls Try.prog 56 #[.pointer (some ⟨g, 0, none⟩), .int .i64 (y : Int), .int .i64 (x : Int)] w fun e w' => e = .returned (.int .i64 (bestV (leftL l (y : Int) (x : Int)) : Nat)) ∧ Below wb.heap.size wb w' := by
 have hu := Try.underlying28
 have hu2 := Try.underlying110
 have HL := asd hl
 have HC := asd hc
 have HML : Aside0 (∀ z ∈ leftL l (y : Int) (x : Int), I128 z) := ⟨fun z hz => hM z (leftL_sub hz)⟩
 have HLN : Aside0 ((leftL l (y : Int) (x : Int)).length ≤ 128) := ⟨Nat.le_trans (leftL_length l _ _) hlen⟩
 have HRL : Aside0 ((leftL l (y : Int) (x : Int)).Pairwise (· < ·)) := ⟨hri.sublist List.filter_sublist⟩
 have hall : ∀ (y x : Nat), y < 128 → x < 128 → ∃ k, askF combW n l k (y : Int) (x : Int) = some (valV cW 7 (leftL l (y : Int) (x : Int))) := fun y x hy hx => by
  obtain ⟨k, hk⟩ := askE (n := n) hM hlen combW_ok 7 y x hy hx (items_len _)
  exact ⟨k, hk k (Nat.le_refl _)⟩
 obtain ⟨k0, hk0⟩ := hall y x hy hx
 have HK0 := asd hk0
 obtain ⟨kL, hkL⟩ := left_ok n (y := (y : Int)) (n := (x : Int)) ⟨by omega, by omega⟩ ⟨by omega, by omega⟩ hM (by omega)
 have HKL := asd (hkL kL (Nat.le_refl _))
 obtain ⟨kO, hkO⟩ := open_ok (leftL l (y : Int) (x : Int)) HML.out HLN.out
 have HKO := asd (hkO kO (Nat.le_refl _))
 have HFD := asd (best_find HML.out HRL.out h2)
 have HCH : Aside0 (∀ i : Nat, i < 7 → ∃ (k1 k2 : Nat), askF combW n l k1 (Go.bits .or .i64 (y : Int) ((2 ^ i : Nat) : Int)) (x : Int) = some (valV cW 7 (hasF i (leftL l (y : Int) (x : Int)))) ∧ askF combW n l k2 (y : Int) (Go.bits .or .i64 (x : Int) ((2 ^ i : Nat) : Int)) = some (valV cW 7 (hasntF i (leftL l (y : Int) (x : Int))))) := ⟨fun i h7 => by
  have h2i : (2 : Nat) ^ i < 9223372036854775808 := pow_lt63 i (by omega)
  have hy2 : y ||| 2 ^ i < 128 := Nat.or_lt_two_pow (n := 7) hy (Nat.pow_lt_pow_right (by decide) h7)
  have hx2 : x ||| 2 ^ i < 128 := Nat.or_lt_two_pow (n := 7) hx (Nat.pow_lt_pow_right (by decide) h7)
  obtain ⟨k1, h1⟩ := hall (y ||| 2 ^ i) x hy2 hx
  obtain ⟨k2, h2⟩ := hall y (x ||| 2 ^ i) hy hx2
  rw [left_has hM] at h1
  rw [left_hasnt hM] at h2
  rw [bits_or y (2 ^ i) (by omega) h2i, bits_or x (2 ^ i) (by omega) h2i]
  exact ⟨k1, k2, h1, h2⟩⟩
 have HS := asd hS
 have q0 := hS.cells.1
 have q1 := hS.cells.2.1
 clear hl hc hM hlen hri h2 hS hk0 hkL hkO hall hy hx
 generalize leftL l (y : Int) (x : Int) = L at *
 obtain ⟨VW, hVW⟩ : ∃ v, v = valV cW 7 L := ⟨_, rfl⟩
 rw [← hVW] at HK0
 have HVW := asd hVW
 clear hVW
 generalize (y : Int) = yi at *
 generalize (x : Int) = xi at *
 obtain ⟨O, hO⟩ : ∃ O, O = itemsN (openS L) := ⟨_, rfl⟩
 rw [← hO] at HFD
 have HO7 : Aside0 (∀ i ∈ O, i < 7) := ⟨fun i hi => itemsN_lt (by rw [← hO]; exact hi)⟩
 have HOI : Aside0 (itemsL (openS L : Int) = O.map fun (i : Nat) => (i : Int)) := ⟨by rw [hO]; unfold itemsL; rw [Int.toNat_natCast]⟩
 rw [HOI.out] at HKO
 have HLO : Aside0 ((O.map fun (i : Nat) => (i : Int)).length = O.length) := ⟨List.length_map _⟩
 clear hO HOI
 go_enter Try.func56, Try.ntmps56
 go_wp2_with (first | (go_at_call 55; (with_reducible refine (impl_Space_left.calls kL n _ _ l yi xi L _ ?sa HC.out HKL.out).mono ?_); (case sa => exact Kd.C_below HL.out HS.out.bel); rintro e W4 ⟨vL, rfl, hR, hb4⟩; have HS4 := asd (HS.out.below hb4); obtain ⟨AL, cL, rfl⟩ := Kd.R_slice hR; have HRL := asd (Kd.R_reads' hR).2.2; have HCL := asd (Kd.R_reads' hR).2.1; clear hR hb4 q0 q1) | (go_at_call 105; (refine (impl_open.calls kO _ _ L (O.map fun (i : Nat) => (i : Int)) _ HRL.out HCL.out HKO.out).mono ?_); rintro e W5 ⟨vI, rfl, hR, hb5⟩; have HS5 := asd (HS4.out.below hb5); obtain ⟨AI, cI, rfl⟩ := Kd.R_slice hR; have HIT := asd (Kd.R_tight rfl hR); have HIB := asd (Kd.R_base hR); have HLT := asd HS4.out.map.lt; clear hR hb5))
 have HNI : Aside0 (∀ k, some k = (Value.slice AI (O.map fun (i : Nat) => (i : Int)).length cI).ownBlock → ¬ k = bm) := ⟨fun k hk hh => by
  have h1 := HIB.out k hk.symm
  have := HLT.out
  omega⟩
 have HIR5 := asd (Kd.R_reads' HIT.out).2.2
 have HRDE : Aside0 (∀ j : Nat, j < O.length → rd (O.map fun (i : Nat) => (i : Int)) (j : Int) = ((O.getD j 0 : Nat) : Int)) := ⟨fun j hj => by simp [rd, List.getD, hj]⟩
 clear HIB HLT HRL HCL HS4
 generalize (O.map fun (i : Nat) => (i : Int)) = OI at *
 go_loopg [18] O.length (fun kq v18 wr => ∃ (j : Nat) (D1 : DataW Unit), v18 = .int .i64 (j : Int) ∧ Aside0 (j + kq = O.length) ∧ Aside0 ((O.drop j).find? (bestP L) = some (bestV L)) ∧ Aside0 (AskS combW wb wr g bm n A c l (.map (some bm)) m1 D1) ∧ Aside0 (Kept W5 wr (fun k => k = bm)))
 case atStart => exact ⟨0, D, rfl, ⟨by omega⟩, HFD, HS5, ⟨Kept.refl _ _⟩⟩
 case round =>
  clear HFD HS5 HS
  obtain ⟨j, D1, rfl, hj, HA, HSr, HK⟩ := hrel
  cases gk with
  | zero =>
   exfalso
   have h := HA.out
   rw [List.drop_of_length_le (by have := hj.out; omega)] at h
   cases h
  | succ kn =>
   have hjl : j < O.length := by have := hj.out; omega
   have HIR := asd (Kd.R_reads' (Kd.R_step HIT.out (fun k hk hlt => HK.out.2 k hlt (HNI.out k hk)))).2.2
   have hmx := Kd.C_max HIR.out
   have hltz : (j : Int) < (OI.length : Int) := by have := HLO.out; omega
   have HWS : Aside0 (wrap64 ((j : Int) + 1) = ((j + 1 : Nat) : Int)) := ⟨by rw [wrap_succ (by omega) (by omega)]; push_cast; rfl⟩
   have HOK : Aside0 (AskOk combW wb wr wr g bm n A c l (.map (some bm)) m1) := ⟨⟨D1, HSr.out, Kept.refl _ _⟩⟩
   have h := HA.out
   rw [List.drop_eq_getElem_cons hjl, List.find?_cons, show O[j] = O.getD j 0 by simp [List.getD, hjl]] at h
   have HH := asd h
   obtain ⟨ad, e, hcx⟩ := Kd.at_int HIR.out (j : Int) (by omega) hltz
   cases e
   rw [Int.toNat_natCast, HRDE.out j hjl] at hcx
   have hi7 : O.getD j 0 < 7 := HO7.out _ (by simp [List.getD, hjl])
   clear h HA hmx
   generalize O.getD j 0 = i at *
   have HI7 := asd hi7
   have hi63 : i < 63 := by omega
   obtain ⟨k1, k2, hk1, hk2⟩ := HCH.out i hi7
   obtain ⟨sx, hsx⟩ : ∃ v : Int, v = ((2 ^ i : Nat) : Int) := ⟨_, rfl⟩
   rw [← hsx] at hk1 hk2
   have HREC1 := asd hk1
   have HREC2 := asd hk2
   have hshl : shl .i64 1 (i : Int) = sx := by rw [hsx]; exact shl_one i hi63
   obtain ⟨g1_, g2_, g3_, g4_, g5_, g6_, g7_, g8_⟩ := shl_ways hshl (by omega)
   rw [Int.toNat_natCast] at g1_ g2_ g3_ g4_ g5_ g6_ g7_ g8_
   obtain ⟨av, hav⟩ : ∃ v, v = vW L i := ⟨_, rfl⟩
   have HAV := asd hav
   unfold vW at hav
   clear hk1 hk2 hsx hshl hi7 hi63
   generalize valV cW 7 (hasF i L) = p at *
   generalize valV cW 7 (hasntF i L) = q at *
   unfold cW at hav
   have hvb := vW_bounds L i
   rw [← HAV.out] at hvb
   have HCS : Aside0 ((p < q ∧ IntKind.i64.wrap (1 + q) = av) ∨ (¬ p < q ∧ IntKind.i64.wrap (1 + p) = av ∧ IntKind.i64.wrap (1 + if p < q then q else p) = av)) := ⟨by
    by_cases hpq : p < q
    ·
     refine .inl ⟨hpq, ?_⟩
     rw [if_pos hpq] at hav
     rw [← hav, i64_w]; exact wrap_in (by omega) (by omega)
    ·
     have h1 : IntKind.i64.wrap (1 + p) = av := by
      rw [if_neg hpq] at hav
      rw [← hav, i64_w]; exact wrap_in (by omega) (by omega)
     exact .inr ⟨hpq, h1, by rw [if_neg hpq]; exact h1⟩⟩
   clear hav hvb
   cases hb : bestP L i with
   | true =>
    have hib : i = bestV L := by
     have h := HH.out
     rw [hb] at h
     exact Option.some.inj h
    have HIB := asd hib
    have eb : (av == VW) = true := beq_iff_eq.mpr (by
     have h := of_decide_eq_true hb
     rw [HAV.out, HVW.out]
     exact h)
    clear hib HH hb
    rcases HCS.out with ⟨hpq, cA⟩ | ⟨hpq, cA, cA2⟩
    all_goals
     go_wp2
     go_region_held3 (fun w' => Aside0 (AskOk combW wb wr w' g bm n A c l (.map (some bm)) m1)) (first | assumption | exact ⟨HOK.out.below (below_drew1 (Below.refl _ _))⟩ | exact ⟨(‹Aside0 (AskOk combW wb wr _ g bm n A c l (.map (some bm)) m1)›).out.trans (by assumption)⟩ | exact HOK) (first | (go_at_call 52; obtain ⟨Dq, hSq, hKq⟩ := (‹Aside0 (AskOk combW wb wr _ g bm n A c l (.map (some bm)) m1)›).out; (first | (with_reducible refine (impl_asker_least.calls g bm n A c l m1 wb HL.out HC.out k1 (Go.bits .or .i64 yi sx) xi p Dq _ hSq HREC1.out).mono ?_) | (with_reducible refine (impl_asker_least.calls g bm n A c l m1 wb HL.out HC.out k2 yi (Go.bits .or .i64 xi sx) q Dq _ hSq HREC2.out).mono ?_) | (with_reducible refine (impl_asker_least.calls g bm n A c l m1 wb HL.out HC.out k0 yi xi VW Dq _ hSq HK0.out).mono ?_)); rintro e W3 ⟨rfl, hb3⟩))
     all_goals
      have HB3 := ‹Aside0 (AskOk combW wb wr _ g bm n A c l (.map (some bm)) m1)›
      go_wp2
      all_goals go_ret
      all_goals (obtain ⟨D2, hS2, _⟩ := HB3.out; exact ⟨by have h := HIB.out; subst h; rfl, hS2.bel⟩)
   | false =>
    have HN : Aside0 ((O.drop (j + 1)).find? (bestP L) = some (bestV L)) := ⟨by
     have h := HH.out
     rw [hb] at h
     exact h⟩
    have eb : (av == VW) = false := beq_eq_false_iff_ne.mpr (by
     have h := of_decide_eq_false hb
     rw [HAV.out, HVW.out]
     exact h)
    clear HH hb
    rcases HCS.out with ⟨hpq, cA⟩ | ⟨hpq, cA, cA2⟩
    all_goals
     go_wp2
     go_region_held3 (fun w' => Aside0 (AskOk combW wb wr w' g bm n A c l (.map (some bm)) m1)) (first | assumption | exact ⟨HOK.out.below (below_drew1 (Below.refl _ _))⟩ | exact ⟨(‹Aside0 (AskOk combW wb wr _ g bm n A c l (.map (some bm)) m1)›).out.trans (by assumption)⟩ | exact HOK) (first | (go_at_call 52; obtain ⟨Dq, hSq, hKq⟩ := (‹Aside0 (AskOk combW wb wr _ g bm n A c l (.map (some bm)) m1)›).out; (first | (with_reducible refine (impl_asker_least.calls g bm n A c l m1 wb HL.out HC.out k1 (Go.bits .or .i64 yi sx) xi p Dq _ hSq HREC1.out).mono ?_) | (with_reducible refine (impl_asker_least.calls g bm n A c l m1 wb HL.out HC.out k2 yi (Go.bits .or .i64 xi sx) q Dq _ hSq HREC2.out).mono ?_) | (with_reducible refine (impl_asker_least.calls g bm n A c l m1 wb HL.out HC.out k0 yi xi VW Dq _ hSq HK0.out).mono ?_)); rintro e W3 ⟨rfl, hb3⟩))
     all_goals
      have HB3 := ‹Aside0 (AskOk combW wb wr _ g bm n A c l (.map (some bm)) m1)›
      go_wp2
      all_goals go_roundg kn
      all_goals first | (case measure => exact Nat.le_refl _) | (case rel => obtain ⟨D2, hS2, hK2⟩ := HB3.out; exact ⟨j + 1, D2, by rw [HWS.out], ⟨by have := hj.out; omega⟩, HN, ⟨hS2⟩, ⟨HK.out.then_ hK2 (fun _ hk => .inl hk)⟩⟩)

-- HAND impl_BestQuestion: function 19
def impl_BestQuestion.f (k : Nat) (n : Int) (l : List Int) (y x : Int) : Option (Int × Bool) := (impl_goOn.f k n l y x).bind fun b => if b = true then (if goOnB n l y x = true then (if ((leftL l y x).length : Int) = 1 then some (0, false) else some (((bestV (leftL l y x) : Nat) : Int), true)) else none) else some (0, false)
theorem impl_BestQuestion.mono (y0 : Int) (y1 : List Int) (y2 y3 : Int) (k : Nat) : LeO (impl_BestQuestion.f k y0 y1 y2 y3) (impl_BestQuestion.f (k + 1) y0 y1 y2 y3) := by
 unfold impl_BestQuestion.f
 exact LeO.bind (impl_goOn.mono _ _ _ _ k) fun b => LeO.refl _
theorem goOnB_facts4 {n : Int} {l : List Int} {y x : Int} (h : goOnB n l y x = true) : ∃ (a b : Nat), y = (a : Int) ∧ x = (b : Int) ∧ isSpaceB n l = true ∧ a < 128 ∧ b < 128 ∧ 1 ≤ (leftL l (a : Int) (b : Int)).length ∧ ∃ k, impl_Space_left.f k n l (a : Int) (b : Int) = some (leftL l (a : Int) (b : Int)) := by
 obtain ⟨hS, hy, hm, _⟩ := answersB_parts (goOnB_parts h)
 have hll := isSpaceB_len hS
 obtain ⟨k, hk⟩ := left_ok (l := l) n hy hm (isSpaceB_i128 hS) (by omega)
 have hk2 := hk k (Nat.le_refl _)
 obtain ⟨a, rfl⟩ := Int.eq_ofNat_of_zero_le hy.1
 obtain ⟨b, rfl⟩ := Int.eq_ofNat_of_zero_le hm.1
 unfold goOnB at h
 rw [Bool.and_eq_true] at h
 exact ⟨a, b, rfl, rfl, hS, by have := hy.2; omega, by have := hm.2; omega, of_decide_eq_true h.2, k, hk2⟩
set_option maxHeartbeats 8000000 in
set_option maxRecDepth 100000 in
theorem impl_BestQuestion.calls (k : Nat) (n : Int) (A : Option Addr) (c : Nat) (l : List Int) (yes no : Int) (r1 : Int) (r2 : Bool) (w : World) (hr : Kd.C (Kd.int .i64) w A l.length l) (hc : l.length ≤ c) (h : impl_BestQuestion.f k n l yes no = some (r1, r2)) :
  Calls Try.prog 19 #[.agg #[.int .i64 n, .slice A l.length c], .int .i64 yes, .int .i64 no] w fun e w' => e = .returned (.tuple #[.int .i64 r1, .bool r2]) ∧ Below w.heap.size w w' := by
 have hu := Try.underlying28
 have HR := asd hr
 have HC := asd hc
 clear hr hc
 unfold impl_BestQuestion.f at h
 obtain ⟨b, hg, h0⟩ := Option.bind_eq_some_iff.1 h
 clear h
 have h := h0
 clear h0
 have HG := asd hg
 clear hg
 cases b with
 | false =>
  obtain ⟨rfl, rfl⟩ : (0 : Int) = r1 ∧ false = r2 := by simpa using h
  clear h
  go_enter Try.func19, Try.ntmps19
  go_wp2_with (first | ((with_reducible refine gate_dst (N := 3) rfl ?_); refine box_event ?hg (N := 3) ?hd (cs := #[.int .i64 n, .slice A l.length c]) (t := 28) ?hr ?_; (case hd => rfl); (case hg => rfl); (case hr => first | (go_simp; done) | (go_simp; rfl)); intro g ge W gb Wb; have HXg := asd (SpBox.mk_ ge gb Wb); have gz0 := HXg.out.c0; have gz1 := HXg.out.c1; clear ge gb Wb) | (go_at_call 51; (with_reducible refine (impl_goOn.calls k n _ _ l yes no false _ (by repeat (first | exact Kd.C_below HR.out HXg.out.bel | (with_reducible refine Kd.C_drewN ?_ _) | (with_reducible refine Kd.C_drew ?_))) HC.out HG.out).mono ?_); rintro e W2 ⟨rfl, hbel_⟩; have HX2 := asd (SpBox.next HXg.out (by first | exact hbel_ | exact below_since hbel_ | exact below_since1 hbel_)); skip; clear hbel_))
  go_ret2
  exact ⟨rfl, (by repeat (first | exact HX2.out.bel | apply pw_below_drewN | apply below_drew1))⟩
 | true =>
  rw [if_pos rfl] at h
  by_cases hgo : goOnB n l yes no = true
  ·
   rw [if_pos hgo] at h
   obtain ⟨a, b, rfl, rfl, hS, ha, hb, hge, kL, hkL⟩ := goOnB_facts4 hgo
   have HKL := asd hkL
   by_cases h1 : ((leftL l (a : Int) (b : Int)).length : Int) = 1
   ·
    rw [if_pos h1] at h
    obtain ⟨rfl, rfl⟩ : (0 : Int) = r1 ∧ false = r2 := by simpa using h
    have b1 : (((leftL l (a : Int) (b : Int)).length : Int) == 1) = true := beq_iff_eq.mpr h1
    clear h hS ha hb hge hgo h1 hkL
    generalize leftL l (a : Int) (b : Int) = L at *
    generalize (a : Int) = yi at *
    generalize (b : Int) = xi at *
    go_enter Try.func19, Try.ntmps19
    go_wp2_with (first | ((with_reducible refine gate_dst (N := 3) rfl ?_); refine box_event ?hg (N := 3) ?hd (cs := #[.int .i64 n, .slice A l.length c]) (t := 28) ?hr ?_; (case hd => rfl); (case hg => rfl); (case hr => first | (go_simp; done) | (go_simp; rfl)); intro g ge W gb Wb; have HXg := asd (SpBox.mk_ ge gb Wb); have gz0 := HXg.out.c0; have gz1 := HXg.out.c1; clear ge gb Wb) | (go_at_call 51; (with_reducible refine (impl_goOn.calls k n _ _ l yi xi true _ (by repeat (first | exact Kd.C_below HR.out HXg.out.bel | (with_reducible refine Kd.C_drewN ?_ _) | (with_reducible refine Kd.C_drew ?_))) HC.out HG.out).mono ?_); rintro e W2 ⟨rfl, hbel_⟩; have HX2 := asd (SpBox.next HXg.out (by first | exact hbel_ | exact below_since hbel_ | exact below_since1 hbel_)); have q0 := HX2.out.c0; have q1 := HX2.out.c1; clear hbel_) | (go_at_call 55; (with_reducible refine (impl_Space_left.calls kL n _ _ l yi xi L _ ?ca HC.out HKL.out).mono ?_); (case ca => exact (by repeat (first | exact Kd.C_below HR.out HX2.out.bel | (with_reducible refine Kd.C_drewN ?_ _) | (with_reducible refine Kd.C_drew ?_)))); rintro e W3 ⟨v3, rfl, hR3, hb3⟩; obtain ⟨A3, c3, rfl⟩ := Kd.R_slice hR3; have HX3 := asd (SpBox.next HX2.out (by first | exact hb3 | exact below_since hb3 | exact below_since1 hb3)); clear hR3 hb3))
    go_ret2
    exact ⟨rfl, (by repeat (first | exact HX3.out.bel | apply pw_below_drewN | apply below_drew1))⟩
   ·
    rw [if_neg h1] at h
    obtain ⟨rfl, rfl⟩ : ((bestV (leftL l (a : Int) (b : Int)) : Nat) : Int) = r1 ∧ true = r2 := by simpa using h
    have b1 : (((leftL l (a : Int) (b : Int)).length : Int) == 1) = false := beq_eq_false_iff_ne.mpr h1
    have HQ : Aside0 (∀ (wb w : World) (g m1 m2 : Nat) (D : DataW Unit), AskS combW wb w g m1 n A c l (.map (some m1)) (.map (some m2)) D → Kd.C (Kd.int .i64) wb A l.length l → Calls Try.prog 56 #[.pointer (some ⟨g, 0, none⟩), .int .i64 (a : Int), .int .i64 (b : Int)] w fun e w' => e = .returned (.int .i64 (bestV (leftL l (a : Int) (b : Int)) : Nat)) ∧ Below wb.heap.size wb w') := ⟨fun wb w g m1 m2 D e1 e2 => impl_asker_best.calls g m1 n A c l (.map (some m2)) wb e2 HC.out (isSpaceB_i128 hS) (isSpaceB_len hS) (isSpaceB_rise hS) a b ha hb (by omega) D w e1⟩
    clear h hS ha hb hge hgo h1 hkL
    generalize leftL l (a : Int) (b : Int) = L at *
    generalize bestV L = B at *
    generalize (a : Int) = yi at *
    generalize (b : Int) = xi at *
    go_enter Try.func19, Try.ntmps19
    go_wp2_with (first | ((with_reducible refine gate_dst (N := 3) rfl ?_); refine box_event ?hg (N := 3) ?hd (cs := #[.int .i64 n, .slice A l.length c]) (t := 28) ?hr ?_; (case hd => rfl); (case hg => rfl); (case hr => first | (go_simp; done) | (go_simp; rfl)); intro g ge W gb Wb; have HXg := asd (SpBox.mk_ ge gb Wb); have gz0 := HXg.out.c0; have gz1 := HXg.out.c1; clear ge gb Wb) | (go_at_call 51; (with_reducible refine (impl_goOn.calls k n _ _ l yi xi true _ (by repeat (first | exact Kd.C_below HR.out HXg.out.bel | (with_reducible refine Kd.C_drewN ?_ _) | (with_reducible refine Kd.C_drew ?_))) HC.out HG.out).mono ?_); rintro e W2 ⟨rfl, hbel_⟩; have HX2 := asd (SpBox.next HXg.out (by first | exact hbel_ | exact below_since hbel_ | exact below_since1 hbel_)); have q0 := HX2.out.c0; have q1 := HX2.out.c1; clear hbel_) | (go_at_call 55; (with_reducible refine (impl_Space_left.calls kL n _ _ l yi xi L _ ?ca HC.out HKL.out).mono ?_); (case ca => exact (by repeat (first | exact Kd.C_below HR.out HX2.out.bel | (with_reducible refine Kd.C_drewN ?_ _) | (with_reducible refine Kd.C_drew ?_)))); rintro e W3 ⟨v3, rfl, hR3, hb3⟩; obtain ⟨A3, c3, rfl⟩ := Kd.R_slice hR3; have HX3 := asd (SpBox.next HX2.out (by first | exact hb3 | exact below_since hb3 | exact below_since1 hb3)); clear hR3 hb3; have k0 := HX3.out.c0; have k1 := HX3.out.c1; have HRW3 := asd (Kd.C_below HR.out HX3.out.bel)) | (go_at_call 48; (with_reducible refine (newAsker_maps n A c l _).mono ?_); rintro e W4 ⟨g3, m1, m2, rfl, hA1, _⟩; have HT4 := asd hA1; clear hA1) | (go_at_call 56; (with_reducible refine (HQ.out W3 _ g3 m1 m2 _ HT4.out HRW3.out).mono ?_); rintro e W5 ⟨rfl, hb5⟩; have HB5 := asd (below_step HX3.out.bel hb5); clear hb5))
    go_ret2
    exact ⟨rfl, HB5.out⟩
  ·
   rw [if_neg hgo] at h
   cases h

/-! ### laws_FnExactBestQuestion: function 5 -/
def laws_FnExactBestQuestion.j0 : Nat → Bool → Int → List Int → Int → List Int → Option (Bool)
 | 0, _, _, _, _, _ => none
 | k + 1, x42, x102000, x102001, x114000, x114001 => if x42 = true then (some false) else ((laws_toSpace.f k x102000 x102001).bind fun bt116 => ((laws_eqSpace.f k x114000 x114001 bt116.1 bt116.2).bind fun t120 => (if t120 = true then (some true) else (some false))))
def laws_FnExactBestQuestion.f (k : Nat) (a0_0 : Int) (l0_1 : List Int) (a1 : Int) (a2 : Int) : Option (Bool) := (laws_szSpace.f a0_0 l0_1 1048576).bind fun t102 => (if t102 < 0 then (some true) else ((laws_toSpace.f k a0_0 l0_1).bind fun bt103 => ((spec_BestQuestion.f k bt103.1 bt103.2 a1 a2).bind fun bt107 => ((laws_toSpace.f k a0_0 l0_1).bind fun bt109 => ((impl_BestQuestion.f k bt109.1 bt109.2 a1 a2).bind fun bt114 => (if bt114.1 = bt107.1 then (laws_FnExactBestQuestion.j0 k (bt114.2 != bt107.2) a0_0 l0_1 bt109.1 bt109.2) else (laws_FnExactBestQuestion.j0 k true a0_0 l0_1 bt109.1 bt109.2)))))))
theorem laws_FnExactBestQuestion.mono_l : ∀ k, (∀ y0 y1 y2 y3 y4, LeO (laws_FnExactBestQuestion.j0 k y0 y1 y2 y3 y4) (laws_FnExactBestQuestion.j0 (k + 1) y0 y1 y2 y3 y4))
 | 0 => fun _ _ _ _ _ r h => by simp [laws_FnExactBestQuestion.j0] at h
 | k + 1 => by
  have ih0 := laws_FnExactBestQuestion.mono_l k
  ·
   intro y0 y1 y2 y3 y4
   unfold laws_FnExactBestQuestion.j0
   repeat' first
   | (with_reducible exact ih0 _ _ _ _ _)
   | (with_reducible exact impl_BestQuestion.mono _ _ _ _ _)
   | (with_reducible exact laws_eqSpace.mono _ _ _ _ _)
   | (with_reducible exact laws_toSpace.mono _ _ _)
   | (with_reducible exact spec_BestQuestion.mono _ _ _ _ _)
   | (with_reducible exact LeO.refl _)
   | (with_reducible exact LeO.none _)
   | (with_reducible refine LeO.ite ?_ ?_)
   | (with_reducible refine LeO.bind ?_ (fun _ => ?_))
   | exact ih0 _ _ _ _ _
   | exact impl_BestQuestion.mono _ _ _ _ _
   | exact laws_eqSpace.mono _ _ _ _ _
   | exact laws_toSpace.mono _ _ _
   | exact spec_BestQuestion.mono _ _ _ _ _
   | exact LeO.none _
   | refine LeO.ite ?_ ?_
   | refine LeO.bind ?_ (fun _ => ?_)
theorem laws_FnExactBestQuestion.mono : ∀ a0 a1 a2 a3 k, LeO (laws_FnExactBestQuestion.f k a0 a1 a2 a3) (laws_FnExactBestQuestion.f (k + 1) a0 a1 a2 a3) := by
 intro a0 a1 a2 a3 k
 have ih0 := laws_FnExactBestQuestion.mono_l k
 unfold laws_FnExactBestQuestion.f
 repeat' first
   | (with_reducible exact ih0 _ _ _ _ _)
   | (with_reducible exact impl_BestQuestion.mono _ _ _ _ _)
   | (with_reducible exact laws_eqSpace.mono _ _ _ _ _)
   | (with_reducible exact laws_toSpace.mono _ _ _)
   | (with_reducible exact spec_BestQuestion.mono _ _ _ _ _)
   | (with_reducible exact LeO.refl _)
   | (with_reducible exact LeO.none _)
   | (with_reducible refine LeO.ite ?_ ?_)
   | (with_reducible refine LeO.bind ?_ (fun _ => ?_))
   | exact ih0 _ _ _ _ _
   | exact impl_BestQuestion.mono _ _ _ _ _
   | exact laws_eqSpace.mono _ _ _ _ _
   | exact laws_toSpace.mono _ _ _
   | exact spec_BestQuestion.mono _ _ _ _ _
   | exact LeO.none _
   | refine LeO.ite ?_ ?_
   | refine LeO.bind ?_ (fun _ => ?_)
set_option maxHeartbeats 8000000 in
set_option maxRecDepth 100000 in
theorem laws_FnExactBestQuestion.calls (k : Nat) (a0_0 : Int) (A0_1 : Option Addr) (c0_1 : Nat) (l0_1 : List Int) (a1 : Int) (a2 : Int) (r : Bool) (w : World) (hr0_1 : Kd.C (Kd.int .i64) w A0_1 l0_1.length l0_1) (hc0_1 : l0_1.length ≤ c0_1) (h : laws_FnExactBestQuestion.f k a0_0 l0_1 a1 a2 = some r) (hT_ : Aside0 (r = true)) :
  Calls Try.prog 5 #[.agg #[.int .i64 a0_0, .slice A0_1 l0_1.length c0_1], .int .i64 a1, .int .i64 a2] w fun e w' => e = .returned (.bool r) ∧ Below w.heap.size w w' := by
 have hu24 := Try.underlying24
 have hu28 := Try.underlying28
 have HR0_1 := asd hr0_1
 have HC0_1 := asd hc0_1
 clear hr0_1 hc0_1
 have HB := asd (Below.refl w.heap.size w)
 have H : ((laws_szSpace.f a0_0 l0_1 1048576).bind fun t102 => (if t102 < 0 then (some true) else ((laws_toSpace.f k a0_0 l0_1).bind fun bt103 => ((spec_BestQuestion.f k bt103.1 bt103.2 a1 a2).bind fun bt107 => ((laws_toSpace.f k a0_0 l0_1).bind fun bt109 => ((impl_BestQuestion.f k bt109.1 bt109.2 a1 a2).bind fun bt114 => (if bt114.1 = bt107.1 then (laws_FnExactBestQuestion.j0 k (bt114.2 != bt107.2) a0_0 l0_1 bt109.1 bt109.2) else (laws_FnExactBestQuestion.j0 k true a0_0 l0_1 bt109.1 bt109.2)))))))) = some r := h
 clear h
 replace H := Option.bind_eq_some_iff.mp H
 obtain ⟨t102, A40, H⟩ := H
 replace H : (if t102 < 0 then (some true) else ((laws_toSpace.f k a0_0 l0_1).bind fun bt103 => ((spec_BestQuestion.f k bt103.1 bt103.2 a1 a2).bind fun bt107 => ((laws_toSpace.f k a0_0 l0_1).bind fun bt109 => ((impl_BestQuestion.f k bt109.1 bt109.2 a1 a2).bind fun bt114 => (if bt114.1 = bt107.1 then (laws_FnExactBestQuestion.j0 k (bt114.2 != bt107.2) a0_0 l0_1 bt109.1 bt109.2) else (laws_FnExactBestQuestion.j0 k true a0_0 l0_1 bt109.1 bt109.2))))))) = some r := H
 have A4 := asd A40
 clear A40
 by_cases c5 : t102 < 0
 ·
  rw [if_pos c5] at H
  have c5b0 : decide (t102 < 0) = true := decide_eq_true c5
  clear c5
  obtain rfl := Option.some.inj H
  go_enter Try.func5, Try.ntmps5
  go_wp2_with (first | ((with_reducible refine gate_dst (N := 3) rfl ?_); refine box_event ?hg (N := 3) ?hd (cs := #[.int .i64 a0_0, .slice A0_1 l0_1.length c0_1]) (t := 24) ?hr ?_; (case hd => rfl); (case hg => rfl); (case hr => first | (go_simp; done) | (go_simp; rfl)); intro gb101 hg w6 hbox hb; have n0_ := asd (below_step (by repeat (first | (with_reducible first | exact HB.out | apply below_alloc | apply pw_below_drewN | apply below_drew1) | exact HB.out)) hb); have n1_ := asd (hbox); have n2_ := asd ((by rw [hg]; exact (below_size (by repeat (first | (with_reducible first | exact HB.out | apply below_alloc | apply pw_below_drewN | apply below_drew1) | exact HB.out))) : w.heap.size ≤ gb101)); have n3_ := asd ((by rw [hg]; exact (below_size (by repeat (first | (with_reducible first | exact HB.out | apply below_alloc | apply pw_below_drewN | apply below_drew1) | exact HB.out))) : w.heap.size ≤ gb101)); clear HB; have HB := n0_; have BK101 := n1_; have GW101 := n2_; have GE101 := n3_; clear n0_ n1_ n2_ n3_; clear hb hbox hg; have hcz7_0 : w6.cell? ⟨gb101, 0, none⟩ = some (.int .i64 a0_0) := (blk_cell BK101.out 0).trans rfl; have hcz7_1 : w6.cell? ⟨gb101, 1, none⟩ = some (.slice A0_1 l0_1.length c0_1) := (blk_cell BK101.out 1).trans rfl; have hfz7_0 := blk_frozen BK101.out 0; have hfz7_1 := blk_frozen BK101.out 1) | ((with_reducible refine gate_callee (f := 11) rfl ?_); refine goesL_ (some 15) rfl rfl Try.func11 (by kernel_rfl) rfl #[.agg #[.int .i64 a0_0, .slice A0_1 l0_1.length c0_1], .int .i64 1048576] rfl (by (try simp only [List.map_toArray, List.map_cons, List.map_nil]); first | done | rfl | (simp only [List.length_drop, List.length_take]; rfl)) ?_; (with_reducible refine (laws_szSpace.calls a0_0 _ _ l0_1 1048576 t102 _ ?side1 ?side2 A4.out).mono ?_); (case side1 => repeat (first | exact (Kd.C_below HR0_1.out HB.out) | (with_reducible refine Kd.C_alloc ?_ _) | (with_reducible refine Kd.C_drewN ?_ _) | (with_reducible refine Kd.C_drew ?_))); (case side2 => exact HC0_1.out); rintro e w8 ⟨rfl, hb⟩; refine ⟨_, rfl, ?_⟩; have n0_ := asd (blk_below (upB BK101.out) hb); have n1_ := asd (below_step (by repeat (first | (with_reducible first | exact HB.out | apply below_alloc | apply pw_below_drewN | apply below_drew1 | refine below_set ?_ GE101.out) | exact HB.out)) hb); clear BK101; clear HB; have BK101 := n0_; have HB := n1_; clear n0_ n1_; (try clear hb); (try clear hb2); (try clear hk); (try clear hi)))
  go_ret
  exact ⟨by first | rfl | (simp [errW_none, errW_some] <;> rfl) | (simp [*, errW_none, errW_some] <;> rfl), by repeat (first | (with_reducible first | exact HB.out | apply below_alloc | apply pw_below_drewN | apply below_drew1 | refine below_set ?_ GE101.out) | exact HB.out)⟩
 ·
  rw [if_neg c5] at H
  have c5b0 : decide (t102 < 0) = false := decide_eq_false c5
  clear c5
  replace H := Option.bind_eq_some_iff.mp H
  obtain ⟨⟨t103, t104⟩, A90, H⟩ := H
  replace H : ((spec_BestQuestion.f k t103 t104 a1 a2).bind fun bt107 => ((laws_toSpace.f k a0_0 l0_1).bind fun bt109 => ((impl_BestQuestion.f k bt109.1 bt109.2 a1 a2).bind fun bt114 => (if bt114.1 = bt107.1 then (laws_FnExactBestQuestion.j0 k (bt114.2 != bt107.2) a0_0 l0_1 bt109.1 bt109.2) else (laws_FnExactBestQuestion.j0 k true a0_0 l0_1 bt109.1 bt109.2))))) = some r := H
  have A9 := asd A90
  clear A90
  replace H := Option.bind_eq_some_iff.mp H
  obtain ⟨⟨t107, t108⟩, A100, H⟩ := H
  replace H : ((laws_toSpace.f k a0_0 l0_1).bind fun bt109 => ((impl_BestQuestion.f k bt109.1 bt109.2 a1 a2).bind fun bt114 => (if bt114.1 = t107 then (laws_FnExactBestQuestion.j0 k (bt114.2 != t108) a0_0 l0_1 bt109.1 bt109.2) else (laws_FnExactBestQuestion.j0 k true a0_0 l0_1 bt109.1 bt109.2)))) = some r := H
  have A10 := asd A100
  clear A100
  replace H := Option.bind_eq_some_iff.mp H
  obtain ⟨⟨t109, t110⟩, A110, H⟩ := H
  replace H : ((impl_BestQuestion.f k t109 t110 a1 a2).bind fun bt114 => (if bt114.1 = t107 then (laws_FnExactBestQuestion.j0 k (bt114.2 != t108) a0_0 l0_1 t109 t110) else (laws_FnExactBestQuestion.j0 k true a0_0 l0_1 t109 t110))) = some r := H
  have A11 := asd A110
  clear A110
  replace H := Option.bind_eq_some_iff.mp H
  obtain ⟨⟨t114, t115⟩, A120, H⟩ := H
  replace H : (if t114 = t107 then (laws_FnExactBestQuestion.j0 k (t115 != t108) a0_0 l0_1 t109 t110) else (laws_FnExactBestQuestion.j0 k true a0_0 l0_1 t109 t110)) = some r := H
  have A12 := asd A120
  clear A120
  have HC13 := asd H
  clear H
  go_enter Try.func5, Try.ntmps5
  go_upto_region 8 with (first | ((with_reducible refine gate_dst (N := 3) rfl ?_); refine box_event ?hg (N := 3) ?hd (cs := #[.int .i64 a0_0, .slice A0_1 l0_1.length c0_1]) (t := 24) ?hr ?_; (case hd => rfl); (case hg => rfl); (case hr => first | (go_simp; done) | (go_simp; rfl)); intro gb101 hg w14 hbox hb; have n0_ := asd (below_step (by repeat (first | (with_reducible first | exact HB.out | apply below_alloc | apply pw_below_drewN | apply below_drew1) | exact HB.out)) hb); have n1_ := asd (hbox); have n2_ := asd ((by rw [hg]; exact (below_size (by repeat (first | (with_reducible first | exact HB.out | apply below_alloc | apply pw_below_drewN | apply below_drew1) | exact HB.out))) : w.heap.size ≤ gb101)); have n3_ := asd ((by rw [hg]; exact (below_size (by repeat (first | (with_reducible first | exact HB.out | apply below_alloc | apply pw_below_drewN | apply below_drew1) | exact HB.out))) : w.heap.size ≤ gb101)); clear HB; have HB := n0_; have BK101 := n1_; have GW101 := n2_; have GE101 := n3_; clear n0_ n1_ n2_ n3_; clear hb hbox hg; have hcz15_0 : w14.cell? ⟨gb101, 0, none⟩ = some (.int .i64 a0_0) := (blk_cell BK101.out 0).trans rfl; have hcz15_1 : w14.cell? ⟨gb101, 1, none⟩ = some (.slice A0_1 l0_1.length c0_1) := (blk_cell BK101.out 1).trans rfl; have hfz15_0 := blk_frozen BK101.out 0; have hfz15_1 := blk_frozen BK101.out 1) | ((with_reducible refine gate_callee (f := 11) rfl ?_); refine goesL_ (some 15) rfl rfl Try.func11 (by kernel_rfl) rfl #[.agg #[.int .i64 a0_0, .slice A0_1 l0_1.length c0_1], .int .i64 1048576] rfl (by (try simp only [List.map_toArray, List.map_cons, List.map_nil]); first | done | rfl | (simp only [List.length_drop, List.length_take]; rfl)) ?_; (with_reducible refine (laws_szSpace.calls a0_0 _ _ l0_1 1048576 t102 _ ?side1 ?side2 A4.out).mono ?_); (case side1 => repeat (first | exact (Kd.C_below HR0_1.out HB.out) | (with_reducible refine Kd.C_alloc ?_ _) | (with_reducible refine Kd.C_drewN ?_ _) | (with_reducible refine Kd.C_drew ?_))); (case side2 => exact HC0_1.out); rintro e w16 ⟨rfl, hb⟩; refine ⟨_, rfl, ?_⟩; have n0_ := asd (blk_below (upB BK101.out) hb); have n1_ := asd (below_step (by repeat (first | (with_reducible first | exact HB.out | apply below_alloc | apply pw_below_drewN | apply below_drew1 | refine below_set ?_ GE101.out) | exact HB.out)) hb); clear BK101; clear HB; have BK101 := n0_; have HB := n1_; clear n0_ n1_; (try clear hb); (try clear hb2); (try clear hk); (try clear hi); have hcz17_0 : w16.cell? ⟨gb101, 0, none⟩ = some (.int .i64 a0_0) := (blk_cell BK101.out 0).trans rfl; have hcz17_1 : w16.cell? ⟨gb101, 1, none⟩ = some (.slice A0_1 l0_1.length c0_1) := (blk_cell BK101.out 1).trans rfl; have hfz17_0 := blk_frozen BK101.out 0; have hfz17_1 := blk_frozen BK101.out 1) | ((with_reducible refine gate_callee (f := 13) rfl ?_); refine goesL_ (some 20) rfl rfl Try.func13 (by kernel_rfl) rfl #[.agg #[.int .i64 a0_0, .slice A0_1 l0_1.length c0_1]] rfl (by (try simp only [List.map_toArray, List.map_cons, List.map_nil]); first | done | rfl | (simp only [List.length_drop, List.length_take]; rfl)) ?_; (with_reducible refine (laws_toSpace.calls k a0_0 _ _ l0_1 t103 t104 _ ?side1 ?side2 A9.out).mono ?_); (case side1 => repeat (first | exact (Kd.C_below HR0_1.out HB.out) | (with_reducible refine Kd.C_alloc ?_ _) | (with_reducible refine Kd.C_drewN ?_ _) | (with_reducible refine Kd.C_drew ?_))); (case side2 => exact HC0_1.out); rintro e w18 ⟨v105, rfl, ho0, hb⟩; refine ⟨_, rfl, ?_⟩; have n0_ := asd (Kd.R_lower ho0 (below_size (by repeat (first | (with_reducible first | exact HB.out | apply below_alloc | apply pw_below_drewN | apply below_drew1 | refine below_set ?_ GE101.out) | exact HB.out)))); have n1_ := asd (blk_below (upB BK101.out) hb); have n2_ := asd (below_step (by repeat (first | (with_reducible first | exact HB.out | apply below_alloc | apply pw_below_drewN | apply below_drew1 | refine below_set ?_ GE101.out) | exact HB.out)) hb); clear BK101; clear HB; have HO106 := n0_; have BK101 := n1_; have HB := n2_; clear n0_ n1_ n2_; (try clear hb); (try clear hb2); (try clear hk); (try clear hi); (try clear ho0); obtain ⟨Ao19, co19, eo19⟩ := Kd.R_slice HO106.out; subst eo19) | ((with_reducible refine gate_callee (f := 18) rfl ?_); refine goesL_ (some 23) rfl rfl Try.func18 (by kernel_rfl) rfl #[.agg #[.int .i64 t103, .slice Ao19 t104.length co19], .int .i64 a1, .int .i64 a2] rfl (by (try simp only [List.map_toArray, List.map_cons, List.map_nil]); first | done | rfl | (simp only [List.length_drop, List.length_take]; rfl)) ?_; (with_reducible refine (spec_BestQuestion.calls k t103 _ _ t104 a1 a2 t107 t108 _ ?side1 ?side2 A10.out).mono ?_); (case side1 => repeat (first | exact (Kd.R_reads' HO106.out).2.2 | (with_reducible refine Kd.C_alloc ?_ _) | (with_reducible refine Kd.C_drewN ?_ _) | (with_reducible refine Kd.C_drew ?_))); (case side2 => exact (Kd.R_reads' HO106.out).2.1); rintro e w20 ⟨rfl, hb⟩; refine ⟨_, rfl, ?_⟩; have n0_ := asd (Kd.R_below (upR <| HO106.out) hb); have n1_ := asd (blk_below (upB BK101.out) hb); have n2_ := asd (below_step (by repeat (first | (with_reducible first | exact HB.out | apply below_alloc | apply pw_below_drewN | apply below_drew1 | refine below_set ?_ GE101.out) | exact HB.out)) hb); clear HO106; clear BK101; clear HB; have HO106 := n0_; have BK101 := n1_; have HB := n2_; clear n0_ n1_ n2_; (try clear hb); (try clear hb2); (try clear hk); (try clear hi); have hcz21_0 : w20.cell? ⟨gb101, 0, none⟩ = some (.int .i64 a0_0) := (blk_cell BK101.out 0).trans rfl; have hcz21_1 : w20.cell? ⟨gb101, 1, none⟩ = some (.slice A0_1 l0_1.length c0_1) := (blk_cell BK101.out 1).trans rfl; have hfz21_0 := blk_frozen BK101.out 0; have hfz21_1 := blk_frozen BK101.out 1) | ((with_reducible refine gate_callee (f := 13) rfl ?_); refine goesL_ (some 27) rfl rfl Try.func13 (by kernel_rfl) rfl #[.agg #[.int .i64 a0_0, .slice A0_1 l0_1.length c0_1]] rfl (by (try simp only [List.map_toArray, List.map_cons, List.map_nil]); first | done | rfl | (simp only [List.length_drop, List.length_take]; rfl)) ?_; (with_reducible refine (laws_toSpace.calls k a0_0 _ _ l0_1 t109 t110 _ ?side1 ?side2 A11.out).mono ?_); (case side1 => repeat (first | exact (Kd.C_below HR0_1.out HB.out) | (with_reducible refine Kd.C_alloc ?_ _) | (with_reducible refine Kd.C_drewN ?_ _) | (with_reducible refine Kd.C_drew ?_))); (case side2 => exact HC0_1.out); rintro e w22 ⟨v111, rfl, ho0, hb⟩; refine ⟨_, rfl, ?_⟩; have n0_ := asd (Kd.R_elder' (upR <| HO106.out) (Kd.R_base ho0) hb); have n1_ := asd (Kd.R_lower (Kd.R_new' ho0 (Kd.R_lt (upR <| HO106.out))) (below_size (by repeat (first | (with_reducible first | exact HB.out | apply below_alloc | apply pw_below_drewN | apply below_drew1 | refine below_set ?_ GE101.out) | exact HB.out)))); have n2_ := asd (blk_below (upB BK101.out) hb); have n3_ := asd (below_step (by repeat (first | (with_reducible first | exact HB.out | apply below_alloc | apply pw_below_drewN | apply below_drew1 | refine below_set ?_ GE101.out) | exact HB.out)) hb); clear HO106; clear BK101; clear HB; have HO106 := n0_; have HO112 := n1_; have BK101 := n2_; have HB := n3_; clear n0_ n1_ n2_ n3_; (try clear hb); (try clear hb2); (try clear hk); (try clear hi); (try clear ho0)) | ((with_reducible refine gate_dst (N := 10) rfl ?_); refine box_event ?hg (N := 10) ?hd (cs := #[.int .i64 0, .slice none 0 0]) (t := 28) ?hr ?_; (case hd => rfl); (case hg => rfl); (case hr => first | (go_simp; done) | (go_simp; rfl)); intro gb113 hg w23 hbox hb; have n0_ := asd (Kd.R_below (upR <| HO106.out) hb); have n1_ := asd (Kd.R_below (upR <| HO112.out) hb); have n2_ := asd (blk_below (upB BK101.out) hb); have n3_ := asd (below_step (by repeat (first | (with_reducible first | exact HB.out | apply below_alloc | apply pw_below_drewN | apply below_drew1 | refine below_set ?_ GE101.out) | exact HB.out)) hb); have n4_ := asd (hbox); have n5_ := asd ((by rw [hg]; exact (below_size (by repeat (first | (with_reducible first | exact HB.out | apply below_alloc | apply pw_below_drewN | apply below_drew1 | refine below_set ?_ GE101.out) | exact HB.out))) : w.heap.size ≤ gb113)); have n6_ := asd ((by rw [hg]; exact (below_size (by repeat (first | (with_reducible first | exact HB.out | apply below_alloc | apply pw_below_drewN | apply below_drew1 | refine below_set ?_ GE101.out) | exact HB.out))) : w.heap.size ≤ gb113)); have n7_ := asd ((by rw [hg]; exact Nat.ne_of_lt (blk_lt (upB BK101.out)) : gb101 ≠ gb113)); have n8_ := asd ((by rw [hg]; exact Nat.ne_of_gt (blk_lt (upB BK101.out)) : gb113 ≠ gb101)); clear HO106; clear HO112; clear BK101; clear HB; have HO106 := n0_; have HO112 := n1_; have BK101 := n2_; have HB := n3_; have BK113 := n4_; have GW113 := n5_; have GE113 := n6_; have NB101_113 := n7_; have NB113_101 := n8_; clear n0_ n1_ n2_ n3_ n4_ n5_ n6_ n7_ n8_; clear hb hbox hg; have hnb24 := NB113_101.out; have hnc24 := NB101_113.out; have hcz25_0 : w23.cell? ⟨gb113, 0, none⟩ = some (.int .i64 0) := (blk_cell BK113.out 0).trans rfl; have hcz25_1 : w23.cell? ⟨gb113, 1, none⟩ = some (.slice none 0 0) := (blk_cell BK113.out 1).trans rfl; have hfz25_0 := blk_frozen BK113.out 0; have hfz25_1 := blk_frozen BK113.out 1; obtain ⟨Ao26, co26, eo26⟩ := Kd.R_slice HO112.out; subst eo26) | ((with_reducible refine gate_callee (f := 19) rfl ?_); refine goesL_ (some 32) rfl rfl Try.func19 (by kernel_rfl) rfl #[.agg #[.int .i64 t109, .slice Ao26 t110.length co26], .int .i64 a1, .int .i64 a2] rfl (by (try simp only [List.map_toArray, List.map_cons, List.map_nil]); first | done | rfl | (simp only [List.length_drop, List.length_take]; rfl)) ?_; (with_reducible refine (impl_BestQuestion.calls k t109 _ _ t110 a1 a2 t114 t115 _ ?side1 ?side2 A12.out).mono ?_); (case side1 => refine (Kd.R_reads' (e := 3) (base := w.heap.size) (ok := fun k_ => (True ∧ some k_ ≠ (.slice Ao19 t104.length co19 : Value).ownBlock)) (n := t110.length) (c := co26) ?_).2.2; exact (upR <| (Kd.R_mono (Kd.R_far (p := ⟨gb113, 1, none⟩) (Kd.R_far (p := ⟨gb113, 0, none⟩) (Kd.R_types HO112.out BK113.out (by decide)) (fun _ hk => hk.2) (.int .i64 t109)) (fun _ hk => hk.2) (.slice Ao26 t110.length co26)) (fun _ h_ => h_.1)))); (case side2 => exact (Kd.R_reads' HO112.out).2.1); rintro e w27 ⟨rfl, hb⟩; refine ⟨_, rfl, ?_⟩; have n0_ := asd (Kd.R_below (upR <| (Kd.R_mono (Kd.R_far (p := ⟨gb113, 1, none⟩) (Kd.R_far (p := ⟨gb113, 0, none⟩) (Kd.R_types HO106.out BK113.out (by decide)) (fun _ hk => hk.2) (.int .i64 t109)) (fun _ hk => hk.2) (.slice Ao26 t110.length co26)) (fun _ h_ => h_.1))) hb); have n1_ := asd (Kd.R_below (upR <| (Kd.R_mono (Kd.R_far (p := ⟨gb113, 1, none⟩) (Kd.R_far (p := ⟨gb113, 0, none⟩) (Kd.R_types HO112.out BK113.out (by decide)) (fun _ hk => hk.2) (.int .i64 t109)) (fun _ hk => hk.2) (.slice Ao26 t110.length co26)) (fun _ h_ => h_.1))) hb); have n2_ := asd (blk_below (g := gb101) (o := .cells #[.int .i64 a0_0, .slice A0_1 l0_1.length c0_1] 24 (0, 0)) (by (with_reducible repeat (first | refine blk_drewN ?_ _ | refine blk_drew ?_ | refine blk_alloc ?_ _)); refine blk_far ?_ NB101_113.out _; (with_reducible repeat (first | refine blk_drewN ?_ _ | refine blk_drew ?_ | refine blk_alloc ?_ _)); refine blk_far ?_ NB101_113.out _; (with_reducible repeat (first | refine blk_drewN ?_ _ | refine blk_drew ?_ | refine blk_alloc ?_ _)); exact BK101.out) hb); have n3_ := asd (blk_below (g := gb113) (o := .cells #[.int .i64 t109, .slice Ao26 t110.length co26] 28 (0, 0)) (by (with_reducible repeat (first | refine blk_drewN ?_ _ | refine blk_drew ?_ | refine blk_alloc ?_ _)); refine blk_put (cs := #[.int .i64 t109, .slice none 0 0]) ?_ 1 _ rfl; (with_reducible repeat (first | refine blk_drewN ?_ _ | refine blk_drew ?_ | refine blk_alloc ?_ _)); refine blk_put (cs := #[.int .i64 0, .slice none 0 0]) ?_ 0 _ rfl; (with_reducible repeat (first | refine blk_drewN ?_ _ | refine blk_drew ?_ | refine blk_alloc ?_ _)); exact BK113.out) hb); have n4_ := asd (below_step (by repeat (first | (with_reducible first | exact HB.out | apply below_alloc | apply pw_below_drewN | apply below_drew1 | refine below_set ?_ GE101.out | refine below_set ?_ GE113.out) | exact HB.out)) hb); clear HO106; clear HO112; clear BK101; clear BK113; clear HB; have HO106 := n0_; have HO112 := n1_; have BK101 := n2_; have BK113 := n3_; have HB := n4_; clear n0_ n1_ n2_ n3_ n4_; (try clear hb); (try clear hb2); (try clear hk); (try clear hi)))
  (try simp only [Act.put, List.setIfInBounds_toArray, List.set_cons_zero, List.set_cons_succ])
  go_cut [42] (fun v42 wc => ∃ (kq : Nat) (x42_12 : Bool), v42 = .bool x42_12 ∧ Aside0 (laws_FnExactBestQuestion.j0 kq x42_12 a0_0 l0_1 t109 t110 = some r) ∧ Aside0 (kq ≤ k) ∧ Aside0 (Kd.R (Kd.int .i64) 3 wc w.heap.size (fun _ => True) (.slice Ao26 t110.length co26) t110) ∧ Aside0 (wc.heap[gb101]? = some (.cells #[.int .i64 a0_0, (.slice A0_1 l0_1.length c0_1)] 24 (0, 0))) ∧ Aside0 (wc.heap[gb113]? = some (.cells #[.int .i64 t109, (.slice Ao26 t110.length co26)] 28 (0, 0))) ∧ Aside0 (Below w.heap.size w wc))
  case first =>
   have H := HC13.out
   clear HC13
   by_cases c28 : t114 = t107
   ·
    rw [if_pos c28] at H
    have c28b0 : (t114 == t107) = true := beq_iff_eq.mpr c28
    have c28b1 : (t114 != t107) = false := bne_eq_false_iff_eq.mpr c28
    clear c28
    (first | rw [c28b0] | (simp only [i64_w, i32_w]; rw [c28b0]) | skip)
    have H' := asd H
    clear H
    go_wp2
    go_meet
    case rel => exact ⟨_, ((t115 != t108)), (by first | rfl | (simp; done) | (simp [*]; done)), H', ⟨by first | omega | exact Nat.le_refl _⟩, ⟨by (with_reducible repeat (first | apply Kd.R_alloc | apply Kd.R_drewN | apply Kd.R_drew)); exact Kd.R_mono HO112.out (fun _ hk => trivial)⟩, ⟨by (with_reducible repeat (first | refine blk_drewN ?_ _ | refine blk_drew ?_ | refine blk_alloc ?_ _)); exact BK101.out⟩, ⟨by (with_reducible repeat (first | refine blk_drewN ?_ _ | refine blk_drew ?_ | refine blk_alloc ?_ _)); exact BK113.out⟩, ⟨by repeat (first | (with_reducible first | exact HB.out | apply below_alloc | apply pw_below_drewN | apply below_drew1 | refine below_set ?_ GE101.out | refine below_set ?_ GE113.out) | exact HB.out)⟩⟩
   ·
    rw [if_neg c28] at H
    have c28b0 : (t114 == t107) = false := beq_eq_false_iff_ne.mpr c28
    have c28b1 : (t114 != t107) = true := bne_iff_ne.mpr c28
    (first | rw [c28b0] | (simp only [i64_w, i32_w]; rw [c28b0]) | skip)
    rcases k with _ | kk_
    ·
     exact absurd H (by simp [laws_FnExactBestQuestion.j0])
    ·
     simp only [laws_FnExactBestQuestion.j0] at H
     rw [if_pos trivial] at H
     exact absurd ((Option.some.inj H).trans hT_.out) (by decide)
  case rest =>
   clear HC13
   try clear c1
   try clear c2
   try clear p2
   try clear c5
   try clear c5b0
   try clear c11
   try clear c13
   try clear c18
   try clear c19
   try clear c24
   try clear c28
   try clear c28b0
   try clear c28b1
   try clear hcz15_0
   try clear hcz15_1
   try clear hcz17_0
   try clear hcz17_1
   try clear hcz21_0
   try clear hcz21_1
   try clear hcz25_0
   try clear hcz25_1
   try clear hcz7_0
   try clear hcz7_1
   try clear hfz15_0
   try clear hfz15_1
   try clear hfz17_0
   try clear hfz17_1
   try clear hfz21_0
   try clear hfz21_1
   try clear hfz25_0
   try clear hfz25_1
   try clear hfz7_0
   try clear hfz7_1
   obtain ⟨kq, x42_12, rfl, HA, HJ12, HO_114001, BK101, BK113, HB⟩ := hcut
   cases kq with
   | zero => exact absurd HA.out (by simp [laws_FnExactBestQuestion.j0])
   | succ kj12 =>
    have H := HA.out
    clear HA
    simp only [laws_FnExactBestQuestion.j0] at H
    by_cases c29 : x42_12 = true
    ·
     subst c29
     have H1 : (some false) = some r := by rw [if_pos rfl] at H; exact H
     clear H
     have H := H1
     clear H1
     exact absurd ((Option.some.inj H).trans hT_.out) (by decide)
    ·
     replace c29 := Bool.eq_false_iff.mpr c29
     subst c29
     have H1 : ((laws_toSpace.f kj12 a0_0 l0_1).bind fun bt116 => ((laws_eqSpace.f kj12 t109 t110 bt116.1 bt116.2).bind fun t120 => (if t120 = true then (some true) else (some false)))) = some r := by rw [if_neg (show ¬ (false = true) by decide)] at H; exact H
     clear H
     have H := H1
     clear H1
     replace H := Option.bind_eq_some_iff.mp H
     obtain ⟨⟨t116, t117⟩, A300, H⟩ := H
     replace H : ((laws_eqSpace.f kj12 t109 t110 t116 t117).bind fun t120 => (if t120 = true then (some true) else (some false))) = some r := H
     have A30 := asd A300
     clear A300
     replace H := Option.bind_eq_some_iff.mp H
     obtain ⟨t120, A310, H⟩ := H
     replace H : (if t120 = true then (some true) else (some false)) = some r := H
     have A31 := asd A310
     clear A310
     by_cases c32 : t120 = true
     ·
      subst c32
      have H1 : (some true) = some r := by rw [if_pos rfl] at H; exact H
      clear H
      have H := H1
      clear H1
      obtain rfl := Option.some.inj H
      try go_wp2
      have n0_ := asd (Kd.R_drew HO_114001.out)
      have n1_ := asd (blk_drew BK101.out)
      have n2_ := asd (blk_drew BK113.out)
      have n3_ := asd (below_drew1 HB.out)
      clear HO_114001
      clear BK101
      clear BK113
      clear HB
      have HO_114001 := n0_
      have BK101 := n1_
      have BK113 := n2_
      have HB := n3_
      clear n0_ n1_ n2_ n3_
      refine start_ (n := 5) (S := fun w' => w'.cell? ⟨gb113, 0, none⟩ = some (.int .i64 t109) ∧ w'.cell? ⟨gb113, 1, none⟩ = some (.slice Ao26 t110.length co26) ∧ w'.cell? ⟨gb101, 0, none⟩ = some (.int .i64 a0_0) ∧ w'.cell? ⟨gb101, 1, none⟩ = some (.slice A0_1 l0_1.length c0_1)) (ds := []) #[false, false, false, false, false] (by kernel_rfl) rfl rfl ⟨(blk_cell BK113.out 0).trans rfl, (blk_cell BK113.out 1).trans rfl, (blk_cell BK101.out 0).trans rfl, (blk_cell BK101.out 1).trans rfl⟩ (fun hHeld => ?_)
      generalize wc.drew = w33 at HO_114001 BK101 BK113 HB hHeld ⊢
      refine take_ (i := 0) (N := some 43) (v := ?_) (a' := ?_) #[true, false, false, false, false] rfl rfl (by kernel_rfl) (fun _ _ _ h => h) (Or.inl ⟨by rfl, ?_⟩) hHeld ?_ ?_
      rotate_left
      ·
       rintro w' ⟨s0, s1, s2, s3⟩
       go_simp
       with_reducible rfl
      rotate_left
      ·
       simp only [Act.put, List.setIfInBounds_toArray, List.set_cons_zero, List.set_cons_succ, i64_w, i32_w]
       rfl
      refine take_ (i := 1) (N := some 44) (v := ?_) (a' := ?_) #[true, true, false, false, false] rfl rfl (by kernel_rfl) (fun _ _ _ h => h) (Or.inl ⟨by rfl, ?_⟩) hHeld ?_ ?_
      rotate_left
      ·
       rintro w' ⟨s0, s1, s2, s3⟩
       go_simp
       with_reducible rfl
      rotate_left
      ·
       simp only [Act.put, List.setIfInBounds_toArray, List.set_cons_zero, List.set_cons_succ, i64_w, i32_w]
       rfl
      refine one_ (i := 2) (N := some 45) #[true, true, true, false, false] rfl rfl (by kernel_rfl) (by decide) (fun K hK => ?_)
      refine goes_ Try.func13 (by kernel_rfl) rfl #[.agg #[.int .i64 a0_0, .slice A0_1 l0_1.length c0_1]] (by rfl) rfl rfl (by (try simp only [List.map_toArray, List.map_cons, List.map_nil]); first | done | rfl | (simp only [List.length_drop, List.length_take]; rfl)) ?_
      with_reducible refine (laws_toSpace.calls kj12 a0_0 _ _ l0_1 t116 t117 _ ?side1 ?side2 A30.out).mono ?_
      (case side1 => repeat (first | exact (Kd.C_below HR0_1.out HB.out) | (with_reducible refine Kd.C_alloc ?_ _) | (with_reducible refine Kd.C_drewN ?_ _) | (with_reducible refine Kd.C_drew ?_)))
      (case side2 => exact HC0_1.out)
      rintro e w34 ⟨v118, rfl, ho0, hb⟩
      refine ⟨_, rfl, ?_⟩
      have n0_ := asd (Kd.R_elder' (upR <| HO_114001.out) (Kd.R_base ho0) hb)
      have n1_ := asd (Kd.R_lower (Kd.R_new' ho0 (Kd.R_lt (upR <| HO_114001.out))) (below_size (by repeat (first | (with_reducible first | exact HB.out | apply below_alloc | apply pw_below_drewN | apply below_drew1 | refine below_set ?_ GE101.out | refine below_set ?_ GE113.out) | exact HB.out))))
      have n2_ := asd (blk_below (upB BK101.out) hb)
      have n3_ := asd (blk_below (upB BK113.out) hb)
      have n4_ := asd (below_step (by repeat (first | (with_reducible first | exact HB.out | apply below_alloc | apply pw_below_drewN | apply below_drew1 | refine below_set ?_ GE101.out | refine below_set ?_ GE113.out) | exact HB.out)) hb)
      clear HO_114001
      clear BK101
      clear BK113
      clear HB
      have HO_114001 := n0_
      have HO119 := n1_
      have BK101 := n2_
      have BK113 := n3_
      have HB := n4_
      clear n0_ n1_ n2_ n3_ n4_
      (try clear hb)
      (try clear hb2)
      (try clear hk)
      (try clear hi)
      (try clear ho0)
      obtain ⟨Ao35, co35, eo35⟩ := Kd.R_slice HO119.out
      (first | subst eo35 | (injection eo35 with f1_ f2_ f3_; have f4_ := f1_.symm; have f5_ := f3_.symm; clear f1_ f2_ f3_; subst f4_; subst f5_))
      refine hK.out _ _ ⟨(blk_cell BK113.out 0).trans rfl, (blk_cell BK113.out 1).trans rfl, (blk_cell BK101.out 0).trans rfl, (blk_cell BK101.out 1).trans rfl⟩ (fun hHeld => ?_)
      clear hK K
      refine norm_ (a' := ?_) ?_ ?_
      rotate_left
      ·
       show Act.put _ (some 45) _ = _
       simp only [Act.put, List.setIfInBounds_toArray, List.set_cons_zero, List.set_cons_succ, i64_w, i32_w]
       rfl
      refine one_ (i := 3) (N := some 46) #[true, true, true, true, false] rfl rfl (by kernel_rfl) (by decide) (fun K hK => ?_)
      refine goes_ Try.func15 (by kernel_rfl) rfl #[.agg #[.int .i64 t109, .slice Ao26 t110.length co26], .agg #[.int .i64 t116, .slice Ao35 t117.length co35]] (by rfl) rfl rfl (by (try simp only [List.map_toArray, List.map_cons, List.map_nil]); first | done | rfl | (simp only [List.length_drop, List.length_take]; rfl)) ?_
      with_reducible refine (laws_eqSpace.calls kj12 t109 _ _ t110 t116 _ _ t117 true _ ?side1 ?side2 ?side3 ?side4 A31.out).mono ?_
      (case side1 => repeat (first | exact (Kd.R_reads' HO_114001.out).2.2 | (with_reducible refine Kd.C_alloc ?_ _) | (with_reducible refine Kd.C_drewN ?_ _) | (with_reducible refine Kd.C_drew ?_)))
      (case side2 => exact (Kd.R_reads' HO_114001.out).2.1)
      (case side3 => repeat (first | exact (Kd.R_reads' HO119.out).2.2 | (with_reducible refine Kd.C_alloc ?_ _) | (with_reducible refine Kd.C_drewN ?_ _) | (with_reducible refine Kd.C_drew ?_)))
      (case side4 => exact (Kd.R_reads' HO119.out).2.1)
      rintro e w36 ⟨rfl, hb⟩
      refine ⟨_, rfl, ?_⟩
      have n0_ := asd (Kd.R_below (upR <| HO_114001.out) hb)
      have n1_ := asd (Kd.R_below (upR <| HO119.out) hb)
      have n2_ := asd (blk_below (upB BK101.out) hb)
      have n3_ := asd (blk_below (upB BK113.out) hb)
      have n4_ := asd (below_step (by repeat (first | (with_reducible first | exact HB.out | apply below_alloc | apply pw_below_drewN | apply below_drew1 | refine below_set ?_ GE101.out | refine below_set ?_ GE113.out) | exact HB.out)) hb)
      clear HO_114001
      clear HO119
      clear BK101
      clear BK113
      clear HB
      have HO_114001 := n0_
      have HO119 := n1_
      have BK101 := n2_
      have BK113 := n3_
      have HB := n4_
      clear n0_ n1_ n2_ n3_ n4_
      (try clear hb)
      (try clear hb2)
      (try clear hk)
      (try clear hi)
      refine hK.out _ _ ⟨(blk_cell BK113.out 0).trans rfl, (blk_cell BK113.out 1).trans rfl, (blk_cell BK101.out 0).trans rfl, (blk_cell BK101.out 1).trans rfl⟩ (fun hHeld => ?_)
      clear hK K
      refine norm_ (a' := ?_) ?_ ?_
      rotate_left
      ·
       show Act.put _ (some 46) _ = _
       simp only [Act.put, List.setIfInBounds_toArray, List.set_cons_zero, List.set_cons_succ, i64_w, i32_w]
       rfl
      refine pure_ (i := 4) (N := some 47) (v := ?_) (a' := ?_) #[true, true, true, true, true] rfl rfl (by kernel_rfl) (fun _ _ _ h => h) (Or.inl ⟨by rfl, ?_⟩) ?_ ?_
      rotate_left
      ·
       intro w'
       go_simp
       with_reducible rfl
      rotate_left
      ·
       simp only [Act.put, List.setIfInBounds_toArray, List.set_cons_zero, List.set_cons_succ, i64_w, i32_w]
       rfl
      refine done_ (by kernel_rfl) ?_
      try go_wp2
      go_ret
      exact ⟨by first | rfl | (simp [errW_none, errW_some] <;> rfl) | (simp [*, errW_none, errW_some] <;> rfl), by repeat (first | (with_reducible first | exact HB.out | apply below_alloc | apply pw_below_drewN | apply below_drew1 | refine below_set ?_ GE101.out | refine below_set ?_ GE113.out) | exact HB.out)⟩
     ·
      replace c32 := Bool.eq_false_iff.mpr c32
      subst c32
      have H1 : (some false) = some r := by rw [if_neg (show ¬ (false = true) by decide)] at H; exact H
      clear H
      have H := H1
      clear H1
      exact absurd ((Option.some.inj H).trans hT_.out) (by decide)

end Go.Proofs.Ytkepeflplmkcmaa.Q
