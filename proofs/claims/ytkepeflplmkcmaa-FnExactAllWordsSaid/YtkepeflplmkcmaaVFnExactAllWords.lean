/- The pure side of the law FnExactAllWords: the program and the reference tell the same full words. Conditions: none. -/
import Derived.Test.YtkepeflplmkcmaaPx1
import Derived.Test.YtkepeflplmkcmaaPx2
import Derived.Test.YtkepeflplmkcmaaPx4
import Derived.Test.YtkepeflplmkcmaaPx6
import Derived.Test.YtkepeflplmkcmaaPx7
import Derived.Test.YtkepeflplmkcmaaPx8
import Derived.Test.YtkepeflplmkcmaaPx9
import Derived.Test.YtkepeflplmkcmaaOpens
namespace Go.Proofs.Ytkepeflplmkcmaa.Q
open Go.RowKit Go.Proofs.Ytkepeflplmkcmaa.Opens Go.Proofs.YtkepeflplmkcmaaW.PrintWords Go.Proofs.YtkepeflplmkcmaaW.PrintLast Go.Proofs.YtkepeflplmkcmaaW.PrintMore
set_option linter.unusedVariables false
set_option linter.unusedSimpArgs false

/-- THE ONE PURE STATEMENT of FnExactAllWords. -/
def PureFnExactAllWords : Prop := ∀ (a0_0 : Int) (l0_1 : List Int), Int64 a0_0 → AllOk Int64 l0_1 → l0_1.length ≤ 9223372036854775807 → ∃ k, laws_FnExactAllWords.f k a0_0 l0_1 = some true
theorem all_fold : ∀ (L s : List (List Int)), s.length + L.length ≤ 10000000 → (∀ w ∈ L, w.length ≤ 1000) → foldS allD L s true = some (s ++ L, true)
  | [], s, _, _ => by rw [List.append_nil]; rfl
  | w :: L, s, h, hw => by
    rw [List.length_cons] at h
    have e1 : allD s w = some (s ++ [w], true) := by
      unfold allD
      rw [clone_ok (hw w List.mem_cons_self)]
      show (if s.length < 5864062014805 then some (s ++ [w], true) else none) = _
      rw [if_pos (by omega)]
    show (allD s w).bind (fun r => foldS allD L r.1 r.2) = _
    rw [e1]
    show foldS allD L (s ++ [w]) true = _
    rw [all_fold L (s ++ [w]) (by rw [List.length_append, List.length_singleton]; omega) (fun v hv => hw v (List.mem_cons_of_mem _ hv)), List.append_assoc]
    rfl
theorem setOf_nil {n : Int} {l : List Int} (hS : isSpaceB n l = true) : Ev (fun k => impl_Space_setOf.f k n l []) (0, true) := by
  unfold impl_Space_setOf.f
  refine Ev.bindc (family_f hS) ?_
  exact Ev.succ (g := fun _ => some (0, true)) (fun k => by simp only [impl_Space_setOf.l0]; rw [if_neg (by simp)]) (Ev.const rfl)
theorem allWords_both (n : Int) (l : List Int) (hlen : l.length < 1048577) : ∃ r, Ev (fun k => spec_AllWords.f k n l) r ∧ Ev (fun k => impl_AllWords.f k n l) r ∧ rowsB r.1 = true := by
  unfold spec_AllWords.f impl_AllWords.f
  cases hS : isSpaceB n l with
  | false =>
    refine ⟨([], false), ?_, ?_, rfl⟩
    · refine Ev.bind (spGood_ok n l (by omega)) ?_
      exact Ev.to (fun k => by rw [hS, if_neg (by decide)]) (Ev.const rfl)
    · refine Ev.bindc (show impl_IsSpace.f n l = some false from congrArg some hS) ?_
      exact Ev.to (fun k => by rw [if_neg (by decide)]) (Ev.const rfl)
  | true =>
    obtain ⟨n1, n7, _⟩ := isSpaceB_parts hS
    have hll := isSpaceB_len hS
    have hr := risingB_rise (isSpaceB_parts hS).2.2.2.1
    have hG0 : GInv n.toNat (famOf l) 0 0 := GInv.start hS
    obtain ⟨hlast, hl0⟩ := all_last hS
    have h00 : rd l ((0 : Nat) : Int) = 0 := by
      have hm : (0 : Int) ∈ l := by
        have := fam_mem hG0.mem
        exact_mod_cast this
      obtain ⟨q, hq, e⟩ := List.mem_iff_getElem.1 hm
      have h1 := (isSpaceB_128 hS _ (rd_mem (l := l) (i := ((0 : Nat) : Int)) (by omega) (by omega))).1
      rcases Nat.eq_zero_or_pos q with rfl | hp
      · rw [rd_get hq]
        exact e
      · have h2 := hr 0 q hp hq
        rw [rd_get hq, e] at h2
        omega
    obtain ⟨T, hT1, hT2, hT3⟩ := woWays_ok hS
    obtain ⟨V, hV⟩ : ∃ V, V = cntW (famOf l) n.toNat 0 := ⟨_, rfl⟩
    have hVs : V ≤ 823543 := by rw [hV]; exact cntW_small _ (by omega) _
    have hT0 : rd T 0 = (V : Int) := by
      have h1 := hT3 0 hl0
      rw [h00] at h1
      have h2 : valW (famOf l) n.toNat 0 = V := by
        rw [hV]
        unfold valW
        have h3 : cntN (Int.toNat 0) = 0 := hG0.cnt
        rw [h3]
        rfl
      rw [h2] at h1
      exact h1
    obtain ⟨c, hways⟩ := ways_ok hS n.toNat 0 0 (by omega) hG0
    have hw2 : Ev (fun k => impl_Space_ways.f k n l 0) (V : Int) := by
      unfold impl_Space_ways.f
      refine Ev.bindc (all_ok n l (by omega) n7) ?_
      refine Ev.bindc (family_f hS) ?_
      rw [hV]
      exact Ev.bind hways (Ev.const rfl)
    have hTl : (0 : Int) < (T.length : Int) := by omega
    by_cases hgt : (V : Int) > 200
    · refine ⟨([], false), ?_, ?_, rfl⟩
      · refine Ev.bind (spGood_ok n l (by omega)) ?_
        refine Ev.to (fun k => by rw [hS, if_pos rfl]) ?_
        refine Ev.bind hT1 ?_
        exact Ev.to (fun k => by rw [if_pos hTl, hT0, if_pos hgt]) (Ev.const rfl)
      · refine Ev.bindc (show impl_IsSpace.f n l = some true from congrArg some hS) ?_
        refine Ev.to (fun k => by rw [if_pos rfl]) ?_
        refine Ev.bind hw2 ?_
        exact Ev.to (fun k => by rw [if_pos hgt]) (Ev.const rfl)
    · have hL : (allW (famOf l) n.toNat 0 []).length = V := by rw [allW_len, hV]
      have hwl : ∀ w ∈ allW (famOf l) n.toNat 0 [], w.length ≤ 7 := fun w hw => by
        have := allW_mem _ _ _ _ _ hw
        rw [this, List.length_nil]
        omega
      refine ⟨(allW (famOf l) n.toNat 0 [], true), ?_, ?_, ?_⟩
      · refine Ev.bind (spGood_ok n l (by omega)) ?_
        refine Ev.to (fun k => by rw [hS, if_pos rfl]) ?_
        refine Ev.bind hT1 ?_
        refine Ev.to (fun k => by rw [if_pos hTl, hT0, if_neg hgt]) ?_
        have := woAll_ok hS n.toNat 0 0 [] (by omega) hG0 rfl
        have this : Ev (fun k => spec_woAll.f k n l [] 0) (allW (famOf l) n.toNat 0 []) := this
        exact Ev.bind this (Ev.const rfl)
      · refine Ev.bindc (show impl_IsSpace.f n l = some true from congrArg some hS) ?_
        refine Ev.to (fun k => by rw [if_pos rfl]) ?_
        refine Ev.bind hw2 ?_
        refine Ev.to (fun k => by rw [if_neg hgt]) ?_
        have hfold := all_fold (allW (famOf l) n.toNat 0 []) [] (by rw [hL, List.length_nil]; omega) (fun w hw => Nat.le_trans (hwl w hw) (by decide))
        have hrun := ww_fold hS allD n.toNat 0 0 [] [] _ (by omega) hG0 rfl hfold
        refine Ev.bind (show Ev (fun k => impl_Space_words.run k n l allD []) (allW (famOf l) n.toNat 0 []) from ?_) (Ev.const rfl)
        unfold impl_Space_words.run
        refine Ev.bindc (all_ok n l (by omega) n7) ?_
        refine Ev.bindc (family_f hS) ?_
        refine Ev.bindc (clone_ok (by simp)) ?_
        refine Ev.bind (setOf_nil hS) ?_
        exact Ev.bind hrun (Ev.const rfl)
      · show rowsB (allW (famOf l) n.toNat 0 []) = true
        unfold rowsB
        rw [Bool.and_eq_true, decide_eq_true_eq, List.all_eq_true]
        exact ⟨by omega, fun x hx => decide_eq_true (Nat.le_trans (hwl x hx) (by decide))⟩
theorem FnExactAllWords : PureFnExactAllWords := by
  intro n l _ _ _
  refine Ev.rounds ?_
  unfold laws_FnExactAllWords.f
  by_cases h : (l.length : Int) ≤ 1048576
  · obtain ⟨r, h1, h2, h3⟩ := allWords_both n l (by omega)
    refine Ev.to (fun k => by rw [if_pos h]) ?_
    refine Ev.bind h1 (Ev.bind h2 ?_)
    exact Ev.to (fun k => by rw [if_pos ⟨rfl, h3⟩]) (Ev.const rfl)
  · exact Ev.to (fun k => by rw [if_neg h]) (Ev.const rfl)

end Go.Proofs.Ytkepeflplmkcmaa.Q
