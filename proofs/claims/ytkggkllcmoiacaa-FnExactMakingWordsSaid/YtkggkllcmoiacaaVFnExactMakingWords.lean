/- The pure side of the law FnExactMakingWords: the program and the reference tell the same words through chains. Conditions: none. -/
import Derived.Test.YtkggkllcmoiacaaPx1
import Derived.Test.YtkggkllcmoiacaaPx2
import Derived.Test.YtkggkllcmoiacaaPx4
import Derived.Test.YtkggkllcmoiacaaPx5
import Derived.Test.YtkggkllcmoiacaaPx6
import Derived.Test.YtkggkllcmoiacaaPx7
import Derived.Test.YtkggkllcmoiacaaPx8
import Derived.Test.YtkggkllcmoiacaaPx9
import Derived.Test.YtkggkllcmoiacaaPx10
import Derived.Test.YtkggkllcmoiacaaOpens
namespace Go.Proofs.Ytkggkllcmoiacaa.Q
open Go.RowKit Go.Proofs.Ytkggkllcmoiacaa.Opens Go.Proofs.YtkggkllcmoiacaaW.PrintWords Go.Proofs.YtkggkllcmoiacaaW.PrintLast Go.Proofs.YtkggkllcmoiacaaW.PrintMore
set_option linter.unusedVariables false
set_option linter.unusedSimpArgs false

/-- THE ONE PURE STATEMENT of FnExactMakingWords. -/
def PureFnExactMakingWords : Prop := ∀ (a0_0 : Int) (l0_1 : List Int), Int64 a0_0 → AllOk Int64 l0_1 → l0_1.length ≤ 9223372036854775807 → ∃ k, laws_FnExactMakingWords.f k a0_0 l0_1 = some true
theorem mk_loop {n : Int} {l : List Int} (cs : List (List Int)) (hcs : cs.length ≤ 1024) (H : ∀ c ∈ cs, ∃ r, Ev (fun k => spec_cnWord.f k n l c) r ∧ Ev (fun k => impl_Space_through.f k n l c) r ∧ r.length ≤ 128000) : ∀ (d i : Nat) (acc : List (List Int)), cs.length - i = d → i ≤ cs.length → acc.length ≤ i → (∀ x ∈ acc, x.length ≤ 128000) →
    ∃ R, Ev (fun k => spec_MakingWords.l0 k acc cs cs.length i n l) R ∧ Ev (fun k => impl_MakingWords.l0 k acc cs cs.length i n l) R ∧ rowsB R.1 = true
  | 0, i, acc, hd, hi, ha, hx => by
    refine ⟨(acc, true), Ev.succ (fun k => by simp only [spec_MakingWords.l0]; rw [if_neg (by omega)]) (Ev.const rfl), Ev.succ (fun k => by simp only [impl_MakingWords.l0]; rw [if_neg (by omega)]) (Ev.const rfl), ?_⟩
    show rowsB acc = true
    unfold rowsB
    rw [Bool.and_eq_true, decide_eq_true_eq, List.all_eq_true]
    exact ⟨by omega, fun x h => decide_eq_true (by have := hx x h; omega)⟩
  | d + 1, i, acc, hd, hi, ha, hx => by
    have hlt : i < cs.length := by omega
    have hws : wrap64 ((i : Int) + 1) = i + 1 := wrap_succ (by omega) (by omega)
    have hrd : rd_L9 cs (i : Int) = cs[i] := by
      unfold rd_L9
      rw [Int.toNat_natCast, List.getD_eq_getElem?_getD, List.getElem?_eq_getElem hlt]
      rfl
    obtain ⟨r, h1, h2, h3⟩ := H _ (List.getElem_mem hlt)
    obtain ⟨R, g1, g2, g3⟩ := mk_loop cs hcs H d (i + 1) (acc ++ [r]) (by omega) (by omega) (by rw [List.length_append, List.length_singleton]; omega) (fun x h => by
      rcases List.mem_append.1 h with h | h
      · exact hx x h
      · rw [List.mem_singleton.1 h]; exact h3)
    push_cast at g1 g2
    refine ⟨R, ?_, ?_, g3⟩
    · refine Ev.succ (fun k => by simp only [spec_MakingWords.l0]; rw [if_pos (by omega), if_pos (by omega), if_pos (by omega), hrd]) ?_
      refine Ev.bind h1 ?_
      exact Ev.to (fun k => by rw [if_pos (by omega), hws]) g1
    · refine Ev.succ (fun k => by simp only [impl_MakingWords.l0]; rw [if_pos (by omega), if_pos (by omega), if_pos (by omega), hrd]) ?_
      refine Ev.bind h2 ?_
      exact Ev.to (fun k => by rw [if_pos (by omega), hws]) g2
theorem makingWords_both (n : Int) (l : List Int) (hlen : l.length < 1048577) : ∃ r, Ev (fun k => spec_MakingWords.f k n l) r ∧ Ev (fun k => impl_MakingWords.f k n l) r ∧ rowsB r.1 = true := by
  unfold spec_MakingWords.f impl_MakingWords.f
  cases hS : isSpaceB n l with
  | false =>
    refine ⟨([], false), ?_, ?_, rfl⟩
    · refine Ev.bind (spGood_ok n l (by omega)) ?_
      exact Ev.to (fun k => by rw [hS, if_neg (by decide)]) (Ev.const rfl)
    · refine Ev.bindc (show impl_IsSpace.f n l = some false from congrArg some hS) ?_
      exact Ev.to (fun k => by rw [if_neg (by decide)]) (Ev.const rfl)
  | true =>
    obtain ⟨b, o, hP, hb, ho, hi⟩ := chainsBoth hS hlen
    have hPl : (pathsL (famOf l) l).length ≤ 1024 := (pathsMatch hS).1
    have h1 := chainsFrom_len (pathsL (famOf l) l) b o (pathsL (famOf l) l).length 0
    obtain ⟨R, g1, g2, g3⟩ := mk_loop (n := n) (l := l) _ (by omega) (fun c hc => chains_words hS hP ho hc) _ 0 [] (Nat.sub_zero _) (Nat.zero_le _) (Nat.le_refl _) (fun x h => by cases h)
    refine ⟨R, ?_, ?_, g3⟩
    · refine Ev.bind (spGood_ok n l (by omega)) ?_
      refine Ev.to (fun k => by rw [hS, if_pos rfl]) ?_
      refine Ev.bind (irr_ok hS hlen) ?_
      exact Ev.bind (cnChains_ok hP hPl hb) g1
    · refine Ev.bindc (show impl_IsSpace.f n l = some true from congrArg some hS) ?_
      refine Ev.to (fun k => by rw [if_pos rfl]) ?_
      exact Ev.bind hi g2
theorem FnExactMakingWords : PureFnExactMakingWords := by
  intro n l _ _ _
  refine Ev.rounds ?_
  unfold laws_FnExactMakingWords.f
  by_cases h : (l.length : Int) ≤ 1048576
  · obtain ⟨r, h1, h2, h3⟩ := makingWords_both n l (by omega)
    refine Ev.to (fun k => by rw [if_pos h]) ?_
    refine Ev.bind h1 (Ev.bind h2 ?_)
    exact Ev.to (fun k => by rw [if_pos ⟨rfl, h3⟩]) (Ev.const rfl)
  · exact Ev.to (fun k => by rw [if_neg h]) (Ev.const rfl)

end Go.Proofs.Ytkggkllcmoiacaa.Q
