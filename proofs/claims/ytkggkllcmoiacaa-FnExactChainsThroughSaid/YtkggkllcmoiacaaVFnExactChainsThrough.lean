/- The pure side of the law FnExactChainsThrough: the program and the reference tell the same chains of paths. Conditions: none. -/
import Derived.Test.YtkggkllcmoiacaaPx1
import Derived.Test.YtkggkllcmoiacaaPx3
import Derived.Test.YtkggkllcmoiacaaPx4
import Derived.Test.YtkggkllcmoiacaaPx5
import Derived.Test.YtkggkllcmoiacaaPx6
import Derived.Test.YtkggkllcmoiacaaPx7
import Derived.Test.YtkggkllcmoiacaaOpens
namespace Go.Proofs.Ytkggkllcmoiacaa.Q
open Go.RowKit Go.Proofs.Ytkggkllcmoiacaa.Opens Go.Proofs.YtkggkllcmoiacaaW.PrintWords Go.Proofs.YtkggkllcmoiacaaW.PrintLast Go.Proofs.YtkggkllcmoiacaaW.PrintMore
set_option linter.unusedVariables false
set_option linter.unusedSimpArgs false

/-- THE ONE PURE STATEMENT of FnExactChainsThrough. -/
def PureFnExactChainsThrough : Prop := ∀ (a0_0 : Int) (l0_1 : List Int), Int64 a0_0 → AllOk Int64 l0_1 → l0_1.length ≤ 9223372036854775807 → ∃ k, laws_FnExactChainsThrough.f k a0_0 l0_1 = some true
theorem chainsThrough_both (n : Int) (l : List Int) (hlen : l.length < 1048577) : ∃ r, Ev (fun k => spec_ChainsThrough.f k n l) r ∧ Ev (fun k => impl_ChainsThrough.f k n l) r ∧ rowsB r.1 = true := by
  unfold spec_ChainsThrough.f impl_ChainsThrough.f
  cases hS : isSpaceB n l with
  | false =>
    refine ⟨([], false), ?_, ?_, rfl⟩
    · refine Ev.bind (spGood_ok n l (by omega)) ?_
      exact Ev.to (fun k => by rw [hS, if_neg (by decide)]) (Ev.const rfl)
    · refine Ev.bindc (show impl_IsSpace.f n l = some false from congrArg some hS) ?_
      exact Ev.to (fun k => by rw [if_neg (by decide)]) (Ev.const rfl)
  | true =>
    obtain ⟨b, o, hP, hb, _, hi⟩ := chainsBoth hS hlen
    have hPl : (pathsL (famOf l) l).length ≤ 1024 := (pathsMatch hS).1
    refine ⟨(chainsFrom (pathsL (famOf l) l) b o (pathsL (famOf l) l).length 0, true), ?_, ?_, ?_⟩
    · refine Ev.bind (spGood_ok n l (by omega)) ?_
      refine Ev.to (fun k => by rw [hS, if_pos rfl]) ?_
      refine Ev.bind (irr_ok hS hlen) ?_
      exact Ev.bind (cnChains_ok hP hPl hb) (Ev.const rfl)
    · refine Ev.bindc (show impl_IsSpace.f n l = some true from congrArg some hS) ?_
      refine Ev.to (fun k => by rw [if_pos rfl]) ?_
      exact Ev.bind hi (Ev.const rfl)
    · show rowsB (chainsFrom (pathsL (famOf l) l) b o (pathsL (famOf l) l).length 0) = true
      unfold rowsB
      rw [Bool.and_eq_true, decide_eq_true_eq, List.all_eq_true]
      have h1 := chainsFrom_len (pathsL (famOf l) l) b o (pathsL (famOf l) l).length 0
      refine ⟨by omega, fun x hx => ?_⟩
      have h2 := chainsFrom_mem _ _ _ _ _ x hx
      exact decide_eq_true (by omega)
theorem FnExactChainsThrough : PureFnExactChainsThrough := by
  intro n l _ _ _
  refine Ev.rounds ?_
  unfold laws_FnExactChainsThrough.f
  by_cases h : (l.length : Int) ≤ 1048576
  · obtain ⟨r, h1, h2, h3⟩ := chainsThrough_both n l (by omega)
    refine Ev.to (fun k => by rw [if_pos h]) ?_
    refine Ev.bind h1 (Ev.bind h2 ?_)
    exact Ev.to (fun k => by rw [if_pos ⟨rfl, h3⟩]) (Ev.const rfl)
  · exact Ev.to (fun k => by rw [if_neg h]) (Ev.const rfl)

end Go.Proofs.Ytkggkllcmoiacaa.Q
