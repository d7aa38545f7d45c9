/- The pure side of the law FnExactSetsLeft: the program and the reference tell the same sets that answers leave. Conditions: none. -/
import Derived.Test.YtmmbcacjhocioaaPx1
import Derived.Test.YtmmbcacjhocioaaPx2
import Derived.Test.YtmmbcacjhocioaaPx3
import Derived.Test.YtmmbcacjhocioaaPx4
import Derived.Test.YtmmbcacjhocioaaPx5
import Derived.Test.YtmmbcacjhocioaaOpens
namespace Go.Proofs.Ytmmbcacjhocioaa.Q
open Go.RowKit Go.Proofs.Ytmmbcacjhocioaa.Opens Go.Proofs.YtmmbcacjhocioaaW.PrintWords Go.Proofs.YtmmbcacjhocioaaW.PrintLast Go.Proofs.YtmmbcacjhocioaaW.PrintMore
set_option linter.unusedVariables false
set_option linter.unusedSimpArgs false

/-- THE ONE PURE STATEMENT of FnExactSetsLeft. -/
def PureFnExactSetsLeft : Prop := ∀ (a0_0 : Int) (l0_1 : List Int) (a1 : Int) (a2 : Int), Int64 a0_0 → AllOk Int64 l0_1 → l0_1.length ≤ 9223372036854775807 → Int64 a1 → Int64 a2 → ∃ k, laws_FnExactSetsLeft.f k a0_0 l0_1 a1 a2 = some true
theorem spSetsLeft_ok (n : Int) (l : List Int) (y m : Int) (hlen : l.length < 4611686018427387904) : Ev (fun k => spec_SetsLeft.f k n l y m) (setsLeftV n l y m) := by
  unfold spec_SetsLeft.f setsLeftV
  refine Ev.bind (asGood_ok n l y m hlen) ?_
  cases h : goOnB n l y m with
  | false => exact Ev.val (r := ([], false)) (Ev.to (fun k => by rw [if_neg (by decide)]) (Ev.const rfl)) (by simp)
  | true =>
    obtain ⟨hs, hy, hm, _⟩ := answersB_parts (goOnB_parts h)
    have hl := isSpaceB_len hs
    refine Ev.val (r := (leftL l y m, true)) (Ev.to (fun k => by rw [if_pos rfl]) ?_) (by simp)
    exact Ev.bind (asLeft_ok n hy hm (isSpaceB_i128 hs) (by omega)) (Ev.const rfl)
theorem setsLeftV_len (n : Int) (l : List Int) (y m : Int) : (setsLeftV n l y m).1.length ≤ l.length := by
  unfold setsLeftV
  split
  · exact leftL_length l y m
  · exact Nat.zero_le _
theorem FnExactSetsLeft : PureFnExactSetsLeft := by
  intro n l y m _ _ hlen _ _
  refine Ev.rounds ?_
  unfold laws_FnExactSetsLeft.f
  by_cases hl : (1048576 : Int) < l.length
  · refine Ev.bindc (szSpace_over n l 1048576 (by omega) hlen hl (by omega)) ?_
    exact Ev.to (fun k => by rw [if_pos (by decide)]) (Ev.const rfl)
  · have h1 := spSetsLeft_ok n l y m (by omega)
    have h2 := iSetsLeft_ok n l y m
    have hpl := setsLeftV_len n l y m
    generalize setsLeftV n l y m = p at *
    have heq := eqIntS_refl p.1 (by omega)
    have hm1 := markSpace_ok n l 1 (by omega) (by omega)
    have hm2 := markIntS_ok p.1 1 (by omega) (by omega)
    have hh := heldIntS_ok 1 p.1.length (by omega) (by omega)
    refine Ev.bindc (szSpace_fits n l 1048576 (by omega) (by omega)) ?_
    refine Ev.to (fun k => by rw [if_neg (by omega)]) ?_
    have hts := toSpace_ok n l (by omega)
    refine Ev.bind hts ?_
    refine Ev.bind h1 ?_
    refine Ev.bind hts ?_
    refine Ev.bind h2 ?_
    refine Ev.bind heq ?_
    refine Ev.to (fun k => by rw [if_pos rfl]) ?_
    refine Ev.succ (fun k => by simp only [laws_FnExactSetsLeft.j0]; rw [if_neg (by simp)]) ?_
    refine Ev.bind hts ?_
    refine Ev.bind (eqSpace_refl n l (by omega)) ?_
    refine Ev.to (fun k => by rw [if_pos rfl]) ?_
    refine Ev.bind hm1 ?_
    refine Ev.to (fun k => by rw [if_neg (by omega)]) ?_
    refine Ev.bind heq ?_
    refine Ev.to (fun k => by rw [if_pos rfl]) ?_
    refine Ev.succ (fun k => by simp only [laws_FnExactSetsLeft.j1]; rw [if_neg (by simp)]) ?_
    refine Ev.bind hm2 ?_
    refine Ev.bind hh ?_
    refine Ev.to (fun k => by rw [if_neg (by omega), if_pos rfl]) ?_
    refine Ev.bind hts ?_
    refine Ev.bind h2 ?_
    refine Ev.bind heq ?_
    refine Ev.to (fun k => by rw [if_pos rfl]) ?_
    refine Ev.succ (fun k => by simp only [laws_FnExactSetsLeft.j2]; rw [if_neg (by simp)]) ?_
    refine Ev.bind hh ?_
    exact Ev.to (fun k => by rw [if_neg (by omega), if_pos rfl]) (Ev.const rfl)

end Go.Proofs.Ytmmbcacjhocioaa.Q
