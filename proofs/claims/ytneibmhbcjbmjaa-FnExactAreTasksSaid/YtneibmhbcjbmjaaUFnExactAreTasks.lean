/- The pure side of the law FnExactAreTasks: the program and the reference say the same of tasks. Conditions: none. -/
import Derived.Test.YtneibmhbcjbmjaaQx1
import Derived.Test.YtneibmhbcjbmjaaQx2
import Derived.Test.YtneibmhbcjbmjaaOpens
namespace Go.Proofs.Ytneibmhbcjbmjaa.Q
open Go.RowKit Go.Proofs.Ytneibmhbcjbmjaa.Opens Go.Proofs.YtneibmhbcjbmjaaW.PrintWords Go.Proofs.YtneibmhbcjbmjaaW.PrintLast Go.Proofs.YtneibmhbcjbmjaaW.PrintMore
set_option linter.unusedVariables false
set_option linter.unusedSimpArgs false

/-- THE ONE PURE STATEMENT of FnExactAreTasks. -/
def PureFnExactAreTasks : Prop := ∀ (l0 : List (S56)) (a1 : Int), AllOk (fun x : S56 => Int64 x.f0 ∧ Int64 x.f1 ∧ Int64 x.f2) l0 → l0.length ≤ 9223372036854775807 → Int64 a1 → ∃ k, laws_FnExactAreTasks.f k l0 a1 = some true
theorem FnExactAreTasks : PureFnExactAreTasks := by
  intro l n _ hlen _
  refine Ev.rounds ?_
  unfold laws_FnExactAreTasks.f
  by_cases hl : (1048576 : Int) < l.length
  · refine Ev.bindc (szTaskS_over l 1048576 (by omega) hlen hl (by omega)) ?_
    exact Ev.to (fun k => by rw [if_pos (by decide)]) (Ev.const rfl)
  · refine Ev.bindc (szTaskS_fits l 1048576 (by omega) (by omega)) ?_
    refine Ev.to (fun k => by rw [if_neg (by omega)]) ?_
    have hts := toTaskS_ok l (by omega)
    have hm : (l.map taskOf).length < 9223372036854775807 := by rw [List.length_map]; omega
    refine Ev.bind hts ?_
    refine Ev.bind (a := areTasksB (l.map taskOf) n) ?_ ?_
    · unfold spec_AreTasks.f
      exact Ev.bind (grTasks_ok _ n hm) (Ev.const rfl)
    refine Ev.bind hts ?_
    refine Ev.bindc (a := areTasksB (l.map taskOf) n) rfl ?_
    refine Ev.to (fun k => by rw [if_neg (by simp)]) ?_
    refine Ev.bind hts ?_
    refine Ev.bind (eqTaskS_refl _ hm) ?_
    exact Ev.to (fun k => by rw [if_pos rfl]) (Ev.const rfl)

end Go.Proofs.Ytneibmhbcjbmjaa.Q
