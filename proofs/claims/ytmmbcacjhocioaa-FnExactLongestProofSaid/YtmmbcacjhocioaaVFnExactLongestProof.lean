/- The pure side of the law FnExactLongestProof: the greatest number of items of both fringes is the same in the program and in the reference. Conditions: none. -/
import Derived.Test.YtmmbcacjhocioaaPx1
import Derived.Test.YtmmbcacjhocioaaPx2
import Derived.Test.YtmmbcacjhocioaaPx3
import Derived.Test.YtmmbcacjhocioaaPx4
import Derived.Test.YtmmbcacjhocioaaPx5
import Derived.Test.YtmmbcacjhocioaaOpens
namespace Go.Proofs.Ytmmbcacjhocioaa.Q
open Go.RowKit Go.Proofs.Ytmmbcacjhocioaa.Opens Go.Proofs.YtmmbcacjhocioaaW.PrintWords Go.Proofs.YtmmbcacjhocioaaW.PrintLast Go.Proofs.YtmmbcacjhocioaaW.PrintMore
set_option linter.unusedVariables false
set_option linter.unusedSimpArgs false

/-- THE ONE PURE STATEMENT of FnExactLongestProof. -/
def PureFnExactLongestProof : Prop := ∀ (a0_0 : Int) (l0_1 : List Int), Int64 a0_0 → AllOk Int64 l0_1 → l0_1.length ≤ 9223372036854775807 → ∃ k, laws_FnExactLongestProof.f k a0_0 l0_1 = some true
theorem spMost_loop (n : Int) (l : List Int) (hG : isSpaceB n l = true) (hlen : l.length < 4611686018427387904) : ∀ (d i : Nat), l.length - i = d → i ≤ l.length → Ev (fun k => spec_LongestProof.l0 k (mostL (famOf l) (l.take i)) l l.length i n l) (mostL (famOf l) l, true) := by
  intro d
  induction d with
  | zero =>
    intro i hd hi
    refine Ev.succ (fun k => by simp only [spec_LongestProof.l0]; rw [if_neg (by omega)]) (Ev.const ?_)
    rw [List.take_of_length_le (by omega)]
  | succ d ih =>
    intro i hd hi
    have hx := isSpaceB_128 hG (rd l i) (rd_mem (by omega) (by omega))
    have hm := mostL_range (famOf l) (l.take i)
    have hz := mostL_take (famOf l) l i (by omega) (by omega)
    rw [Int.toNat_natCast] at hz
    have hin : innerF (famOf l) (rd l i).toNat < 128 := maskOf_lt _
    have hou : outerF (famOf l) (rd l i).toNat < 128 := maskOf_lt _
    have hc1 := cntN_le (innerF (famOf l) (rd l i).toNat)
    have hc2 := cntN_le (outerF (famOf l) (rd l i).toNat)
    refine Ev.succ (fun k => by simp only [spec_LongestProof.l0]; rw [if_pos (by omega), if_pos (by omega), if_pos (by omega)]) ?_
    refine Ev.bind (spInner_ok (risingB_rise (isSpaceB_parts hG).2.2.2.1) hlen _ hx.1 hx.2) ?_
    refine Ev.bind (spCount_ok _ hin) ?_
    refine Ev.bind (spOuter_ok hG hlen _ hx.1 hx.2) ?_
    refine Ev.bind (spCount_ok _ hou) ?_
    refine Ev.bindc (a := mostL (famOf l) (l.take (i + 1))) ?_ ?_
    · unfold spec_l1Most.f
      rw [show (i : Nat) + 1 = ((i : Int) + 1).toNat by omega, hz, wrap_in (by omega) (by omega)]
      split
      · exact congrArg some (by omega)
      · exact congrArg some (by omega)
    · refine Ev.to (fun k => by rw [wrap_succ (by omega) (by have := hlen; omega)]) ?_
      have := ih (i + 1) (by omega) (by omega)
      push_cast at this
      exact this
theorem longest_both (n : Int) (l : List Int) (hlen : l.length < 4611686018427387904) : ∃ r, Ev (fun k => spec_LongestProof.f k n l) r ∧ impl_LongestProof.f n l = some r := by
  refine ⟨_, ?_, rfl⟩
  unfold spec_LongestProof.f
  refine Ev.bind (spGood_ok n l hlen) ?_
  cases h : isSpaceB n l with
  | false => exact Ev.val (r := (0, false)) (Ev.to (fun k => by rw [if_neg (by decide)]) (Ev.const rfl)) (by simp)
  | true =>
    refine Ev.val (r := (mostL (famOf l) l, true)) (Ev.to (fun k => by rw [if_pos rfl]) ?_) (by simp)
    have := spMost_loop n l h hlen l.length 0 (by omega) (by omega)
    exact this
theorem FnExactLongestProof : PureFnExactLongestProof := by
  intro n l  _ _ hlen 
  refine Ev.rounds ?_
  unfold laws_FnExactLongestProof.f
  by_cases hl : (1048576 : Int) < l.length
  · refine Ev.bindc (szSpace_over n l 1048576 (by omega) hlen hl (by omega)) ?_
    exact Ev.to (fun k => by rw [if_pos (by decide)]) (Ev.const rfl)
  · obtain ⟨r, h1, h2⟩ := longest_both n l  (by omega)
    refine Ev.bindc (szSpace_fits n l 1048576 (by omega) (by omega)) ?_
    refine Ev.to (fun k => by rw [if_neg (by omega)]) ?_
    have hts := toSpace_ok n l (by omega)
    refine Ev.bind hts ?_
    refine Ev.bind h1 ?_
    refine Ev.bind hts ?_
    refine Ev.bindc h2 ?_
    refine Ev.to (fun k => by rw [if_pos rfl]) ?_
    refine Ev.succ (fun k => by simp only [laws_FnExactLongestProof.j0]; rw [if_neg (by simp)]) ?_
    refine Ev.bind hts ?_
    refine Ev.bind (eqSpace_refl n l (by omega)) ?_
    exact Ev.to (fun k => by rw [if_pos rfl]) (Ev.const rfl)


end Go.Proofs.Ytmmbcacjhocioaa.Q
