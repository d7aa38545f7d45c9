/- The pure side of the law FnExactKnownOf: what answers tell is the same in the program and in the reference. Conditions: none. -/
import Derived.Test.YtmmbcacjhocioaaPx1
import Derived.Test.YtmmbcacjhocioaaPx2
import Derived.Test.YtmmbcacjhocioaaPx3
import Derived.Test.YtmmbcacjhocioaaPx4
import Derived.Test.YtmmbcacjhocioaaPx5
import Derived.Test.YtmmbcacjhocioaaOpens
namespace Go.Proofs.Ytmmbcacjhocioaa.Q
open Go.RowKit Go.Proofs.Ytmmbcacjhocioaa.Opens Go.Proofs.YtmmbcacjhocioaaW.PrintWords Go.Proofs.YtmmbcacjhocioaaW.PrintLast Go.Proofs.YtmmbcacjhocioaaW.PrintMore
set_option linter.unusedVariables false
set_option linter.unusedSimpArgs false

/-- THE ONE PURE STATEMENT of FnExactKnownOf. -/
def PureFnExactKnownOf : Prop := ∀ (a0_0 : Int) (l0_1 : List Int) (a1 : Int) (a2 : Int), Int64 a0_0 → AllOk Int64 l0_1 → l0_1.length ≤ 9223372036854775807 → Int64 a1 → Int64 a2 → ∃ k, laws_FnExactKnownOf.f k a0_0 l0_1 a1 a2 = some true
theorem iKnown_loop (l : List Int) (hlen : l.length < 9223372036854775807) (hM : ∀ x ∈ l, I128 x) : ∀ (b a : List Int) (i o : Int), a ++ b = l → I128 i → I128 o → Ev (fun k => impl_KnownOf.l0 k i o l l.length a.length) ((knownL b i o).1, (knownL b i o).2, true)
  | [], a, i, o, hab, hi, ho => by
    rw [List.append_nil] at hab
    subst hab
    exact Ev.succ (fun k => by simp only [impl_KnownOf.l0]; rw [if_neg (by omega)]) (Ev.const (by rw [knownL]))
  | x :: b, a, i, o, hab, hi, ho => by
    have hlt : a.length < l.length := by rw [← hab]; simp
    have hrd : rd l (a.length : Int) = x := by rw [← hab]; exact rd_append a b x
    have hx := hM x (by rw [← hab]; simp)
    refine Ev.succ (fun k => by simp only [impl_KnownOf.l0]; rw [if_pos (by omega), if_pos (by omega), if_pos (by omega), hrd, and_int hi hx, nd_int ho hx, wrap_succ (by omega) (by omega)]) ?_
    have := iKnown_loop l hlen hM b (a ++ [x]) _ _ (by rw [List.append_assoc]; exact hab) (and_i128 (y := x) hi) (nd_i128 (y := x) ho)
    rw [List.length_append, List.length_singleton] at this
    push_cast at this
    exact this
def knownOfV (n : Int) (l : List Int) (y m : Int) : Int × Int × Bool := if goOnB n l y m = true then ((knownL (leftL l y m) (2 ^ n.toNat - 1) (2 ^ n.toNat - 1)).1, (knownL (leftL l y m) (2 ^ n.toNat - 1) (2 ^ n.toNat - 1)).2, true) else (0, 0, false)
theorem knownOf_both (n : Int) (l : List Int) (y m : Int) (hlen : l.length < 4611686018427387904) : ∃ r, Ev (fun k => spec_KnownOf.f k n l y m) r ∧ Ev (fun k => impl_KnownOf.f k n l y m) r := by
  refine ⟨knownOfV n l y m, ?_, ?_⟩
  · unfold spec_KnownOf.f knownOfV
    refine Ev.bind (asGood_ok n l y m hlen) ?_
    cases h : goOnB n l y m with
    | false => exact Ev.val (r := (0, 0, false)) (Ev.to (fun k => by rw [if_neg (by decide)]) (Ev.const rfl)) (by simp)
    | true =>
      obtain ⟨hs, hy, hm, _⟩ := answersB_parts (goOnB_parts h)
      have hl := isSpaceB_len hs
      have hp := isSpaceB_parts hs
      have hle := leftL_length l y m
      refine Ev.val (r := ((knownL (leftL l y m) (2 ^ n.toNat - 1) (2 ^ n.toNat - 1)).1, (knownL (leftL l y m) (2 ^ n.toNat - 1) (2 ^ n.toNat - 1)).2, true)) (Ev.to (fun k => by rw [if_pos rfl]) ?_) (by simp)
      refine Ev.bind (asLeft_ok n hy hm (isSpaceB_i128 hs) (by omega)) ?_
      exact Ev.bind (asKnown_ok hp.1 hp.2.1 _ _ (by omega) (fun x hx => isSpaceB_i128 hs x (leftL_sub hx))) (Ev.const rfl)
  · unfold impl_KnownOf.f knownOfV
    refine Ev.bind (goOn_ok n l y m) ?_
    cases h : goOnB n l y m with
    | false => exact Ev.val (r := (0, 0, false)) (Ev.to (fun k => by rw [if_neg (by decide)]) (Ev.const rfl)) (by simp)
    | true =>
      obtain ⟨hs, hy, hm, _⟩ := answersB_parts (goOnB_parts h)
      have hl := isSpaceB_len hs
      have hp := isSpaceB_parts hs
      have hle := leftL_length l y m
      have hpw := pow128 (n := n) (by omega) hp.2.1
      refine Ev.val (r := ((knownL (leftL l y m) (2 ^ n.toNat - 1) (2 ^ n.toNat - 1)).1, (knownL (leftL l y m) (2 ^ n.toNat - 1) (2 ^ n.toNat - 1)).2, true)) (Ev.to (fun k => by rw [if_pos rfl]) ?_) (by simp)
      refine Ev.bindc (all_ok n l (by omega) hp.2.1) ?_
      refine Ev.bindc (all_ok n l (by omega) hp.2.1) ?_
      refine Ev.bind (left_ok n hy hm (isSpaceB_i128 hs) (by omega)) ?_
      exact iKnown_loop (leftL l y m) (by omega) (fun x hx => isSpaceB_i128 hs x (leftL_sub hx)) (leftL l y m) [] _ _ rfl ⟨by omega, by omega⟩ ⟨by omega, by omega⟩
theorem FnExactKnownOf : PureFnExactKnownOf := by
  intro n l y m _ _ hlen _ _
  refine Ev.rounds ?_
  unfold laws_FnExactKnownOf.f
  by_cases hl : (1048576 : Int) < l.length
  · refine Ev.bindc (szSpace_over n l 1048576 (by omega) hlen hl (by omega)) ?_
    exact Ev.to (fun k => by rw [if_pos (by decide)]) (Ev.const rfl)
  · obtain ⟨r, h1, h2⟩ := knownOf_both n l y m (by omega)
    refine Ev.bindc (szSpace_fits n l 1048576 (by omega) (by omega)) ?_
    refine Ev.to (fun k => by rw [if_neg (by omega)]) ?_
    have hts := toSpace_ok n l (by omega)
    refine Ev.bind hts ?_
    refine Ev.bind h1 ?_
    refine Ev.bind hts ?_
    refine Ev.bind h2 ?_
    refine Ev.to (fun k => by rw [if_pos rfl, if_pos rfl]) ?_
    refine Ev.succ (fun k => by simp only [laws_FnExactKnownOf.j0]; rw [if_neg (by simp)]) ?_
    refine Ev.bind hts ?_
    refine Ev.bind (eqSpace_refl n l (by omega)) ?_
    exact Ev.to (fun k => by rw [if_pos rfl]) (Ev.const rfl)


end Go.Proofs.Ytmmbcacjhocioaa.Q
