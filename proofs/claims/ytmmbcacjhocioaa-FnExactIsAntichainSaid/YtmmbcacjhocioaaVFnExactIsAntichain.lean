/- The pure side of the law FnExactIsAntichain: the program and the reference agree whether sets are an antichain. Conditions: none. -/
import Derived.Test.YtmmbcacjhocioaaPx1
import Derived.Test.YtmmbcacjhocioaaPx2
import Derived.Test.YtmmbcacjhocioaaPx3
import Derived.Test.YtmmbcacjhocioaaPx4
import Derived.Test.YtmmbcacjhocioaaPx5
import Derived.Test.YtmmbcacjhocioaaPx6
import Derived.Test.YtmmbcacjhocioaaOpens
namespace Go.Proofs.Ytmmbcacjhocioaa.Q
open Go.RowKit Go.Proofs.Ytmmbcacjhocioaa.Opens Go.Proofs.YtmmbcacjhocioaaW.PrintWords Go.Proofs.YtmmbcacjhocioaaW.PrintLast Go.Proofs.YtmmbcacjhocioaaW.PrintMore
set_option linter.unusedVariables false
set_option linter.unusedSimpArgs false

/-- THE ONE PURE STATEMENT of FnExactIsAntichain. -/
def PureFnExactIsAntichain : Prop := ∀ (a0_0 : Int) (l0_1 : List Int) (l1 : List Int), Int64 a0_0 → AllOk Int64 l0_1 → l0_1.length ≤ 9223372036854775807 → AllOk Int64 l1 → l1.length ≤ 9223372036854775807 → ∃ k, laws_FnExactIsAntichain.f k a0_0 l0_1 l1 = some true
def antiIn (x : Int) (i : Nat) : Nat → List Int → Bool
  | _, [] => true
  | j, y :: b => (decide (i = j) || !decide (nd x.toNat y.toNat = 0)) && antiIn x i (j + 1) b
def antiOut (l : List Int) : Nat → List Int → Bool
  | _, [] => true
  | i, x :: b => antiIn x i 0 l && antiOut l (i + 1) b
/-- All are known, and each is new. -/
def freshB (s : List Int) : List Int → List Int → Bool
  | _, [] => true
  | a, x :: b => decide (x ∈ s) && (!decide (x ∈ a)) && freshB s (a ++ [x]) b
theorem freshB_mem {s : List Int} : ∀ {b a : List Int}, freshB s a b = true → ∀ x ∈ b, x ∈ s
  | y :: b, a, h, x, hx => by
    simp only [freshB, Bool.and_eq_true, decide_eq_true_eq] at h
    rcases List.mem_cons.1 hx with rfl | hx
    · exact h.1.1
    · exact freshB_mem h.2 x hx
section
variable (l : List Int) (hlen : l.length < 9223372036854775807) (hM : ∀ x ∈ l, I128 x)
include hlen hM
theorem sp_anti : ∀ (fuel : Nat), (∀ (b a : List Int), b.length < fuel → a ++ b = l → Ev (fun k => spec_cnAntichain.l0 k l l l.length a.length) (antiOut l a.length b)) := by
  intro fuel
  induction fuel with
  | zero => intro b a h _; exact absurd h (Nat.not_lt_zero _)
  | succ fuel ih =>
    intro b a hf hab
    match b, hf, hab with
    | [], _, hab =>
      rw [List.append_nil] at hab
      subst hab
      exact Ev.succ (fun k => by simp only [spec_cnAntichain.l0]; rw [if_neg (by omega)]) (Ev.const (by rw [antiOut]))
    | x :: b, hf, hab =>
      have hlt : a.length < l.length := by rw [← hab]; simp
      have hrd : rd l (a.length : Int) = x := by rw [← hab]; exact rd_append a b x
      have hx := hM x (by rw [← hab]; simp)
      refine Ev.succ (fun k => by simp only [spec_cnAntichain.l0]; rw [if_pos (by omega), if_pos (by omega), if_pos (by omega), hrd]) ?_
      have hin : ∀ (d c : List Int), c ++ d = l → Ev (fun k => spec_cnAntichain.l1 k l a.length x l l.length a.length l l.length c.length) (antiIn x a.length c.length d && antiOut l (a.length + 1) b) := by
        intro d
        induction d with
        | nil =>
          intro c hc
          rw [List.append_nil] at hc
          subst hc
          refine Ev.succ (fun k => by simp only [spec_cnAntichain.l1]; rw [if_neg (by omega), wrap_succ (by omega) (by omega)]) ?_
          have := ih b (a ++ [x]) (by simp only [List.length_cons] at hf; omega) (by rw [List.append_assoc]; exact hab)
          rw [List.length_append, List.length_singleton] at this
          push_cast at this
          rw [antiIn, Bool.true_and]
          exact this
        | cons y d ihd =>
          intro c hc
          have hlt2 : c.length < l.length := by rw [← hc]; simp
          have hrd2 : rd l (c.length : Int) = y := by rw [← hc]; exact rd_append c d y
          have hy := hM y (by rw [← hc]; simp)
          have hnext := ihd (c ++ [y]) (by rw [List.append_assoc]; exact hc)
          rw [List.length_append, List.length_singleton] at hnext
          push_cast at hnext
          rw [antiIn]
          by_cases he : a.length = c.length
          · rw [decide_eq_true he, Bool.true_or, Bool.true_and]
            exact Ev.succ (fun k => by simp only [spec_cnAntichain.l1]; rw [if_pos (by omega), if_pos (by omega), if_pos (by omega), if_pos (by omega), wrap_succ (by omega) (by omega)]) hnext
          · rw [decide_eq_false he, Bool.false_or]
            refine Ev.succ (fun k => by simp only [spec_cnAntichain.l1]; rw [if_pos (by omega), if_pos (by omega), if_pos (by omega), if_neg (by omega), hrd2]) ?_
            refine Ev.bindc (a := decide (nd x.toNat y.toNat = 0)) (by unfold spec_cnParts.f; rw [nd_int hx hy]; congr 1; rw [Bool.eq_iff_iff, beq_iff_eq, decide_eq_true_eq]; omega) ?_
            cases decide (nd x.toNat y.toNat = 0) with
            | true => exact Ev.to (fun k => by rw [if_pos rfl]) (Ev.const (by simp))
            | false =>
              rw [Bool.not_false, Bool.true_and]
              exact Ev.to (fun k => by rw [if_neg (by decide), wrap_succ (by omega) (by omega)]) hnext
      have := hin l [] rfl
      rw [antiOut]
      exact this
theorem im_anti : ∀ (fuel : Nat), (∀ (b a : List Int), b.length < fuel → a ++ b = l → Ev (fun k => impl_antichain.l0 k l l l.length a.length) (antiOut l a.length b)) := by
  intro fuel
  induction fuel with
  | zero => intro b a h _; exact absurd h (Nat.not_lt_zero _)
  | succ fuel ih =>
    intro b a hf hab
    match b, hf, hab with
    | [], _, hab =>
      rw [List.append_nil] at hab
      subst hab
      exact Ev.succ (fun k => by simp only [impl_antichain.l0]; rw [if_neg (by omega)]) (Ev.const (by rw [antiOut]))
    | x :: b, hf, hab =>
      have hlt : a.length < l.length := by rw [← hab]; simp
      have hrd : rd l (a.length : Int) = x := by rw [← hab]; exact rd_append a b x
      have hx := hM x (by rw [← hab]; simp)
      refine Ev.succ (fun k => by simp only [impl_antichain.l0]; rw [if_pos (by omega), if_pos (by omega), if_pos (by omega), hrd]) ?_
      have hin : ∀ (d c : List Int), c ++ d = l → Ev (fun k => impl_antichain.l1 k l a.length x l l.length a.length l l.length c.length) (antiIn x a.length c.length d && antiOut l (a.length + 1) b) := by
        intro d
        induction d with
        | nil =>
          intro c hc
          rw [List.append_nil] at hc
          subst hc
          refine Ev.succ (fun k => by simp only [impl_antichain.l1]; rw [if_neg (by omega), wrap_succ (by omega) (by omega)]) ?_
          have := ih b (a ++ [x]) (by simp only [List.length_cons] at hf; omega) (by rw [List.append_assoc]; exact hab)
          rw [List.length_append, List.length_singleton] at this
          push_cast at this
          rw [antiIn, Bool.true_and]
          exact this
        | cons y d ihd =>
          intro c hc
          have hlt2 : c.length < l.length := by rw [← hc]; simp
          have hrd2 : rd l (c.length : Int) = y := by rw [← hc]; exact rd_append c d y
          have hy := hM y (by rw [← hc]; simp)
          have hnext := ihd (c ++ [y]) (by rw [List.append_assoc]; exact hc)
          rw [List.length_append, List.length_singleton] at hnext
          push_cast at hnext
          rw [antiIn]
          by_cases he : a.length = c.length
          · rw [decide_eq_true he, Bool.true_or, Bool.true_and]
            exact Ev.succ (fun k => by simp only [impl_antichain.l1]; rw [if_pos (by omega), if_pos (by omega), if_pos (by omega), if_pos (by omega), wrap_succ (by omega) (by omega)]) hnext
          · rw [decide_eq_false he, Bool.false_or]
            refine Ev.succ (fun k => by simp only [impl_antichain.l1]; rw [if_pos (by omega), if_pos (by omega), if_pos (by omega), if_neg (by omega), hrd2]) ?_
            refine Ev.bindc (part_ok hx hy) ?_
            cases decide (nd x.toNat y.toNat = 0) with
            | true => exact Ev.to (fun k => by rw [if_pos rfl]) (Ev.const (by simp))
            | false =>
              rw [Bool.not_false, Bool.true_and]
              exact Ev.to (fun k => by rw [if_neg (by decide), wrap_succ (by omega) (by omega)]) hnext
      have := hin l [] rfl
      rw [antiOut]
      exact this
end
def isAntichainV (n : Int) (s l : List Int) : Bool × Bool := if isSpaceB n s = true then (if (l.length : Int) > 40 then (false, false) else if freshB s [] l = true then (antiOut l 0 l, true) else (false, false)) else (false, false)
theorem sp_fresh (n : Int) (s l : List Int) (hs : isSpaceB n s = true) (hslen : s.length < 4611686018427387904) (hlen : l.length ≤ 40) : ∀ (b a : List Int), a ++ b = l → (∀ x ∈ a, x ∈ s) → Ev (fun k => spec_IsAntichain.l0 k l l l.length a.length n s) (if freshB s a b = true then (antiOut l 0 l, true) else (false, false))
  | [], a, hab, ha => by
    rw [List.append_nil] at hab
    subst hab
    refine Ev.val (r := (antiOut a 0 a, true)) (Ev.succ (fun k => by simp only [spec_IsAntichain.l0]; rw [if_neg (by omega)]) ?_) (by rw [freshB, if_pos rfl])
    exact Ev.bind (show Ev (fun k => spec_cnAntichain.f k a) _ from sp_anti a (by omega) (fun x hx => isSpaceB_i128 hs x (ha x hx)) (a.length + 1) a [] (by omega) rfl) (Ev.const rfl)
  | x :: b, a, hab, ha => by
    have hlt : a.length < l.length := by rw [← hab]; simp
    have hrd : rd l (a.length : Int) = x := by rw [← hab]; exact rd_append a b x
    have htk : l.take ((a.length : Int)).toNat = a := by rw [← hab, Int.toNat_natCast, List.take_left' rfl]
    refine Ev.succ (fun k => by simp only [spec_IsAntichain.l0]; rw [if_pos (by omega), if_pos (by omega), if_pos (by omega), hrd, htk]) ?_
    refine Ev.bind (spHas_ok (risingB_rise (isSpaceB_parts hs).2.2.2.1) hslen x) ?_
    rw [freshB]
    cases h1 : decide (x ∈ s) with
    | false => exact Ev.val (r := (false, false)) (Ev.to (fun k => by rw [if_neg (by decide)]) (Ev.const rfl)) (by simp)
    | true =>
      refine Ev.to (fun k => by rw [if_pos rfl, if_pos (by omega)]) ?_
      refine Ev.bind (l1Has_ok a x (by omega)) ?_
      cases h2 : decide (x ∈ a) with
      | true => exact Ev.val (r := (false, false)) (Ev.to (fun k => by rw [if_pos rfl]) (Ev.const rfl)) (by simp)
      | false =>
        refine Ev.to (fun k => by rw [if_neg (by decide), wrap_succ (by omega) (by omega)]) ?_
        have := sp_fresh n s l hs hslen hlen b (a ++ [x]) (by rw [List.append_assoc]; exact hab) (fun z hz => by
          rcases List.mem_append.1 hz with hz | hz
          · exact ha z hz
          · rw [List.mem_singleton.1 hz]; exact of_decide_eq_true h1)
        rw [List.length_append, List.length_singleton] at this
        push_cast at this
        rw [Bool.not_false, Bool.true_and, Bool.true_and]
        exact this
theorem im_fresh (n : Int) (s l : List Int) (hs : isSpaceB n s = true) (hlen : l.length ≤ 40) : ∀ (b a : List Int), a ++ b = l → (∀ x ∈ a, x ∈ s) → Ev (fun k => impl_IsAntichain.l0 k l l l.length a.length n s) (if freshB s a b = true then (antiOut l 0 l, true) else (false, false))
  | [], a, hab, ha => by
    rw [List.append_nil] at hab
    subst hab
    refine Ev.val (r := (antiOut a 0 a, true)) (Ev.succ (fun k => by simp only [impl_IsAntichain.l0]; rw [if_neg (by omega)]) ?_) (by rw [freshB, if_pos rfl])
    exact Ev.bind (show Ev (fun k => impl_antichain.f k a) _ from im_anti a (by omega) (fun x hx => isSpaceB_i128 hs x (ha x hx)) (a.length + 1) a [] (by omega) rfl) (Ev.const rfl)
  | x :: b, a, hab, ha => by
    have hlt : a.length < l.length := by rw [← hab]; simp
    have hrd : rd l (a.length : Int) = x := by rw [← hab]; exact rd_append a b x
    have htk : l.take ((a.length : Int)).toNat = a := by rw [← hab, Int.toNat_natCast, List.take_left' rfl]
    refine Ev.succ (fun k => by simp only [impl_IsAntichain.l0]; rw [if_pos (by omega), if_pos (by omega), if_pos (by omega), hrd, htk]) ?_
    refine Ev.bindc (show impl_isKnown.f n s x = some (decide (x ∈ s)) by unfold impl_isKnown.f isKnownB; rw [hs, Bool.true_and]) ?_
    rw [freshB]
    cases h1 : decide (x ∈ s) with
    | false => exact Ev.val (r := (false, false)) (Ev.to (fun k => by rw [if_neg (by decide)]) (Ev.const rfl)) (by simp)
    | true =>
      refine Ev.to (fun k => by rw [if_pos rfl, if_pos (by omega)]) ?_
      refine Ev.bind (sContains_ok a x (by omega)) ?_
      cases h2 : decide (x ∈ a) with
      | true => exact Ev.val (r := (false, false)) (Ev.to (fun k => by rw [if_pos rfl]) (Ev.const rfl)) (by simp)
      | false =>
        refine Ev.to (fun k => by rw [if_neg (by decide), wrap_succ (by omega) (by omega)]) ?_
        have := im_fresh n s l hs hlen b (a ++ [x]) (by rw [List.append_assoc]; exact hab) (fun z hz => by
          rcases List.mem_append.1 hz with hz | hz
          · exact ha z hz
          · rw [List.mem_singleton.1 hz]; exact of_decide_eq_true h1)
        rw [List.length_append, List.length_singleton] at this
        push_cast at this
        rw [Bool.not_false, Bool.true_and, Bool.true_and]
        exact this
theorem sp_isAntichain (n : Int) (s l : List Int) (hslen : s.length < 4611686018427387904) : Ev (fun k => spec_IsAntichain.f k n s l) (isAntichainV n s l) := by
  unfold spec_IsAntichain.f isAntichainV
  refine Ev.bind (spGood_ok n s hslen) ?_
  cases h : isSpaceB n s with
  | false =>
    refine Ev.val (r := (false, false)) (Ev.to (fun k => by rw [if_neg (by decide)]) ?_) (by simp)
    exact Ev.succ (fun k => by simp only [spec_IsAntichain.j0]; rw [if_pos trivial]) (Ev.const rfl)
  | true =>
    refine Ev.val (r := if (l.length : Int) > 40 then (false, false) else if freshB s [] l = true then (antiOut l 0 l, true) else (false, false)) (Ev.to (fun k => by rw [if_pos rfl]) ?_) (by simp)
    by_cases h40 : (l.length : Int) > 40
    · rw [if_pos h40]
      exact Ev.succ (fun k => by simp only [spec_IsAntichain.j0]; rw [if_pos (by simpa using h40)]) (Ev.const rfl)
    · rw [if_neg h40]
      exact Ev.succ (fun k => by simp only [spec_IsAntichain.j0]; rw [if_neg (by simpa using h40)]) (show Ev (fun k => spec_IsAntichain.l0 k l l l.length 0 n s) _ from sp_fresh n s l h hslen (by omega) l [] rfl (fun x hx => by simp at hx))
theorem im_isAntichain (n : Int) (s l : List Int) : Ev (fun k => impl_IsAntichain.f k n s l) (isAntichainV n s l) := by
  unfold impl_IsAntichain.f isAntichainV
  refine Ev.bindc (show impl_IsSpace.f n s = some (isSpaceB n s) from rfl) ?_
  cases h : isSpaceB n s with
  | false =>
    refine Ev.val (r := (false, false)) (Ev.to (fun k => by rw [if_neg (by decide)]) ?_) (by simp)
    exact Ev.succ (fun k => by simp only [impl_IsAntichain.j0]; rw [if_pos trivial]) (Ev.const rfl)
  | true =>
    refine Ev.val (r := if (l.length : Int) > 40 then (false, false) else if freshB s [] l = true then (antiOut l 0 l, true) else (false, false)) (Ev.to (fun k => by rw [if_pos rfl]) ?_) (by simp)
    by_cases h40 : (l.length : Int) > 40
    · rw [if_pos h40]
      exact Ev.succ (fun k => by simp only [impl_IsAntichain.j0]; rw [if_pos (by simpa using h40)]) (Ev.const rfl)
    · rw [if_neg h40]
      exact Ev.succ (fun k => by simp only [impl_IsAntichain.j0]; rw [if_neg (by simpa using h40)]) (show Ev (fun k => impl_IsAntichain.l0 k l l l.length 0 n s) _ from im_fresh n s l h (by omega) l [] rfl (fun x hx => by simp at hx))
theorem FnExactIsAntichain : PureFnExactIsAntichain := by
  intro n s l _ _ hslen _ hlen
  refine Ev.rounds ?_
  unfold laws_FnExactIsAntichain.f
  by_cases hl : (l.length : Int) > 1048576
  · exact Ev.to (fun k => by rw [if_pos hl]) (Ev.const rfl)
  by_cases hs : (1048576 : Int) < s.length
  · refine Ev.to (fun k => by rw [if_neg hl]) ?_
    refine Ev.bindc (szSpace_over n s 1048576 (by omega) hslen hs (by omega)) ?_
    exact Ev.to (fun k => by rw [if_pos (by decide)]) (Ev.const rfl)
  have hts := toSpace_ok n s (by omega)
  have htl := toIntS_ok l (by omega)
  refine Ev.to (fun k => by rw [if_neg hl]) ?_
  refine Ev.bindc (szSpace_fits n s 1048576 (by omega) (by omega)) ?_
  refine Ev.to (fun k => by rw [if_neg (by omega)]) ?_
  refine Ev.bind hts ?_
  refine Ev.bind htl ?_
  refine Ev.bind (sp_isAntichain n s l (by omega)) ?_
  refine Ev.bind hts ?_
  refine Ev.bind htl ?_
  refine Ev.bind (im_isAntichain n s l) ?_
  refine Ev.to (fun k => by rw [if_neg (by simp)]) ?_
  refine Ev.succ (fun k => by simp only [laws_FnExactIsAntichain.j0]; rw [if_neg (by simp)]) ?_
  refine Ev.bind hts ?_
  refine Ev.bind (eqSpace_refl n s (by omega)) ?_
  refine Ev.to (fun k => by rw [if_pos rfl]) ?_
  refine Ev.bind htl ?_
  refine Ev.bind (eqIntS_refl l (by omega)) ?_
  exact Ev.to (fun k => by rw [if_pos rfl]) (Ev.const rfl)

end Go.Proofs.Ytmmbcacjhocioaa.Q
