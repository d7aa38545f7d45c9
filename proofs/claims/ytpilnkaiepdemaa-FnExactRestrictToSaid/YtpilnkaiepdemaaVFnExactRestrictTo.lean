/- The pure side of the law FnExactRestrictTo: the program and the reference tell the same space of what a set has in common with all sets. Conditions: none. -/
import Derived.Test.YtpilnkaiepdemaaPx1
import Derived.Test.YtpilnkaiepdemaaPx2
import Derived.Test.YtpilnkaiepdemaaPx3
import Derived.Test.YtpilnkaiepdemaaPx4
import Derived.Test.YtpilnkaiepdemaaPx5
import Derived.Test.YtpilnkaiepdemaaPx6
import Derived.Test.YtpilnkaiepdemaaPx7
import Derived.Test.YtpilnkaiepdemaaOpens
namespace Go.Proofs.Ytpilnkaiepdemaa.Q
open Go.RowKit Go.Proofs.Ytpilnkaiepdemaa.Opens Go.Proofs.YtpilnkaiepdemaaW.PrintWords Go.Proofs.YtpilnkaiepdemaaW.PrintLast Go.Proofs.YtpilnkaiepdemaaW.PrintMore
set_option linter.unusedVariables false
set_option linter.unusedSimpArgs false

/-- THE ONE PURE STATEMENT of FnExactRestrictTo. -/
def PureFnExactRestrictTo : Prop := ∀ (a0_0 : Int) (l0_1 : List Int) (a1 : Int), Int64 a0_0 → AllOk Int64 l0_1 → l0_1.length ≤ 9223372036854775807 → Int64 a1 → ∃ k, laws_FnExactRestrictTo.f k a0_0 l0_1 a1 = some true
theorem cntN_items (S : Nat) : cntN S = (itemsN S).length := rfl
/-- The sets of a restricted space. -/
def InSq (l : List Int) (S : Nat) (z : Int) : Prop := ∃ a, a ∈ l ∧ z = (sqN S a.toNat : Nat)
theorem sq_range {S a : Nat} : sqN S a < 2 ^ (itemsN S).length := sqK_lt S a _
theorem sq_space {n : Int} {l : List Int} (hS : isSpaceB n l = true) {S : Int} (hm : S ∈ l) (h0 : S ≠ 0) {O : List Int} (hi : O.Pairwise (· < ·)) (hO : ∀ z, z ∈ O ↔ InSq l S.toNat z) : isSpaceB ((itemsN S.toNat).length : Nat) O = true := by
  have hL := learn_of_space hS
  have hM := isSpaceB_128 hS
  have hSr := hM S hm
  have hlen := itemsN_len S.toNat
  have hpos : 1 ≤ (itemsN S.toNat).length := by
    rcases Nat.eq_zero_or_pos (itemsN S.toNat).length with e | e
    · exfalso
      have he := List.eq_nil_of_length_eq_zero e
      have hb := itemsN_none he
      have : S.toNat = 0 := by
        apply Nat.eq_of_testBit_eq
        intro j
        rw [Nat.zero_testBit]
        rcases Nat.lt_or_ge j 7 with h | h
        · exact hb j h
        · exact Nat.testBit_lt_two_pow (Nat.lt_of_lt_of_le (show S.toNat < 2 ^ 7 by omega) (Nat.pow_le_pow_right (by decide) h))
      omega
    · exact e
  have hpw := int_pow (itemsN S.toNat).length
  have hz : (0 : Int) ∈ l := fam_mem (x := 0) hL.zero
  refine isSpaceB_of (by omega) (by omega) hi (fun x hx => ?_) ((hO 0).2 ⟨0, hz, by rw [show (0 : Int).toNat = 0 from rfl, sqN_zero]; rfl⟩) ((hO _).2 ⟨S, hm, ?_⟩) (fun x hx y hy => ?_) (fun x hx hne => ?_)
  · obtain ⟨a, ha, rfl⟩ := (hO x).1 hx
    rw [Int.toNat_natCast, ← hpw]
    have := @sq_range S.toNat a.toNat
    exact ⟨by omega, by omega⟩
  · rw [sqN_self, Int.toNat_natCast, ← hpw]
    have : 0 < 2 ^ (itemsN S.toNat).length := Nat.pow_pos (by decide)
    omega
  · obtain ⟨a, ha, rfl⟩ := (hO x).1 hx
    obtain ⟨b, hb, rfl⟩ := (hO y).1 hy
    rw [Int.toNat_natCast, Int.toNat_natCast, ← sqN_or]
    have h1 := hL.join _ _ (mem_fam ha (hM a ha).1 (hM a ha).2) (mem_fam hb (hM b hb).1 (hM b hb).2)
    exact (hO _).2 ⟨_, fam_mem h1, by rw [Int.toNat_natCast]⟩
  · obtain ⟨a, ha, rfl⟩ := (hO x).1 hx
    obtain ⟨j, b, hj, h1, h2, h3⟩ := hL.squeeze S.toNat a.toNat a.toNat (Nat.le_refl _) (mem_fam ha (hM a ha).1 (hM a ha).2) (by omega)
    rw [Int.toNat_natCast]
    exact ⟨j, hj, h1, (hO _).2 ⟨_, fam_mem h2, by rw [Int.toNat_natCast, h3]⟩⟩
theorem restrict_spec {n : Int} {l : List Int} (hS : isSpaceB n l = true) {S : Int} (hm : S ∈ l) (h0 : S ≠ 0) : ∀ (B A O : List Int), A ++ B = l → O.Pairwise (· < ·) → (∀ z, z ∈ O ↔ InSq A S.toNat z) → O.length ≤ A.length →
    ∃ O', O'.Pairwise (· < ·) ∧ (∀ z, z ∈ O' ↔ InSq l S.toNat z) ∧ Ev (fun k => spec_RestrictTo.l0 k S l l.length A.length ((itemsN S.toNat).length : Nat) O) (((itemsN S.toNat).length : Nat), O', true) ∧ O'.length ≤ l.length
  | [], A, O, hA, hi, hO, hl => by
    rw [List.append_nil] at hA
    subst hA
    have hlen := isSpaceB_len hS
    refine ⟨O, hi, hO, ?_, hl⟩
    refine Ev.succ (fun k => by simp only [spec_RestrictTo.l0]; rw [if_neg (by omega)]) ?_
    refine Ev.bind (show Ev (fun k => spec_spIf.f k ((itemsN S.toNat).length : Nat) O) (((itemsN S.toNat).length : Nat), O, true) from ?_) (Ev.const rfl)
    unfold spec_spIf.f
    refine Ev.bind (spGood_ok _ O (by omega)) ?_
    rw [sq_space hS hm h0 hi hO]
    exact Ev.to (fun k => by rw [if_pos rfl]) (Ev.const rfl)
  | x :: B, A, O, hA, hi, hO, hl => by
    have hlt : A.length < l.length := by rw [← hA]; simp
    have hrd : rd l (A.length : Int) = x := by rw [← hA]; exact rd_append A B x
    have hlen := isSpaceB_len hS
    have hx := isSpaceB_128 hS x (by rw [← hA]; simp)
    have hs := isSpaceB_128 hS S hm
    obtain ⟨O2, h1, h2, h3, h4⟩ := spPut_ok O (sqN S.toNat x.toNat : Nat) hi (by omega)
    have hO2 : ∀ z, z ∈ O2 ↔ InSq (A ++ [x]) S.toNat z := by
      intro z
      rw [h3, hO]
      unfold InSq
      constructor
      · rintro (h | ⟨a, ha, h⟩)
        · exact ⟨x, by simp, h⟩
        · exact ⟨a, by simp [ha], h⟩
      · rintro ⟨a, ha, h⟩
        rw [List.mem_append, List.mem_singleton] at ha
        rcases ha with ha | rfl
        · exact .inr ⟨a, ha, h⟩
        · exact .inl h
    obtain ⟨O', g1, g2, g3, g4⟩ := restrict_spec hS hm h0 B (A ++ [x]) O2 (by rw [List.append_assoc]; exact hA) h2 hO2 (by rw [List.length_append, List.length_singleton]; omega)
    rw [List.length_append, List.length_singleton] at g3
    push_cast at g3
    refine ⟨O', g1, g2, ?_, g4⟩
    refine Ev.succ (fun k => by simp only [spec_RestrictTo.l0]; rw [if_pos (by omega), if_pos (by omega), if_pos (by omega), hrd, and_int hx hs, wrap_succ (by omega) (by omega)]) ?_
    have hnum := spNumbered_ok (x.toNat &&& S.toNat) S.toNat
    rw [sqN_and, show ((S.toNat : Nat) : Int) = S by omega] at hnum
    refine Ev.bind hnum ?_
    exact Ev.bind h1 g3
theorem restrict_impl {l : List Int} (hM : ∀ x ∈ l, 0 ≤ x ∧ x < 128) {S : Int} (hs : 0 ≤ S ∧ S < 128) (hlen : l.length < 1048577) {O : List Int} (hi : O.Pairwise (· < ·)) (hO : ∀ z, z ∈ O ↔ InSq l S.toNat z) : ∀ (B A : List Int) (F : List Bool), A ++ B = l → F.length = 128 → (∀ y, y < 128 → (F.getD y false = true ↔ InSq A S.toNat (y : Nat))) →
    Ev (fun k => impl_RestrictTo.l0 k S F l l.length A.length) (((itemsN S.toNat).length : Nat), O, true)
  | [], A, F, hA, hF, hFO => by
    rw [List.append_nil] at hA
    subst hA
    have he : setsOf F = O := by
      refine inc_ext (setsOf_inc _) hi (fun z => ?_)
      rw [setsOf_mem, hO]
      constructor
      · rintro ⟨z0, z1, hz⟩
        have := (hFO z.toNat (by omega)).1 hz
        rwa [show ((z.toNat : Nat) : Int) = z by omega] at this
      · intro hz
        have h128 : 0 ≤ z ∧ z < 128 := by
          obtain ⟨a, _, rfl⟩ := hz
          have := sqK_lt128 S.toNat a.toNat _ (itemsN_len S.toNat)
          show 0 ≤ ((sqK S.toNat a.toNat (itemsN S.toNat).length : Nat) : Int) ∧ ((sqK S.toNat a.toNat (itemsN S.toNat).length : Nat) : Int) < 128
          omega
        refine ⟨h128.1, h128.2, (hFO z.toNat (by omega)).2 ?_⟩
        rwa [show ((z.toNat : Nat) : Int) = z by omega]
    refine Ev.succ (fun k => by simp only [impl_RestrictTo.l0]; rw [if_neg (by omega)]) ?_
    refine Ev.bindc (count_ok hs) ?_
    refine Ev.bindc (show impl_family_space.f F (cntN S.toNat : Int) = some ((cntN S.toNat : Int), setsOf F) from ?_) ?_
    · unfold impl_family_space.f
      rw [if_pos hF]
    · rw [he, cntN_items]
      exact Ev.const rfl
  | x :: B, A, F, hA, hF, hFO => by
    have hlt : A.length < l.length := by rw [← hA]; simp
    have hrd : rd l (A.length : Int) = x := by rw [← hA]; exact rd_append A B x
    have hx := hM x (by rw [← hA]; simp)
    have hq : sqN S.toNat x.toNat < 128 := sqK_lt128 S.toNat x.toNat _ (itemsN_len S.toNat)
    have hn := restrict_impl hM hs hlen hi hO B (A ++ [x]) (F.set (sqN S.toNat x.toNat) true) (by rw [List.append_assoc]; exact hA) (by rw [List.length_set]; exact hF) (fun y hy => by
      rw [getD_set hF _ _ hq, Bool.or_eq_true, decide_eq_true_eq, hFO y hy]
      unfold InSq
      constructor
      · rintro (⟨a, ha, h⟩ | h)
        · exact ⟨a, by simp [ha], h⟩
        · exact ⟨x, by simp, by omega⟩
      · rintro ⟨a, ha, h⟩
        rw [List.mem_append, List.mem_singleton] at ha
        rcases ha with ha | rfl
        · exact .inl ⟨a, ha, h⟩
        · exact .inr (by omega))
    rw [List.length_append, List.length_singleton] at hn
    push_cast at hn
    refine Ev.succ (fun k => by simp only [impl_RestrictTo.l0]; rw [if_pos (by omega), if_pos (by omega), if_pos (by omega), hrd, wrap_succ (by omega) (by omega)]) ?_
    have hsq := squeezed_ok x.toNat S.toNat (by omega) (by omega)
    rw [show ((x.toNat : Nat) : Int) = x by omega, show ((S.toNat : Nat) : Int) = S by omega] at hsq
    refine Ev.bind hsq ?_
    refine Ev.to (fun k => by rw [if_pos (by omega), if_pos (by omega), Int.toNat_natCast]) ?_
    exact hn
theorem restrict_both (n : Int) (l : List Int) (S : Int) (hlen : l.length < 1048577) : ∃ r, Ev (fun k => spec_RestrictTo.f k n l S) r ∧ Ev (fun k => impl_RestrictTo.f k n l S) r ∧ r.2.1.length ≤ 1048577 := by
  have hsj : ∀ S n l, Ev (fun k => spec_RestrictTo.j0 k S true n l) (0, [], false) := fun S n l => Ev.succ (fun k => by simp only [spec_RestrictTo.j0]; rw [if_pos trivial]) (Ev.const rfl)
  have hij : ∀ S n l, Ev (fun k => impl_RestrictTo.j0 k S true n l) (0, [], false) := fun S n l => Ev.succ (fun k => by simp only [impl_RestrictTo.j0]; rw [if_pos trivial]) (Ev.const rfl)
  unfold spec_RestrictTo.f impl_RestrictTo.f
  cases hk : isKnownB n l S with
  | false =>
    refine ⟨(0, [], false), ?_, ?_, by show (0 : Nat) ≤ _; omega⟩
    · refine Ev.bind (spOne_ok n l S (by omega)) ?_
      exact Ev.to (fun k => by rw [hk, if_neg (by decide)]) (hsj S n l)
    · refine Ev.bindc (show impl_isKnown.f n l S = some (isKnownB n l S) from rfl) ?_
      exact Ev.to (fun k => by rw [hk, if_neg (by decide)]) (hij S n l)
  | true =>
    have hk2 := hk
    unfold isKnownB at hk2
    simp only [Bool.and_eq_true, decide_eq_true_eq] at hk2
    obtain ⟨hS, hm⟩ := hk2
    by_cases h0 : S = 0
    · refine ⟨(0, [], false), ?_, ?_, by show (0 : Nat) ≤ _; omega⟩
      · refine Ev.bind (spOne_ok n l S (by omega)) ?_
        refine Ev.to (fun k => by rw [hk, if_pos rfl, show (S == 0) = true by simpa using h0]) ?_
        exact hsj S n l
      · refine Ev.bindc (show impl_isKnown.f n l S = some (isKnownB n l S) from rfl) ?_
        refine Ev.to (fun k => by rw [hk, if_pos rfl, show (S == 0) = true by simpa using h0]) ?_
        exact hij S n l
    · have hs := isSpaceB_128 hS S hm
      have hM := isSpaceB_128 hS
      obtain ⟨O, h1, h2, h3, h4⟩ := restrict_spec hS hm h0 l [] [] rfl List.Pairwise.nil (fun z => ⟨fun h => absurd h (by simp), fun ⟨a, ha, _⟩ => absurd ha (by simp)⟩) (Nat.le_refl _)
      have h5 := restrict_impl hM hs hlen h1 h2 l [] (List.replicate 128 false) rfl (by simp) (fun y hy => by
        rw [List.getD_eq_getElem?_getD, List.getElem?_replicate, if_pos hy]
        exact ⟨fun h => absurd h (by simp), fun ⟨a, ha, _⟩ => absurd ha (by simp)⟩)
      have hc := spCount_ok S.toNat (by omega)
      rw [show ((S.toNat : Nat) : Int) = S by omega, cntN_items] at hc
      refine ⟨(((itemsN S.toNat).length : Nat), O, true), ?_, ?_, by show O.length ≤ _; omega⟩
      · refine Ev.bind (spOne_ok n l S (by omega)) ?_
        refine Ev.to (fun k => by rw [hk, if_pos rfl, show (S == 0) = false by simpa using h0]) ?_
        refine Ev.succ (fun k => by simp only [spec_RestrictTo.j0]; rw [if_neg (by decide)]) ?_
        exact Ev.bind hc h3
      · refine Ev.bindc (show impl_isKnown.f n l S = some (isKnownB n l S) from rfl) ?_
        refine Ev.to (fun k => by rw [hk, if_pos rfl, show (S == 0) = false by simpa using h0]) ?_
        refine Ev.succ (fun k => by simp only [impl_RestrictTo.j0]; rw [if_neg (by decide)]) ?_
        exact h5
theorem FnExactRestrictTo : PureFnExactRestrictTo := by
  intro n0 l0 a1 _ _ hl0 _
  refine Ev.rounds ?_
  unfold laws_FnExactRestrictTo.f
  by_cases hb0 : (1048576 : Int) < l0.length
  · refine Ev.bindc (szSpace_over n0 l0 _ (by omega) hl0 hb0 (by omega)) ?_
    exact Ev.to (fun k => by rw [if_pos (by decide)]) (Ev.const rfl)
  · refine Ev.bindc (szSpace_fits n0 l0 _ (by omega) (by omega)) ?_
    refine Ev.to (fun k => by rw [if_neg (by omega)]) ?_
    obtain ⟨⟨r0, q0, r1⟩, h1, h2, z0⟩ := restrict_both n0 l0 a1 (by omega)
    replace z0 : q0.length ≤ 1048577 := z0
    have a0_ := toSpace_ok n0 l0 (by omega)
    have e0_ := eqSpace_refl n0 l0 (by omega)
    have m0_ := markSpace_ok n0 l0 (1) (by omega) (by omega)
    have g0_ := eqSpace_refl r0 q0 (by omega)
    have p0_ := markSpace_ok r0 q0 (1) (by omega) (by omega)
    have d0_ := heldSpace_ok r0 (1) q0.length (by omega) (by omega)
    repeat (first | exact Ev.const rfl | (with_reducible refine Ev.bind h1 ?_) | (with_reducible refine Ev.bind h2 ?_) | (with_reducible refine Ev.bind a0_ ?_) | (with_reducible refine Ev.bind e0_ ?_) | (with_reducible refine Ev.bind m0_ ?_) | (with_reducible refine Ev.bind g0_ ?_) | (with_reducible refine Ev.bind p0_ ?_) | (with_reducible refine Ev.bind d0_ ?_) | refine Ev.to (fun k => by rw [if_pos rfl]) ?_ | refine Ev.to (fun k => by rw [if_neg (by omega)]) ?_ | refine Ev.to (fun k => by rw [if_neg (by simp)]) ?_ | refine Ev.succ (fun k => by simp only [laws_FnExactRestrictTo.j0]; rw [if_neg (by simp)]) ?_ | refine Ev.succ (fun k => by simp only [laws_FnExactRestrictTo.j1]; rw [if_neg (by simp)]) ?_ | refine Ev.succ (fun k => by simp only [laws_FnExactRestrictTo.j2]; rw [if_neg (by simp)]) ?_ | refine Ev.succ (fun k => by simp only [laws_FnExactRestrictTo.j3]; rw [if_neg (by simp)]) ?_)


end Go.Proofs.Ytpilnkaiepdemaa.Q
