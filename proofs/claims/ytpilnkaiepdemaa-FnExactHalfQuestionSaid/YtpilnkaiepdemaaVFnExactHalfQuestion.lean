/- The pure side of the law FnExactHalfQuestion: the program and the reference tell the same question that comes nearest to halving. Conditions: none. -/
import Derived.Test.YtpilnkaiepdemaaPx1
import Derived.Test.YtpilnkaiepdemaaPx2
import Derived.Test.YtpilnkaiepdemaaPx4
import Derived.Test.YtpilnkaiepdemaaPx5
import Derived.Test.YtpilnkaiepdemaaPx6
import Derived.Test.YtpilnkaiepdemaaOpens
namespace Go.Proofs.Ytpilnkaiepdemaa.Q
open Go.RowKit Go.Proofs.Ytpilnkaiepdemaa.Opens Go.Proofs.YtpilnkaiepdemaaW.PrintWords Go.Proofs.YtpilnkaiepdemaaW.PrintLast Go.Proofs.YtpilnkaiepdemaaW.PrintMore
set_option linter.unusedVariables false
set_option linter.unusedSimpArgs false

/-- THE ONE PURE STATEMENT of FnExactHalfQuestion. -/
def PureFnExactHalfQuestion : Prop := ∀ (a0_0 : Int) (l0_1 : List Int) (a1 : Int) (a2 : Int), Int64 a0_0 → AllOk Int64 l0_1 → l0_1.length ≤ 9223372036854775807 → Int64 a1 → Int64 a2 → ∃ k, laws_FnExactHalfQuestion.f k a0_0 l0_1 a1 a2 = some true
theorem abs_ok {d : Int} (h0 : -1000 ≤ d) (h1 : d ≤ 1000) : spec_l1Abs.f d = some (absM d) := by
  unfold spec_l1Abs.f spec_l1Most.f absM
  have hw : wrap64 (-d) = -d := wrap_in (by omega) (by omega)
  rw [hw]
  by_cases h : d > -d
  · rw [if_pos h, if_neg (by omega)]; rfl
  · rw [if_neg h]
    by_cases h2 : d < -d
    · rw [if_pos h2]; rfl
    · rw [if_neg h2, show -d = d by omega]; rfl
theorem ash_inner {L : List Int} (hM : ∀ x ∈ L, I128 x) (hl : L.length ≤ 128) (x8 x9 b lst n : Int) (l : List Int) (i : Nat) (hi : i < 64) (r : Int)
    (hr : Ev (fun k => if b < 0 then spec_asHalf.l0 k L x8 x9 i (midV L i) ((i : Int) + 1) n l else if midV L i < lst then spec_asHalf.l0 k L x8 x9 i (midV L i) ((i : Int) + 1) n l else spec_asHalf.l0 k L x8 x9 b lst ((i : Int) + 1) n l) r) :
    ∀ (B A : List Int) (cnt : Int), A ++ B = L → 0 ≤ cnt → cnt + cntB i B = cntB i L → Ev (fun k => spec_asHalf.l1 k L x8 x9 b lst i cnt L L.length A.length n l) r
  | [], A, cnt, hA, h0, hc => by
    rw [List.append_nil] at hA
    subst hA
    have hcb := cntB_bounds i A
    have hc' : cnt = cntB i A := by rw [← hc]; show cnt = cnt + 0; omega
    have hw1 : wrap64 (2 * cnt) = 2 * cnt := wrap_in (by omega) (by omega)
    have hw2 : wrap64 (2 * cnt - (A.length : Int)) = 2 * cnt - A.length := wrap_in (by omega) (by omega)
    refine Ev.succ (fun k => by simp only [spec_asHalf.l1]; rw [if_neg (by omega), hw1, hw2]) ?_
    refine Ev.bindc (abs_ok (d := 2 * cnt - A.length) (by omega) (by omega)) ?_
    rw [hc', show absM (2 * cntB i A - A.length) = midV A i from rfl]
    refine Ev.to (fun k => by rw [wrap_succ (i := (i : Int)) (by omega) (by omega)]) ?_
    exact hr
  | x :: B, A, cnt, hA, h0, hc => by
    have hlt : A.length < L.length := by rw [← hA]; simp
    have hrd : rd L (A.length : Int) = x := by rw [← hA]; exact rd_append A B x
    obtain ⟨x0, x1⟩ := hM x (by rw [← hA]; simp)
    obtain ⟨m, rfl⟩ := Int.eq_ofNat_of_zero_le x0
    have hcb := cntB_bounds i L
    have hcB := cntB_bounds i B
    have hcx : cntB i ((m : Int) :: B) = (if m.testBit i = true then 1 else 0) + cntB i B := rfl
    rw [hcx] at hc
    refine Ev.succ (fun k => by simp only [spec_asHalf.l1]; rw [if_pos (by omega), if_pos (by omega), if_pos (by omega), hrd, wrap_succ (i := (A.length : Int)) (by omega) (by omega)]) ?_
    refine Ev.bindc (spIn_ok m i hi) ?_
    by_cases hb : m.testBit i = true
    · rw [if_pos hb] at hc
      have hn := ash_inner hM hl x8 x9 b lst n l i hi r hr B (A ++ [(m : Int)]) (cnt + 1) (by rw [List.append_assoc]; exact hA) (by omega) (by omega)
      rw [List.length_append, List.length_singleton] at hn
      push_cast at hn
      exact Ev.to (fun k => by rw [if_pos hb, wrap_succ (i := cnt) (by omega) (by omega)]) hn
    · rw [if_neg hb] at hc
      have hn := ash_inner hM hl x8 x9 b lst n l i hi r hr B (A ++ [(m : Int)]) cnt (by rw [List.append_assoc]; exact hA) (by omega) (by omega)
      rw [List.length_append, List.length_singleton] at hn
      push_cast at hn
      exact Ev.to (fun k => by rw [if_neg hb]) hn
theorem ash_loop {L : List Int} (hM : ∀ x ∈ L, I128 x) (hl : L.length ≤ 128) (p q o n : Nat) (l : List Int) (hn7 : n ≤ 7) (hp : p < 128) (hq : q < 128) (ho : ∀ j, j < n → o.testBit j = !(p ||| q).testBit j) :
    ∀ (d i : Nat) (b lst : Int), n - i = d → i ≤ n → (0 ≤ b → lst = midV L b.toNat) → Ev (fun k => spec_asHalf.l0 k L p q b lst i n l) (pickN (midV L) o d i b)
  | 0, i, b, lst, hd, hi, hb => by
    show Ev _ b
    exact Ev.succ (fun k => by simp only [spec_asHalf.l0]; rw [if_neg (by omega)]) (Ev.const rfl)
  | d + 1, i, b, lst, hd, hi, hb => by
    have hn := fun b' lst' => ash_loop hM hl p q o n l hn7 hp hq ho d (i + 1) b' lst' (by omega) (by omega)
    push_cast at hn
    refine Ev.succ (fun k => by simp only [spec_asHalf.l0]; rw [if_pos (by omega), bits_or p q (by omega) (by omega)]) ?_
    refine Ev.bindc (spIn_ok (p ||| q) i (by omega)) ?_
    have hoi := ho i (by omega)
    cases hk : (p ||| q).testBit i with
    | true =>
      rw [hk] at hoi
      rw [show pickN (midV L) o (d + 1) i b = pickN (midV L) o d (i + 1) b by show pickN _ o d (i + 1) _ = _; rw [if_neg (by rw [hoi]; decide)]]
      exact Ev.to (fun k => by rw [if_pos rfl, wrap_succ (by omega) (by omega)]) (hn b lst hb)
    | false =>
      rw [hk] at hoi
      refine Ev.to (fun k => by rw [if_neg (by decide)]) ?_
      refine ash_inner hM hl p q b lst n l i (by omega) _ ?_ L [] 0 rfl (by omega) (by omega)
      by_cases h0 : b < 0
      · rw [show pickN (midV L) o (d + 1) i b = pickN (midV L) o d (i + 1) (i : Int) by show pickN _ o d (i + 1) _ = _; rw [if_pos (by rw [hoi]; decide), if_pos h0]]
        exact Ev.to (fun k => by rw [if_pos h0]) (hn (i : Int) (midV L i) (fun _ => by rw [Int.toNat_natCast]))
      · have hbl := hb (by omega)
        by_cases h1 : midV L i < midV L b.toNat
        · rw [show pickN (midV L) o (d + 1) i b = pickN (midV L) o d (i + 1) (i : Int) by show pickN _ o d (i + 1) _ = _; rw [if_pos (by rw [hoi]; decide), if_neg h0, if_pos h1]]
          exact Ev.to (fun k => by rw [if_neg h0, if_pos (by rw [hbl]; exact h1)]) (hn (i : Int) (midV L i) (fun _ => by rw [Int.toNat_natCast]))
        · rw [show pickN (midV L) o (d + 1) i b = pickN (midV L) o d (i + 1) b by show pickN _ o d (i + 1) _ = _; rw [if_pos (by rw [hoi]; decide), if_neg h0, if_neg h1]]
          exact Ev.to (fun k => by rw [if_neg h0, if_neg (by rw [hbl]; exact h1)]) (hn b lst hb)
theorem half_both (n : Int) (l : List Int) (y m : Int) (hlen : l.length < 1048577) : ∃ r, Ev (fun k => spec_HalfQuestion.f k n l y m) r ∧ Ev (fun k => impl_HalfQuestion.f k n l y m) r := by
  unfold spec_HalfQuestion.f impl_HalfQuestion.f
  have hag := asGood_ok n l y m (by omega)
  have hgo := goOn_ok n l y m
  cases hg : goOnB n l y m with
  | false =>
    rw [hg] at hag hgo
    exact ⟨(0, false), Ev.bind hag (Ev.to (fun k => by rw [if_neg (by decide)]) (Ev.const rfl)), Ev.bind hgo (Ev.to (fun k => by rw [if_neg (by decide)]) (Ev.const rfl))⟩
  | true =>
    rw [hg] at hag hgo
    obtain ⟨hS, hy, hm, _⟩ := answersB_parts (goOnB_parts hg)
    obtain ⟨n1, n7, _⟩ := isSpaceB_parts hS
    have hMl := isSpaceB_i128 hS
    have hll := isSpaceB_len hS
    have hal := asLeft_ok (l := l) n hy hm hMl (by omega)
    have hil := left_ok (l := l) n hy hm hMl (by omega)
    have hLl : (leftL l y m).length ≤ 128 := Nat.le_trans (leftL_length l y m) hll
    have hM : ∀ x ∈ leftL l y m, I128 x := fun x hx => hMl x (leftL_sub hx)
    have hMn : ∀ x ∈ leftL l y m, x < 2 ^ n.toNat := fun x hx => (isSpaceB_mem hS x (leftL_sub hx)).2
    generalize leftL l y m = L at *
    by_cases h1 : (L.length : Int) = 1
    · refine ⟨(0, false), ?_, ?_⟩
      · refine Ev.bind hag (Ev.to (fun k => by rw [if_pos rfl]) ?_)
        refine Ev.bind hal (Ev.to (fun k => by rw [if_pos h1]) (Ev.const rfl))
      · refine Ev.bind hgo (Ev.to (fun k => by rw [if_pos rfl]) ?_)
        refine Ev.bind hil (Ev.to (fun k => by rw [if_pos h1]) (Ev.const rfl))
    · have hN : ((n.toNat : Nat) : Int) = n := by omega
      have hp128 := pow128 (n := n) (by omega) n7
      obtain ⟨p, q, hk, hpl, hql, hbit⟩ := knownL_bits L (2 ^ n.toNat - 1) (2 ^ n.toNat - 1)
      have hp2 : 0 < 2 ^ n.toNat := Nat.pow_pos (by decide)
      have hpn : 2 ^ n.toNat ≤ 2 ^ 7 := Nat.pow_le_pow_right (by decide) (by omega)
      have hcast : ((2 ^ n.toNat - 1 : Nat) : Int) = 2 ^ n.toNat - 1 := by rw [Int.natCast_sub hp2]; push_cast; rfl
      rw [hcast] at hk
      have ho : ∀ j, j < n.toNat → (openS L).testBit j = !(p ||| q).testBit j := by
        intro j hj
        unfold openS
        rw [nd_testBit, orA_bit, andA_bit, Nat.testBit_or, (hbit j).1, (hbit j).2, Nat.testBit_two_pow_sub_one, decide_eq_true hj, Nat.zero_testBit, show (127 : Nat) = 2 ^ 7 - 1 from rfl, Nat.testBit_two_pow_sub_one, decide_eq_true (show j < 7 by omega), Bool.true_and, Bool.true_and, Bool.false_or, ← List.not_any_eq_all_not]
        cases (L.any fun x => x.toNat.testBit j) <;> cases (L.all fun x => x.toNat.testBit j) <;> rfl
      have hoz : ∀ j, n.toNat ≤ j → (openS L).testBit j = false := by
        intro j hj
        unfold openS
        rw [nd_testBit, orA_bit, Nat.zero_testBit, Bool.false_or]
        rw [show (L.any fun x => x.toNat.testBit j) = false from by
          rw [List.any_eq_false]
          intro x hx
          have h2 := hMn x hx
          have h3 := (hM x hx).1
          have h4 : x.toNat < 2 ^ n.toNat := by
            have : ((x.toNat : Nat) : Int) < ((2 ^ n.toNat : Nat) : Int) := by push_cast; omega
            exact_mod_cast this
          rw [Nat.testBit_lt_two_pow (Nat.lt_of_lt_of_le h4 (Nat.pow_le_pow_right (by decide) hj))]
          decide]
        rfl
      have hloop := ash_loop hM hLl p q (openS L) n.toNat l (by omega) (by omega) (by omega) ho n.toNat 0 (-1) 0 rfl (by omega) (fun h => absurd h (by decide))
      rw [hN, ← pick_to _ hoz (by omega)] at hloop
      have hV : halfV L (itemsL (openS L : Int)) = pickN (midV L) (openS L) 7 0 (-1) := by
        unfold halfV itemsL
        rw [Int.toNat_natCast, half_pick hM hLl _ _ _ (fun h => absurd h (by decide)), pickL_items]
      refine ⟨(pickN (midV L) (openS L) 7 0 (-1), true), ?_, ?_⟩
      · refine Ev.bind hag (Ev.to (fun k => by rw [if_pos rfl]) ?_)
        refine Ev.bind hal (Ev.to (fun k => by rw [if_neg h1]) ?_)
        refine Ev.bind (a := pickN (midV L) (openS L) 7 0 (-1)) ?_ (Ev.const rfl)
        unfold spec_asHalf.f
        refine Ev.bind hal ?_
        refine Ev.bind (asKnown_ok n1 n7 l L (by omega) hM) ?_
        refine Ev.to (fun k => by rw [hk]) ?_
        exact hloop
      · refine Ev.bind hgo (Ev.to (fun k => by rw [if_pos rfl]) ?_)
        refine Ev.bind hil (Ev.to (fun k => by rw [if_neg h1]) ?_)
        refine Ev.bind (open_ok L hM hLl) ?_
        refine Ev.to (fun k => by rw [if_pos (by
          rw [List.all_eq_true]
          intro i hi
          have := itemsL_mem hi
          simp only [Bool.and_eq_true, decide_eq_true_eq]
          omega), hV]) ?_
        exact Ev.const rfl
theorem FnExactHalfQuestion : PureFnExactHalfQuestion := by
  intro n0 l0 a1 a2 _ _ hl0 _ _
  refine Ev.rounds ?_
  unfold laws_FnExactHalfQuestion.f
  by_cases hb0 : (1048576 : Int) < l0.length
  · refine Ev.bindc (szSpace_over n0 l0 _ (by omega) hl0 hb0 (by omega)) ?_
    exact Ev.to (fun k => by rw [if_pos (by decide)]) (Ev.const rfl)
  · refine Ev.bindc (szSpace_fits n0 l0 _ (by omega) (by omega)) ?_
    refine Ev.to (fun k => by rw [if_neg (by omega)]) ?_
    obtain ⟨⟨r0, r1⟩, h1, h2⟩ := half_both n0 l0 a1 a2 (by omega)
    have a0_ := toSpace_ok n0 l0 (by omega)
    have e0_ := eqSpace_refl n0 l0 (by omega)
    repeat (first | exact Ev.const rfl | (with_reducible refine Ev.bind h1 ?_) | (with_reducible refine Ev.bind h2 ?_) | (with_reducible refine Ev.bind a0_ ?_) | (with_reducible refine Ev.bind e0_ ?_) | refine Ev.to (fun k => by rw [if_pos rfl]) ?_ | refine Ev.to (fun k => by rw [if_neg (by omega)]) ?_ | refine Ev.to (fun k => by rw [if_neg (by simp)]) ?_ | refine Ev.succ (fun k => by simp only [laws_FnExactHalfQuestion.j0]; rw [if_neg (by simp)]) ?_ | refine Ev.succ (fun k => by simp only [laws_FnExactHalfQuestion.j1]; rw [if_neg (by simp)]) ?_ | refine Ev.succ (fun k => by simp only [laws_FnExactHalfQuestion.j2]; rw [if_neg (by simp)]) ?_ | refine Ev.succ (fun k => by simp only [laws_FnExactHalfQuestion.j3]; rw [if_neg (by simp)]) ?_)


end Go.Proofs.Ytpilnkaiepdemaa.Q
