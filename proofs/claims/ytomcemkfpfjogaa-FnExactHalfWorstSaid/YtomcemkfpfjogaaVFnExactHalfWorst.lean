/- The pure side of the law FnExactHalfWorst: the program and the reference tell the same greatest length of a run by halving. Conditions: none. -/
import Derived.Test.YtomcemkfpfjogaaPx1
import Derived.Test.YtomcemkfpfjogaaPx2
import Derived.Test.YtomcemkfpfjogaaPx3
import Derived.Test.YtomcemkfpfjogaaPx4
import Derived.Test.YtomcemkfpfjogaaPx5
import Derived.Test.YtomcemkfpfjogaaPx6
import Derived.Test.YtomcemkfpfjogaaOpens
namespace Go.Proofs.Ytomcemkfpfjogaa.Q
open Go.RowKit Go.Proofs.Ytomcemkfpfjogaa.Opens Go.Proofs.YtomcemkfpfjogaaW.PrintWords Go.Proofs.YtomcemkfpfjogaaW.PrintLast Go.Proofs.YtomcemkfpfjogaaW.PrintMore
set_option linter.unusedVariables false
set_option linter.unusedSimpArgs false

/-- THE ONE PURE STATEMENT of FnExactHalfWorst. -/
def PureFnExactHalfWorst : Prop := ∀ (a0_0 : Int) (l0_1 : List Int), Int64 a0_0 → AllOk Int64 l0_1 → l0_1.length ≤ 9223372036854775807 → ∃ k, laws_FnExactHalfWorst.f k a0_0 l0_1 = some true
/-- What is asked next. -/
def halfN (l : List Int) (y m : Nat) : Int := pickN (midV (leftL l y m)) (openS (leftL l y m)) 7 0 (-1)
theorem halfΦ_at {n : Int} {l : List Int} (hS : isSpaceB n l = true) {y m : Nat} (hy : y < 128) (hm : m < 128) : FnII.f (halfΦ n l) (y : Int) (m : Int) = some (halfN l y m) := by
  have hMl := isSpaceB_i128 hS
  have hLl : (leftL l y m).length ≤ 128 := Nat.le_trans (leftL_length l y m) (isSpaceB_len hS)
  have hM : ∀ x ∈ leftL l y m, I128 x := fun x hx => hMl x (leftL_sub hx)
  unfold FnII.f halfΦ halfN
  rw [if_pos ⟨hS, ⟨by omega, by omega⟩, by omega, by omega⟩]
  refine congrArg some ?_
  unfold halfV itemsL
  rw [Int.toNat_natCast, half_pick hM hLl _ _ _ (fun h => absurd h (by decide)), pickL_items]
theorem keeps_iff (y m : Nat) (a : Int) : keeps y m a = true ↔ (∀ j, y.testBit j = true → a.toNat.testBit j = true) ∧ ∀ j, ¬ (a.toNat.testBit j = true ∧ m.testBit j = true) := by
  unfold keeps
  rw [Int.toNat_natCast, Int.toNat_natCast, Bool.and_eq_true, decide_eq_true_eq, decide_eq_true_eq]
  refine and_congr ⟨fun h => sub_of_nd h, fun h => nd_of_sub h⟩ ⟨fun h j hj => ?_, fun h => ?_⟩
  · have h2 : (a.toNat &&& m).testBit j = false := by rw [h, Nat.zero_testBit]
    rw [Nat.testBit_and, hj.1, hj.2] at h2
    cases h2
  · apply Nat.eq_of_testBit_eq
    intro j
    rw [Nat.zero_testBit, Nat.testBit_and, Bool.eq_false_iff]
    intro h2
    rw [Bool.and_eq_true] at h2
    exact h j h2
theorem or_two (y j i : Nat) : (y ||| 2 ^ j).testBit i = (y.testBit i || decide (j = i)) := by
  rw [Nat.testBit_or, Nat.testBit_two_pow]
theorem keeps_yes (y m j : Nat) (a : Int) : keeps ((y ||| 2 ^ j : Nat) : Int) m a = (a.toNat.testBit j && keeps y m a) := by
  rw [Bool.eq_iff_iff, Bool.and_eq_true, keeps_iff, keeps_iff]
  constructor
  · rintro ⟨h1, h2⟩
    exact ⟨h1 j (or_on y j), fun i hi => h1 i (by rw [or_two, hi, Bool.true_or]), h2⟩
  · rintro ⟨h0, h1, h2⟩
    refine ⟨fun i hi => ?_, h2⟩
    rw [or_two, Bool.or_eq_true] at hi
    rcases hi with hi | hi
    · exact h1 i hi
    · rw [← of_decide_eq_true hi]; exact h0
theorem keeps_no (y m j : Nat) (a : Int) : keeps (y : Int) ((m ||| 2 ^ j : Nat) : Int) a = (!a.toNat.testBit j && keeps y m a) := by
  rw [Bool.eq_iff_iff, Bool.and_eq_true, keeps_iff, keeps_iff, Bool.not_eq_true']
  constructor
  · rintro ⟨h1, h2⟩
    refine ⟨Bool.eq_false_iff.2 (fun hb => h2 j ⟨hb, or_on m j⟩), h1, fun i hi => h2 i ⟨hi.1, by rw [or_two, hi.2, Bool.true_or]⟩⟩
  · rintro ⟨h0, h1, h2⟩
    refine ⟨h1, fun i hi => ?_⟩
    have h3 := hi.2
    rw [or_two, Bool.or_eq_true] at h3
    rcases h3 with h3 | h3
    · exact h2 i ⟨hi.1, h3⟩
    · have h4 := hi.1
      rw [← of_decide_eq_true h3, h0] at h4
      cases h4
theorem openS_bit {L : List Int} (hM : ∀ x ∈ L, I128 x) {j : Nat} (h : (openS L).testBit j = true) : j < 7 ∧ (∃ a ∈ L, a.toNat.testBit j = true) ∧ ∃ a ∈ L, a.toNat.testBit j = false := by
  unfold openS at h
  rw [nd_testBit, orA_bit, andA_bit, Nat.zero_testBit, Bool.false_or, Bool.and_eq_true, Bool.not_eq_true', List.any_eq_true] at h
  obtain ⟨⟨a, ha, hb⟩, h2⟩ := h
  have hj : j < 7 := by
    apply Classical.byContradiction
    intro hc
    have h3 := hM a ha
    have h4 : a.toNat < 2 ^ 7 := by have := h3.1; have := h3.2; omega
    have := Nat.testBit_lt_two_pow (Nat.lt_of_lt_of_le h4 (Nat.pow_le_pow_right (by decide) (Nat.le_of_not_lt hc)))
    rw [hb] at this
    cases this
  rw [show (127 : Nat) = 2 ^ 7 - 1 from rfl, Nat.testBit_two_pow_sub_one, decide_eq_true hj, Bool.true_and] at h2
  refine ⟨hj, ⟨a, ha, hb⟩, ?_⟩
  apply Classical.byContradiction
  intro hc
  have hall : (L.all fun x => x.toNat.testBit j) = true := by
    rw [List.all_eq_true]
    intro x hx
    cases hx2 : x.toNat.testBit j with
    | true => rfl
    | false => exact absurd ⟨x, hx, hx2⟩ hc
  rw [hall] at h2
  cases h2
/-- Where just one set is left nothing is asked. -/
theorem openS_one {L : List Int} (hM : ∀ x ∈ L, I128 x) (h : L.length ≤ 1) (j : Nat) : (openS L).testBit j = false := by
  rw [Bool.eq_false_iff]
  intro hb
  obtain ⟨_, ⟨a, ha, hab⟩, b, hb2, hbb⟩ := openS_bit hM hb
  match L, h, ha, hb2 with
  | [x], _, ha, hb2 =>
    rw [List.mem_singleton.1 ha] at hab
    rw [List.mem_singleton.1 hb2, hab] at hbb
    cases hbb
/-- Where two are left something is asked. -/
theorem openS_two {L : List Int} (hM : ∀ x ∈ L, I128 x) (hp : L.Pairwise (· < ·)) (h : 1 < L.length) : ∃ j, j < 7 ∧ (openS L).testBit j = true := by
  match L, h, hp, hM with
  | a :: b :: t, _, hp, hM =>
    have hab : a < b := (List.pairwise_cons.1 hp).1 b (by simp)
    have hA := hM a (by simp)
    have hB := hM b (by simp)
    have a0 := hA.1
    have b0 := hB.1
    have b1 := hB.2
    have hne : ∃ j, a.toNat.testBit j ≠ b.toNat.testBit j := by
      apply Classical.byContradiction
      intro hc
      have : a.toNat = b.toNat := Nat.eq_of_testBit_eq (fun j => Classical.byContradiction (fun h => hc ⟨j, h⟩))
      omega
    obtain ⟨j, hj⟩ := hne
    have hor : ((a :: b :: t).any fun x => x.toNat.testBit j) = true := by
      rw [List.any_eq_true]
      cases h1 : a.toNat.testBit j with
      | true => exact ⟨a, by simp, h1⟩
      | false => exact ⟨b, by simp, by cases h2 : b.toNat.testBit j with
        | true => rfl
        | false => exact absurd (h1.trans h2.symm) hj⟩
    have hand : ((a :: b :: t).all fun x => x.toNat.testBit j) = false := by
      rw [List.all_eq_false]
      cases h1 : a.toNat.testBit j with
      | false => exact ⟨a, by simp, by rw [h1]; decide⟩
      | true => exact ⟨b, by simp, by cases h2 : b.toNat.testBit j with
        | false => decide
        | true => exact absurd (h1.trans h2.symm) hj⟩
    have hbit : (openS (a :: b :: t)).testBit j = true := by
      unfold openS
      rw [nd_testBit, orA_bit, andA_bit, hor, hand, Bool.or_true, Bool.and_false]
      rfl
    exact ⟨j, (openS_bit hM hbit).1, hbit⟩
theorem filter_less {L : List Int} {p : Int → Bool} {a : Int} (ha : a ∈ L) (hp : p a = false) : (L.filter p).length < L.length :=
  List.length_filter_lt_length_iff_exists.2 ⟨a, ha, by rw [hp]; decide⟩
theorem run_both {n : Int} {l : List Int} (hS : isSpaceB n l = true) (hlen : l.length < 1048577) (x : Nat) (hx : (x : Int) ∈ l) :
    ∀ (d y m : Nat) (out : List Int), (leftL l y m).length ≤ d → keeps y m (x : Int) = true → y < 128 → m < 128 → out.length + d ≤ 1000 → ∃ r, Ev (fun k => spec_asRun.l0 k 0 x true out y m n l) r ∧ Ev (fun k => impl_run.l0 k x (halfΦ n l) out y m (halfN l y m)) r := by
  have hMl := isSpaceB_i128 hS
  have hrise := (risingB_rise (isSpaceB_parts hS).2.2.2.1).inc
  have hx128 : x < 128 := by have := (hMl _ hx).2; omega
  intro d
  induction d with
  | zero =>
    intro y m out hd hk hy hm ho
    have : 0 < (leftL l y m).length := List.length_pos_of_mem (List.mem_filter.2 ⟨hx, hk⟩)
    omega
  | succ d ih =>
    intro y m out hd hk hy hm ho
    have hM : ∀ x ∈ leftL l y m, I128 x := fun x hx => hMl x (leftL_sub hx)
    have hal := asLeft_ok (l := l) n (y := (y : Int)) (n := (m : Int)) ⟨by omega, by omega⟩ ⟨by omega, by omega⟩ hMl (by omega)
    by_cases h1 : 1 < (leftL l y m).length
    · obtain ⟨j0, hj07, hj0⟩ := openS_two hM (List.Pairwise.filter _ hrise) h1
      have hpos := pickN_pos (midV (leftL l y m)) (openS (leftL l y m)) 7 0 (-1) (.inr ⟨j0, by omega, by omega, hj0⟩)
      obtain ⟨j, hj7, hjb, hjN⟩ : ∃ j : Nat, j < 7 ∧ (openS (leftL l y m)).testBit j = true ∧ halfN l y m = (j : Int) := by
        rcases pickN_cases (midV (leftL l y m)) (openS (leftL l y m)) 7 0 (-1) with h | ⟨j, _, hj, hjb, h⟩
        · rw [h] at hpos
          exact absurd hpos (by decide)
        · exact ⟨j, by omega, hjb, h⟩
      obtain ⟨_, ⟨a, ha, hab⟩, b, hb, hbb⟩ := openS_bit hM hjb
      have hah := asHalf_ok hS hlen (y := (y : Int)) (m := (m : Int)) ⟨by omega, by omega⟩ ⟨by omega, by omega⟩
      rw [show pickN (midV (leftL l y m)) (openS (leftL l y m)) 7 0 (-1) = (j : Int) from hjN] at hah
      have h2j : 2 ^ j < 128 := two_lt128 hj7
      have hby : Go.bits .or .i64 (y : Int) (shl .i64 1 (j : Int)) = ((y ||| 2 ^ j : Nat) : Int) := by rw [shl_nat (by omega) (by omega), Int.toNat_natCast, bits_or y (2 ^ j) (by omega) (by omega)]
      have hbm : Go.bits .or .i64 (m : Int) (shl .i64 1 (j : Int)) = ((m ||| 2 ^ j : Nat) : Int) := by rw [shl_nat (by omega) (by omega), Int.toNat_natCast, bits_or m (2 ^ j) (by omega) (by omega)]
      have hyl : y ||| 2 ^ j < 128 := Nat.or_lt_two_pow (n := 7) hy h2j
      have hml : m ||| 2 ^ j < 128 := Nat.or_lt_two_pow (n := 7) hm h2j
      have hbit : Go.bits .and .i64 (shr .i64 (x : Int) (j : Int)) 1 = if x.testBit j then 1 else 0 := by rw [shr_nat x j (by omega), bit_and x j (by omega)]
      rw [hjN]
      have hlong : (1 : Int) < (leftL l y m).length := by omega
      have holen : out.length < 17592186044416 := by omega
      by_cases hxb : x.testBit j = true
      · have hless : (leftL l ((y ||| 2 ^ j : Nat) : Int) m).length < (leftL l y m).length := by
          rw [show leftL l ((y ||| 2 ^ j : Nat) : Int) m = (leftL l y m).filter (fun a => a.toNat.testBit j) from by
            unfold leftL
            rw [List.filter_filter]
            exact List.filter_congr (fun a _ => keeps_yes y m j a)]
          exact filter_less hb hbb
        obtain ⟨r, hr1, hr2⟩ := ih (y ||| 2 ^ j) m (out ++ [(j : Int)]) (by omega) (by rw [keeps_yes, hk, Int.toNat_natCast, hxb]; rfl) hyl hm (by rw [List.length_append, List.length_singleton]; omega)
        refine ⟨r, ?_, ?_⟩
        · refine Ev.succ (fun k => by simp only [spec_asRun.l0]; rfl) ?_
          refine Ev.bind hal ?_
          refine Ev.to (fun k => by rw [if_pos hlong, if_pos trivial]) ?_
          refine Ev.bind hah ?_
          refine Ev.to (fun k => by rw [if_pos holen]) ?_
          refine Ev.bindc rfl ?_
          refine Ev.bindc (spIn_ok x j (by omega)) ?_
          exact Ev.to (fun k => by rw [if_pos hxb, if_pos (Int.natCast_nonneg _), hby]) hr1
        · refine Ev.succ (fun k => by simp only [impl_run.l0]; rw [if_pos (Int.natCast_nonneg _), if_pos holen]) ?_
          refine Ev.bindc rfl ?_
          refine Ev.to (fun k => by rw [if_pos (Int.natCast_nonneg _), hbit, hxb, if_pos rfl, hby]) ?_
          refine Ev.bindc (halfΦ_at hS hyl hm) ?_
          exact hr2
      · have hxf : x.testBit j = false := Bool.eq_false_iff.2 hxb
        have hless : (leftL l y ((m ||| 2 ^ j : Nat) : Int)).length < (leftL l y m).length := by
          rw [show leftL l y ((m ||| 2 ^ j : Nat) : Int) = (leftL l y m).filter (fun a => !a.toNat.testBit j) from by
            unfold leftL
            rw [List.filter_filter]
            exact List.filter_congr (fun a _ => keeps_no y m j a)]
          exact filter_less ha (by rw [hab]; rfl)
        obtain ⟨r, hr1, hr2⟩ := ih y (m ||| 2 ^ j) (out ++ [(j : Int)]) (by omega) (by rw [keeps_no, hk, Int.toNat_natCast, hxf]; rfl) hy hml (by rw [List.length_append, List.length_singleton]; omega)
        refine ⟨r, ?_, ?_⟩
        · refine Ev.succ (fun k => by simp only [spec_asRun.l0]; rfl) ?_
          refine Ev.bind hal ?_
          refine Ev.to (fun k => by rw [if_pos hlong, if_pos trivial]) ?_
          refine Ev.bind hah ?_
          refine Ev.to (fun k => by rw [if_pos holen]) ?_
          refine Ev.bindc rfl ?_
          refine Ev.bindc (spIn_ok x j (by omega)) ?_
          exact Ev.to (fun k => by rw [if_neg hxb, if_pos (Int.natCast_nonneg _), hbm]) hr1
        · refine Ev.succ (fun k => by simp only [impl_run.l0]; rw [if_pos (Int.natCast_nonneg _), if_pos holen]) ?_
          refine Ev.bindc rfl ?_
          refine Ev.to (fun k => by rw [if_pos (Int.natCast_nonneg _), hbit, hxf, if_neg (by decide), hbm]) ?_
          refine Ev.bindc (halfΦ_at hS hy hml) ?_
          exact hr2
    · have hnone := openS_one hM (by omega)
      have hN : halfN l y m = -1 := pickN_none _ _ _ _ _ (fun j _ => hnone j)
      have hshort : ¬ ((leftL l y m).length : Int) > 1 := by omega
      rw [hN]
      refine ⟨out, ?_, ?_⟩
      · refine Ev.succ (fun k => by simp only [spec_asRun.l0]; rfl) ?_
        refine Ev.bind hal ?_
        exact Ev.to (fun k => by rw [if_neg hshort]) (Ev.const rfl)
      · exact Ev.succ (fun k => by simp only [impl_run.l0]; rw [if_neg (by decide)]) (Ev.const rfl)
theorem most_ok (a b : Int) : spec_l1Most.f a b = some (if a < b then b else a) := by
  unfold spec_l1Most.f
  by_cases h : a > b
  · rw [if_pos h, if_neg (by omega)]
  · rw [if_neg h]
    by_cases h2 : a < b
    · rw [if_pos h2]
    · rw [if_neg h2, show a = b by omega]
theorem worst_loop {n : Int} {l : List Int} (hS : isSpaceB n l = true) (hlen : l.length < 1048577) : ∀ (d i : Nat) (a : Int), l.length - i = d → i ≤ l.length → ∃ r, Ev (fun k => spec_HalfWorst.l0 k a l l.length i n l) r ∧ Ev (fun k => impl_HalfWorst.l0 (halfΦ n l) l k a i) r
  | 0, i, a, hd, hi => ⟨(a, true), Ev.succ (fun k => by simp only [spec_HalfWorst.l0]; rw [if_neg (by omega)]) (Ev.const rfl), Ev.succ (fun k => by simp only [impl_HalfWorst.l0]; rw [if_neg (by omega)]) (Ev.const rfl)⟩
  | d + 1, i, a, hd, hi => by
    have hlt : (i : Int) < l.length := by omega
    have hws : wrap64 ((i : Int) + 1) = i + 1 := wrap_succ (by omega) (by omega)
    have hmem := rd_mem (l := l) (Int.natCast_nonneg i) hlt
    obtain ⟨x, hx⟩ := Int.eq_ofNat_of_zero_le (isSpaceB_128 hS _ hmem).1
    rw [hx] at hmem
    have hll := isSpaceB_len hS
    obtain ⟨t, ht1, ht2⟩ := run_both hS hlen x hmem (leftL l ((0 : Nat) : Int) ((0 : Nat) : Int)).length 0 0 [] (Nat.le_refl _) ((keeps_iff 0 0 (x : Int)).2 ⟨fun j hj => (by rw [Nat.zero_testBit] at hj; cases hj), fun j hj => (by have := hj.2; rw [Nat.zero_testBit] at this; cases this)⟩) (by decide) (by decide) (by have := leftL_length l ((0 : Nat) : Int) ((0 : Nat) : Int); simp only [List.length_nil]; omega)
    obtain ⟨r, hr1, hr2⟩ := worst_loop hS hlen d (i + 1) (if a < (t.length : Int) then (t.length : Int) else a) (by omega) (by omega)
    push_cast at hr1 hr2
    refine ⟨r, ?_, ?_⟩
    · refine Ev.succ (fun k => by simp only [spec_HalfWorst.l0]; rw [if_pos hlt, if_pos (Int.natCast_nonneg _), if_pos hlt, hws, hx]) ?_
      refine Ev.bind (a := t) ht1 ?_
      refine Ev.bindc (most_ok _ _) ?_
      exact hr1
    · refine Ev.succ (fun k => by simp only [impl_HalfWorst.l0]; rw [if_pos hlt, hx]) ?_
      refine Ev.bind (a := t) ?_ hr2
      unfold impl_run.f
      refine Ev.bindc (halfΦ_at hS (y := 0) (m := 0) (by decide) (by decide)) ?_
      exact ht2
theorem halfWorst_both (n : Int) (l : List Int) (hlen : l.length < 1048577) : ∃ r, Ev (fun k => spec_HalfWorst.f k n l) r ∧ Ev (fun k => impl_HalfWorst.f k n l) r := by
  unfold spec_HalfWorst.f impl_HalfWorst.f
  cases hS : isSpaceB n l with
  | false =>
    refine ⟨(0, false), ?_, ?_⟩
    · refine Ev.bind (spGood_ok n l (by omega)) ?_
      exact Ev.to (fun k => by rw [hS, if_neg (by decide)]) (Ev.const rfl)
    · exact Ev.to (fun k => by rw [if_neg (by decide)]) (Ev.const rfl)
  | true =>
    obtain ⟨r, h1, h2⟩ := worst_loop hS hlen l.length 0 0 (by omega) (by omega)
    refine ⟨r, ?_, ?_⟩
    · refine Ev.bind (spGood_ok n l (by omega)) ?_
      refine Ev.to (fun k => by rw [hS, if_pos rfl]) ?_
      exact h1
    · refine Ev.to (fun k => by rw [if_pos rfl]) ?_
      exact h2
theorem FnExactHalfWorst : PureFnExactHalfWorst := by
  intro n0 l0 _ _ hl0
  refine Ev.rounds ?_
  unfold laws_FnExactHalfWorst.f
  by_cases hb0 : (1048576 : Int) < l0.length
  · refine Ev.bindc (szSpace_over n0 l0 _ (by omega) hl0 hb0 (by omega)) ?_
    exact Ev.to (fun k => by rw [if_pos (by decide)]) (Ev.const rfl)
  · refine Ev.bindc (szSpace_fits n0 l0 _ (by omega) (by omega)) ?_
    refine Ev.to (fun k => by rw [if_neg (by omega)]) ?_
    obtain ⟨⟨r0, r1⟩, h1, h2⟩ := halfWorst_both n0 l0 (by omega)
    have a0_ := toSpace_ok n0 l0 (by omega)
    have e0_ := eqSpace_refl n0 l0 (by omega)
    repeat (first | exact Ev.const rfl | (with_reducible refine Ev.bind h1 ?_) | (with_reducible refine Ev.bind h2 ?_) | (with_reducible refine Ev.bind a0_ ?_) | (with_reducible refine Ev.bind e0_ ?_) | refine Ev.to (fun k => by rw [if_pos rfl]) ?_ | refine Ev.to (fun k => by rw [if_neg (by omega)]) ?_ | refine Ev.to (fun k => by rw [if_neg (by simp)]) ?_ | refine Ev.succ (fun k => by simp only [laws_FnExactHalfWorst.j0]; rw [if_neg (by simp)]) ?_ | refine Ev.succ (fun k => by simp only [laws_FnExactHalfWorst.j1]; rw [if_neg (by simp)]) ?_ | refine Ev.succ (fun k => by simp only [laws_FnExactHalfWorst.j2]; rw [if_neg (by simp)]) ?_ | refine Ev.succ (fun k => by simp only [laws_FnExactHalfWorst.j3]; rw [if_neg (by simp)]) ?_)


end Go.Proofs.Ytomcemkfpfjogaa.Q
