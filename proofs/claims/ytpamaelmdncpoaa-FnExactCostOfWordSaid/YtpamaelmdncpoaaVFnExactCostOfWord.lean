/- The pure side of the law FnExactCostOfWord: the program and the reference tell the same cost of a word. Conditions: none. -/
import Derived.Test.YtpamaelmdncpoaaPx1
import Derived.Test.YtpamaelmdncpoaaPx3
import Derived.Test.YtpamaelmdncpoaaPx4
import Derived.Test.YtpamaelmdncpoaaPx5
import Derived.Test.YtpamaelmdncpoaaPx6
import Derived.Test.YtpamaelmdncpoaaPx7
import Derived.Test.YtpamaelmdncpoaaOpens
namespace Go.Proofs.Ytpamaelmdncpoaa.Q
open Go.RowKit Go.Proofs.Ytpamaelmdncpoaa.Opens Go.Proofs.YtpamaelmdncpoaaW.PrintWords Go.Proofs.YtpamaelmdncpoaaW.PrintLast Go.Proofs.YtpamaelmdncpoaaW.PrintMore
set_option linter.unusedVariables false
set_option linter.unusedSimpArgs false

/-- THE ONE PURE STATEMENT of FnExactCostOfWord. -/
def PureFnExactCostOfWord : Prop := ∀ (a0_0 : Int) (l0_1 : List Int) (l1 : List (S63)) (l2 : List Int), Int64 a0_0 → AllOk Int64 l0_1 → l0_1.length ≤ 9223372036854775807 → AllOk (fun x : S63 => Int64 x.f0 ∧ Int64 x.f1 ∧ Int64 x.f2) l1 → l1.length ≤ 9223372036854775807 → AllOk Int64 l2 → l2.length ≤ 9223372036854775807 → ∃ k, laws_FnExactCostOfWord.f k a0_0 l0_1 l1 l2 = some true
/-- Is a list, behind a set, a word of the space? -/
def wordB (n : Int) (F : List Bool) : Nat → List Int → Bool
  | _, [] => true
  | x, i :: B => (((decide (0 ≤ i) && decide (i ≤ n - 1)) && !x.testBit i.toNat) && F.getD (x ||| 2 ^ i.toNat) false) && wordB n F (x ||| 2 ^ i.toNat) B
/-- Are the sets of its beginnings in the space? -/
def prefixB (l : List Int) : Nat → List Int → Bool
  | _, [] => true
  | x, i :: B => decide (((x ||| 2 ^ i.toNat : Nat) : Int) ∈ l) && prefixB l (x ||| 2 ^ i.toNat) B
theorem setOf_loop {n : Int} {l : List Int} (hS : isSpaceB n l = true) (G : List Int) (hGl : G.length < 4611686018427387904) : ∀ (B A : List Int) (x : Nat), A ++ B = G → x < 128 → ∃ y : Int, Ev (fun k => impl_Space_setOf.l0 k (famOf l) x G G.length A.length n l) (y, wordB n (famOf l) x B)
  | [], A, x, hA, hx => by
    rw [List.append_nil] at hA
    subst hA
    exact ⟨x, show Ev _ ((x : Int), true) from Ev.succ (fun k => by simp only [impl_Space_setOf.l0]; rw [if_neg (by omega)]) (Ev.const rfl)⟩
  | i :: B, A, x, hA, hx => by
    obtain ⟨n1, n7, _⟩ := isSpaceB_parts hS
    have hlt : A.length < G.length := by rw [← hA]; simp
    have hrd : rd G (A.length : Int) = i := by rw [← hA]; exact rd_append A B i
    have hws : wrap64 ((A.length : Int) + 1) = A.length + 1 := wrap_succ (by omega) (by omega)
    have hw : wrap64 (n - 1) = n - 1 := wrap_in (by omega) (by omega)
    by_cases hi : 0 ≤ i ∧ i ≤ n - 1
    · have hin : (decide (0 ≤ i) && decide (i ≤ n - 1)) = true := by simp [hi]
      obtain ⟨i, rfl⟩ := Int.eq_ofNat_of_zero_le hi.1
      have h2i : 2 ^ i < 128 := two_lt128 (by omega)
      have hy : x ||| 2 ^ i < 128 := Nat.or_lt_two_pow (n := 7) hx h2i
      have hbits : Go.bits .or .i64 (x : Int) (shl .i64 1 (i : Int)) = ((x ||| 2 ^ i : Nat) : Int) := by rw [shl_nat (by omega) (by omega), Int.toNat_natCast, bits_or x (2 ^ i) (by omega) (by omega)]
      cases hb : x.testBit i with
      | true =>
        refine ⟨0, ?_⟩
        rw [show wordB n (famOf l) x ((i : Int) :: B) = false by simp [wordB, hb]]
        refine Ev.succ (fun k => by simp only [impl_Space_setOf.l0]; rw [if_pos (by omega), if_pos (by omega), if_pos (by omega), hrd, hw]) ?_
        refine Ev.bindc (within_ok _ _ _) ?_
        exact Ev.to (fun k => by rw [hin, if_pos rfl, if_pos (by omega), shr_nat x i (by omega), bit_and x i (lt63 hx), hb, if_pos (show (if true = true then (1 : Int) else 0) = 1 from rfl)]) (Ev.const rfl)
      | false =>
        have hrf : rdOf false (famOf l) ((x ||| 2 ^ i : Nat) : Int) = (famOf l).getD (x ||| 2 ^ i) false := by
          show (famOf l).getD (((x ||| 2 ^ i : Nat) : Int)).toNat false = _
          rw [Int.toNat_natCast]
        cases hf : (famOf l).getD (x ||| 2 ^ i) false with
        | false =>
          refine ⟨0, ?_⟩
          rw [show wordB n (famOf l) x ((i : Int) :: B) = false by simp only [wordB, Int.toNat_natCast]; rw [hf]; simp]
          refine Ev.succ (fun k => by simp only [impl_Space_setOf.l0]; rw [if_pos (by omega), if_pos (by omega), if_pos (by omega), hrd, hw]) ?_
          refine Ev.bindc (within_ok _ _ _) ?_
          exact Ev.to (fun k => by rw [hin, if_pos rfl, if_pos (by omega), shr_nat x i (by omega), bit_and x i (lt63 hx), hb, if_neg (show ¬ (if false = true then (1 : Int) else 0) = 1 by decide), hbits, if_pos (by omega), if_pos (by omega), hrf, hf, if_neg (by decide)]) (Ev.const rfl)
        | true =>
          obtain ⟨y, h⟩ := setOf_loop hS G hGl B (A ++ [(i : Int)]) (x ||| 2 ^ i) (by rw [List.append_assoc]; exact hA) hy
          rw [List.length_append, List.length_singleton] at h
          push_cast at h
          refine ⟨y, ?_⟩
          rw [show wordB n (famOf l) x ((i : Int) :: B) = wordB n (famOf l) (x ||| 2 ^ i) B by simp only [wordB, Int.toNat_natCast]; rw [hf, hb, hin]; rfl]
          refine Ev.succ (fun k => by simp only [impl_Space_setOf.l0]; rw [if_pos (by omega), if_pos (by omega), if_pos (by omega), hrd, hw, hws]) ?_
          refine Ev.bindc (within_ok _ _ _) ?_
          exact Ev.to (fun k => by rw [hin, if_pos rfl, if_pos (by omega), shr_nat x i (by omega), bit_and x i (lt63 hx), hb, if_neg (show ¬ (if false = true then (1 : Int) else 0) = 1 by decide), hbits, if_pos (by omega), if_pos (by omega), hrf, hf, if_pos rfl]) h
    · have hin : (decide (0 ≤ i) && decide (i ≤ n - 1)) = false := by simp; omega
      refine ⟨0, ?_⟩
      rw [show wordB n (famOf l) x (i :: B) = false by simp only [wordB]; rw [hin]; rfl]
      refine Ev.succ (fun k => by simp only [impl_Space_setOf.l0]; rw [if_pos (by omega), if_pos (by omega), if_pos (by omega), hrd, hw]) ?_
      refine Ev.bindc (within_ok _ _ _) ?_
      exact Ev.to (fun k => by rw [hin, if_neg (by decide)]) (Ev.const rfl)
theorem grWord_loop {n : Int} {l : List Int} (hS : isSpaceB n l = true) (G : List Int) (hGl : G.length < 4611686018427387904) (hG : ∀ i ∈ G, 0 ≤ i ∧ i < n) : ∀ (B A : List Int) (x : Nat), A ++ B = G → x < 128 → Ev (fun k => spec_grWord.l0 k x G G.length A.length n l) (prefixB l x B)
  | [], A, x, hA, hx => by
    rw [List.append_nil] at hA
    subst hA
    exact show Ev _ true from Ev.succ (fun k => by simp only [spec_grWord.l0]; rw [if_neg (by omega)]) (Ev.const rfl)
  | i :: B, A, x, hA, hx => by
    obtain ⟨n1, n7, _⟩ := isSpaceB_parts hS
    have hlt : A.length < G.length := by rw [← hA]; simp
    have hrd : rd G (A.length : Int) = i := by rw [← hA]; exact rd_append A B i
    have hws : wrap64 ((A.length : Int) + 1) = A.length + 1 := wrap_succ (by omega) (by omega)
    obtain ⟨i0, i1⟩ := hG i (by rw [← hA]; simp)
    have h2i : 2 ^ i.toNat < 128 := two_lt128 (by omega)
    have hy : x ||| 2 ^ i.toNat < 128 := Nat.or_lt_two_pow (n := 7) hx h2i
    have hbits : Go.bits .or .i64 (x : Int) (shl .i64 1 i) = ((x ||| 2 ^ i.toNat : Nat) : Int) := by rw [shl_nat i0 (by omega), bits_or x (2 ^ i.toNat) (by omega) (by omega)]
    have h := grWord_loop hS G hGl hG B (A ++ [i]) (x ||| 2 ^ i.toNat) (by rw [List.append_assoc]; exact hA) hy
    rw [List.length_append, List.length_singleton] at h
    push_cast at h
    have hlen := isSpaceB_len hS
    refine Ev.succ (fun k => by simp only [spec_grWord.l0]; rw [if_pos (by omega), if_pos (by omega), if_pos (by omega), hrd, if_pos i0, hbits, hws]) ?_
    refine Ev.bind (spHas_ok (risingB_rise (isSpaceB_parts hS).2.2.2.1) (by omega) _) ?_
    by_cases hm : ((x ||| 2 ^ i.toNat : Nat) : Int) ∈ l
    · rw [show prefixB l x (i :: B) = prefixB l (x ||| 2 ^ i.toNat) B by simp only [prefixB]; rw [decide_eq_true hm, Bool.true_and]]
      exact Ev.to (fun k => by rw [if_pos (decide_eq_true hm)]) h
    · rw [show prefixB l x (i :: B) = false by simp only [prefixB]; rw [decide_eq_false hm, Bool.false_and]]
      exact Ev.to (fun k => by rw [if_neg (by simpa using hm)]) (Ev.const rfl)
theorem word_prefix {n : Int} {l : List Int} (n7 : n ≤ 7) : ∀ (B : List Int) (x : Nat), x < 128 → (∀ i ∈ B, 0 ≤ i ∧ i < n) → (∀ i ∈ B, x.testBit i.toNat = false) → B.Nodup → wordB n (famOf l) x B = prefixB l x B
  | [], _, _, _, _, _ => rfl
  | i :: B, x, hx, hR, hb, hn => by
    obtain ⟨i0, i1⟩ := hR i (by simp)
    rw [List.nodup_cons] at hn
    have h2i : 2 ^ i.toNat < 128 := two_lt128 (by omega)
    have hy : x ||| 2 ^ i.toNat < 128 := Nat.or_lt_two_pow (n := 7) hx h2i
    have ih := word_prefix (l := l) n7 B (x ||| 2 ^ i.toNat) hy (fun j hj => hR j (by simp [hj])) (fun j hj => by
      have hjR := hR j (by simp [hj])
      rw [Nat.testBit_or, Nat.testBit_two_pow, hb j (by simp [hj]), Bool.false_or, decide_eq_false_iff_not]
      intro e
      exact hn.1 (by rw [show i = j by omega]; exact hj)) hn.2
    simp only [wordB, prefixB]
    rw [ih, hb i (by simp), famOf_getD l _ hy, decide_eq_true i0, decide_eq_true (show i ≤ n - 1 by omega)]
    rfl
theorem word_facts {n : Int} {F : List Bool} : ∀ (B : List Int) (x : Nat), wordB n F x B = true → (∀ i ∈ B, (0 ≤ i ∧ i < n) ∧ x.testBit i.toNat = false) ∧ B.Nodup
  | [], _, _ => ⟨fun i h => absurd h (by simp), List.nodup_nil⟩
  | i :: B, x, h => by
    simp only [wordB, Bool.and_eq_true, decide_eq_true_eq, Bool.not_eq_true'] at h
    obtain ⟨⟨⟨⟨i0, i1⟩, hb⟩, _⟩, h2⟩ := h
    obtain ⟨h3, h4⟩ := word_facts B (x ||| 2 ^ i.toNat) h2
    refine ⟨fun j hj => ?_, List.nodup_cons.2 ⟨fun hm => ?_, h4⟩⟩
    · rcases List.mem_cons.1 hj with rfl | hj
      · exact ⟨by omega, hb⟩
      · have := h3 j hj
        refine ⟨this.1, ?_⟩
        have h5 := this.2
        rw [Nat.testBit_or, Bool.or_eq_false_iff] at h5
        exact h5.1
    · have := (h3 i hm).2
      rw [or_on] at this
      cases this
theorem full_both {n : Int} {l : List Int} (hS : isSpaceB n l = true) (G : List Int) (hGl : G.length < 1048577) :
    ∃ b, Ev (fun k => spec_grWord.f k n l G) b ∧ Ev (fun k => impl_isFull.f k n l G) b ∧ (b = true → (∀ i ∈ G, 0 ≤ i ∧ i < n) ∧ (G.length : Int) = n) := by
  obtain ⟨n1, n7, _⟩ := isSpaceB_parts hS
  obtain ⟨y, hy⟩ := setOf_loop hS G (by omega) G [] 0 rfl (by decide)
  have hset : Ev (fun k => impl_Space_setOf.f k n l G) (y, wordB n (famOf l) 0 G) := by
    unfold impl_Space_setOf.f
    exact Ev.bindc (family_f hS) hy
  have hword : Ev (fun k => impl_isWord.f k n l G) (wordB n (famOf l) 0 G) := by
    unfold impl_isWord.f
    refine Ev.bindc (show impl_IsSpace.f n l = some (isSpaceB n l) from rfl) ?_
    refine Ev.to (fun k => by rw [hS, if_pos rfl]) ?_
    exact Ev.bind hset (Ev.const rfl)
  have hfull : Ev (fun k => impl_isFull.f k n l G) (if wordB n (famOf l) 0 G = true then ((G.length : Int) == n) else false) := by
    unfold impl_isFull.f
    refine Ev.bind hword ?_
    cases wordB n (famOf l) 0 G with
    | true => exact show Ev _ ((G.length : Int) == n) from Ev.to (fun k => by rw [if_pos rfl]) (Ev.const rfl)
    | false => exact show Ev _ false from Ev.to (fun k => by rw [if_neg (by decide)]) (Ev.const rfl)
  have hsj : Ev (fun k => spec_grWord.j0 k G true n l) false := Ev.succ (fun k => by simp only [spec_grWord.j0]; rw [if_pos trivial]) (Ev.const rfl)
  by_cases hn : (G.length : Int) = n
  · cases ho : isOrderB G G.length with
    | false =>
      have hW : wordB n (famOf l) 0 G = false := by
        rw [Bool.eq_false_iff]
        intro hW
        obtain ⟨h1, h2⟩ := word_facts G 0 hW
        have : isOrderB G G.length = true := by
          unfold isOrderB
          simp only [Bool.and_eq_true, decide_eq_true_eq, List.all_eq_true]
          refine ⟨⟨⟨trivial, by omega, by omega⟩, fun i hi => ?_⟩, ?_⟩
          · have := (h1 i hi).1
            omega
          · rw [newTo_nodup G.length (Nat.le_refl _), List.take_length]
            exact h2
        rw [ho] at this
        cases this
      refine ⟨false, ?_, ?_, fun h => by cases h⟩
      · unfold spec_grWord.f
        refine Ev.to (fun k => by rw [if_pos hn]) ?_
        refine Ev.bind (spOrder_ok G (by omega)) ?_
        exact Ev.to (fun k => by rw [ho]; rfl) hsj
      · rw [hW] at hfull
        exact hfull
    | true =>
      have ho2 := ho
      unfold isOrderB at ho2
      simp only [Bool.and_eq_true, decide_eq_true_eq, List.all_eq_true] at ho2
      obtain ⟨⟨_, hR⟩, hnd⟩ := ho2
      rw [newTo_nodup G.length (Nat.le_refl _), List.take_length] at hnd
      have hR2 : ∀ i ∈ G, 0 ≤ i ∧ i < n := fun i hi => by have := hR i hi; omega
      have hW := word_prefix (l := l) n7 G 0 (by decide) hR2 (fun i _ => Nat.zero_testBit _) hnd
      refine ⟨prefixB l 0 G, ?_, ?_, fun _ => ⟨hR2, hn⟩⟩
      · unfold spec_grWord.f
        refine Ev.to (fun k => by rw [if_pos hn]) ?_
        refine Ev.bind (spOrder_ok G (by omega)) ?_
        refine Ev.to (fun k => by rw [ho]) ?_
        refine Ev.succ (fun k => by simp only [spec_grWord.j0]; rw [if_neg (by decide)]) ?_
        exact grWord_loop hS G (by omega) hR2 G [] 0 rfl (by decide)
      · rw [hW] at hfull
        refine Ev.val hfull ?_
        rw [show ((G.length : Int) == n) = true by simpa using hn]
        cases prefixB l 0 G <;> rfl
  · refine ⟨false, ?_, ?_, fun h => by cases h⟩
    · unfold spec_grWord.f
      exact Ev.to (fun k => by rw [if_neg hn]) hsj
    · refine Ev.val hfull ?_
      rw [show ((G.length : Int) == n) = false by simpa using hn]
      cases wordB n (famOf l) 0 G <;> rfl
theorem costOfWord_both (n : Int) (l : List Int) (t : List S61) (G : List Int) (hlen : l.length < 1048577) (ht : t.length < 1048577) (hGl : G.length < 1048577) : ∃ r, Ev (fun k => spec_CostOfWord.f k n l t G) r ∧ Ev (fun k => impl_CostOfWord.f k n l t G) r := by
  unfold spec_CostOfWord.f impl_CostOfWord.f
  cases hg : isSpaceB n l && areTasksB t n with
  | false =>
    refine ⟨(0, false), ?_, ?_⟩
    · refine Ev.bind (grGiven_ok n l t (by omega) (by omega)) ?_
      exact Ev.to (fun k => by rw [hg, if_neg (by decide)]) (Ev.const rfl)
    · refine Ev.bindc (together_ok n l t) ?_
      exact Ev.to (fun k => by rw [hg, if_neg (by decide)]) (Ev.const rfl)
  | true =>
    have hS : isSpaceB n l = true := by
      cases h : isSpaceB n l with
      | true => rfl
      | false => rw [h] at hg; cases hg
    have hT : areTasksB t n = true := by rw [hS] at hg; exact hg
    obtain ⟨n1, n7, htl, hf⟩ := areTasks_facts hT
    obtain ⟨b, h1, h2, h3⟩ := full_both hS G hGl
    cases b with
    | false =>
      refine ⟨(0, false), ?_, ?_⟩
      · refine Ev.bind (grGiven_ok n l t (by omega) (by omega)) ?_
        refine Ev.to (fun k => by rw [hg, if_pos rfl]) ?_
        refine Ev.bind h1 ?_
        exact Ev.to (fun k => by rw [if_neg (by decide)]) (Ev.const rfl)
      · refine Ev.bindc (together_ok n l t) ?_
        refine Ev.to (fun k => by rw [hg, if_pos rfl]) ?_
        refine Ev.bind h2 ?_
        exact Ev.to (fun k => by rw [if_neg (by decide)]) (Ev.const rfl)
    | true =>
      obtain ⟨hR, hGn⟩ := h3 rfl
      obtain ⟨r, hr1, hr2⟩ := costOf_both hf (by omega) G (fun i hi => by have := hR i hi; omega) (by omega) (fun e => by rw [e] at hGn; simp at hGn; omega)
      refine ⟨(r, true), ?_, ?_⟩
      · refine Ev.bind (grGiven_ok n l t (by omega) (by omega)) ?_
        refine Ev.to (fun k => by rw [hg, if_pos rfl]) ?_
        refine Ev.bind h1 ?_
        refine Ev.to (fun k => by rw [if_pos rfl]) ?_
        exact Ev.bind hr1 (Ev.const rfl)
      · refine Ev.bindc (together_ok n l t) ?_
        refine Ev.to (fun k => by rw [hg, if_pos rfl]) ?_
        refine Ev.bind h2 ?_
        refine Ev.to (fun k => by rw [if_pos rfl]) ?_
        exact Ev.bind hr2 (Ev.const rfl)
theorem FnExactCostOfWord : PureFnExactCostOfWord := by
  intro n0 l0 l1 l2 _ _ hl0 _ hl1 _ hl2
  refine Ev.rounds ?_
  unfold laws_FnExactCostOfWord.f
  by_cases hb2 : (l2.length : Int) > 1048576
  · exact Ev.to (fun k => by rw [if_pos hb2]) (Ev.const rfl)
  · refine Ev.to (fun k => by rw [if_neg hb2]) ?_
    by_cases hb0 : (1048576 : Int) < l0.length
    · refine Ev.bindc (szSpace_over n0 l0 _ (by omega) hl0 hb0 (by omega)) ?_
      exact Ev.to (fun k => by rw [if_pos (by decide)]) (Ev.const rfl)
    · refine Ev.bindc (szSpace_fits n0 l0 _ (by omega) (by omega)) ?_
      refine Ev.to (fun k => by rw [if_neg (by omega)]) ?_
      by_cases hb1 : (1048576 - l0.length : Int) < l1.length
      · refine Ev.bindc (szTaskS_over l1 _ (by omega) hl1 hb1 (by omega)) ?_
        exact Ev.to (fun k => by rw [if_pos (by decide)]) (Ev.const rfl)
      · refine Ev.bindc (szTaskS_fits l1 _ (by omega) (by omega)) ?_
        refine Ev.to (fun k => by rw [if_neg (by omega)]) ?_
        have hm1 : (l1.map taskOf).length = l1.length := List.length_map _
        obtain ⟨⟨r0, r1⟩, h1, h2⟩ := costOfWord_both n0 l0 (l1.map taskOf) l2 (by omega) (by omega) (by omega)
        have a0_ := toSpace_ok n0 l0 (by omega)
        have e0_ := eqSpace_refl n0 l0 (by omega)
        have a1_ := toTaskS_ok l1 (by omega)
        have e1_ := eqTaskS_refl (l1.map taskOf) (by omega)
        have a2_ := toIntS_ok l2 (by omega)
        have e2_ := eqIntS_refl l2 (by omega)
        repeat (first | exact Ev.const rfl | (with_reducible refine Ev.bind h1 ?_) | (with_reducible refine Ev.bind h2 ?_) | (with_reducible refine Ev.bind a0_ ?_) | (with_reducible refine Ev.bind e0_ ?_) | (with_reducible refine Ev.bind a1_ ?_) | (with_reducible refine Ev.bind e1_ ?_) | (with_reducible refine Ev.bind a2_ ?_) | (with_reducible refine Ev.bind e2_ ?_) | refine Ev.to (fun k => by rw [if_pos rfl]) ?_ | refine Ev.to (fun k => by rw [if_neg (by omega)]) ?_ | refine Ev.to (fun k => by rw [if_neg (by simp)]) ?_ | refine Ev.succ (fun k => by simp only [laws_FnExactCostOfWord.j0]; rw [if_neg (by simp)]) ?_ | refine Ev.succ (fun k => by simp only [laws_FnExactCostOfWord.j1]; rw [if_neg (by simp)]) ?_ | refine Ev.succ (fun k => by simp only [laws_FnExactCostOfWord.j2]; rw [if_neg (by simp)]) ?_ | refine Ev.succ (fun k => by simp only [laws_FnExactCostOfWord.j3]; rw [if_neg (by simp)]) ?_)


end Go.Proofs.Ytpamaelmdncpoaa.Q
