/- The pure side of the law FnExactFirstWord: the program and the reference tell the same first word by ranks. Conditions: none. -/
import Derived.Test.YtpilnkaiepdemaaPx1
import Derived.Test.YtpilnkaiepdemaaPx2
import Derived.Test.YtpilnkaiepdemaaPx3
import Derived.Test.YtpilnkaiepdemaaPx4
import Derived.Test.YtpilnkaiepdemaaPx5
import Derived.Test.YtpilnkaiepdemaaPx6
import Derived.Test.YtpilnkaiepdemaaPx7
import Derived.Test.YtpilnkaiepdemaaOpens
namespace Go.Proofs.Ytpilnkaiepdemaa.Q
open Go.RowKit Go.Proofs.Ytpilnkaiepdemaa.Opens Go.Proofs.YtpilnkaiepdemaaW.PrintWords Go.Proofs.YtpilnkaiepdemaaW.PrintLast Go.Proofs.YtpilnkaiepdemaaW.PrintMore
set_option linter.unusedVariables false
set_option linter.unusedSimpArgs false

/-- THE ONE PURE STATEMENT of FnExactFirstWord. -/
def PureFnExactFirstWord : Prop := ∀ (a0_0 : Int) (l0_1 : List Int) (l1 : List Int), Int64 a0_0 → AllOk Int64 l0_1 → l0_1.length ≤ 9223372036854775807 → AllOk Int64 l1 → l1.length ≤ 9223372036854775807 → ∃ k, laws_FnExactFirstWord.f k a0_0 l0_1 l1 = some true
theorem fw_inner (L out : List Int) (x o : Nat) (n : Int) (l : List Int) (r : List Int × Bool) (hL : L.length ≤ 7) (ho : out.length < 100) :
    ∀ (d i : Nat) (b : Int), L.length - i = d → i ≤ L.length → b < L.length → 0 ≤ pickN (fun j => rd L (j : Int)) o d i b → Ev (fun k => spec_FirstWord.l0 k L (out ++ [pickN (fun j => rd L (j : Int)) o d i b]) (Go.bits .or .i64 (x : Int) (shl .i64 1 (pickN (fun j => rd L (j : Int)) o d i b))) n l) r →
    Ev (fun k => spec_FirstWord.l1 k L out x b o L.length i n l) r
  | 0, i, b, hd, hi, hb, hpos, hr => by
    have hpos' : 0 ≤ b := hpos
    refine Ev.succ (fun k => by simp only [spec_FirstWord.l1]; rw [if_neg (by omega), if_pos (by omega), if_pos hpos']) ?_
    exact hr
  | d + 1, i, b, hd, hi, hb, hpos, hr => by
    have hn := fun b' => fw_inner L out x o n l r hL ho d (i + 1) b' (by omega) (by omega)
    push_cast at hn
    have hws : wrap64 ((i : Int) + 1) = i + 1 := wrap_succ (by omega) (by omega)
    refine Ev.succ (fun k => by simp only [spec_FirstWord.l1]; rw [if_pos (by omega), hws]) ?_
    refine Ev.bindc (spIn_ok o i (by omega)) ?_
    by_cases hbit : o.testBit i = true
    · refine Ev.to (fun k => by rw [hbit, if_pos rfl]) ?_
      by_cases h0 : b < 0
      · have e : pickN (fun j => rd L (j : Int)) o (d + 1) i b = pickN (fun j => rd L (j : Int)) o d (i + 1) (i : Int) := by
          show pickN _ o d (i + 1) _ = _
          rw [if_pos hbit, if_pos h0]
        rw [e] at hpos hr
        exact Ev.to (fun k => by rw [if_pos h0]) (hn (i : Int) (by omega) hpos hr)
      · have hbe : ((b.toNat : Nat) : Int) = b := by omega
        by_cases h1 : rd L (i : Int) < rd L b
        · have e : pickN (fun j => rd L (j : Int)) o (d + 1) i b = pickN (fun j => rd L (j : Int)) o d (i + 1) (i : Int) := by
            show pickN _ o d (i + 1) _ = _
            rw [if_pos hbit, if_neg h0, if_pos (by show rd L (i : Int) < rd L ((b.toNat : Nat) : Int); rw [hbe]; exact h1)]
          rw [e] at hpos hr
          exact Ev.to (fun k => by rw [if_neg h0, if_pos (by omega), if_pos (by omega), if_pos (by omega), if_pos (by omega), if_pos h1]) (hn (i : Int) (by omega) hpos hr)
        · have e : pickN (fun j => rd L (j : Int)) o (d + 1) i b = pickN (fun j => rd L (j : Int)) o d (i + 1) b := by
            show pickN _ o d (i + 1) _ = _
            rw [if_pos hbit, if_neg h0, if_neg (by show ¬ rd L (i : Int) < rd L ((b.toNat : Nat) : Int); rw [hbe]; exact h1)]
          rw [e] at hpos hr
          exact Ev.to (fun k => by rw [if_neg h0, if_pos (by omega), if_pos (by omega), if_pos (by omega), if_pos (by omega), if_neg h1]) (hn b hb hpos hr)
    · have e : pickN (fun j => rd L (j : Int)) o (d + 1) i b = pickN (fun j => rd L (j : Int)) o d (i + 1) b := by
        show pickN _ o d (i + 1) _ = _
        rw [if_neg hbit]
      rw [e] at hpos hr
      exact Ev.to (fun k => by rw [if_neg hbit]) (hn b hb hpos hr)
theorem fw_loop {n : Int} {l : List Int} (hS : isSpaceB n l = true) (hlen : l.length < 1048577) (L : List Int) (hL : (L.length : Int) = n) : ∀ (d x : Nat) (out : List Int), out.length + d = n.toNat → GInv n.toNat (famOf l) x out.length → Ev (fun k => spec_FirstWord.l0 k L out x n l) (greedyW (fun _ j => rd L (j : Int)) (famOf l) d x out, true)
  | 0, x, out, hd, hG => by
    refine Ev.succ (fun k => by simp only [spec_FirstWord.l0]; rw [if_neg (by omega)]) ?_
    exact Ev.const rfl
  | d + 1, x, out, hd, hG => by
    obtain ⟨n1, n7, _⟩ := isSpaceB_parts hS
    have hne : x ≠ 2 ^ n.toNat - 1 := fun e => by have := (hG.full (by omega)).1 e; omega
    have hx128 := hG.x128 (by omega)
    obtain ⟨b, hb, hbn, hG', hz⟩ := greedy_next hS (fun j => rd L (j : Int)) hG hne
    have hn := fw_loop hS hlen L hL d (x ||| 2 ^ b) (out ++ [(b : Int)]) (by rw [List.length_append, List.length_singleton]; omega) (by rw [List.length_append, List.length_singleton]; exact hG')
    have h2b : 2 ^ b < 128 := two_lt128 (by omega)
    show Ev _ (greedyW _ (famOf l) d (x ||| 2 ^ (pickN (fun j => rd L (j : Int)) (outerF (famOf l) x) 7 0 (-1)).toNat) (out ++ [pickN (fun j => rd L (j : Int)) (outerF (famOf l) x) 7 0 (-1)]), true)
    rw [hb, Int.toNat_natCast]
    have hpl : pickN (fun j => rd L (j : Int)) (outerF (famOf l) x) L.length 0 (-1) = (b : Int) := by
      rw [← pick_to _ (fun j hj => hz j (by omega)) (by omega)]
      exact hb
    have hin := fw_inner L out x (outerF (famOf l) x) n l (greedyW (fun _ j => rd L (j : Int)) (famOf l) d (x ||| 2 ^ b) (out ++ [(b : Int)]), true) (by omega) (by omega) L.length 0 (-1) (by omega) (by omega) (by omega) (by rw [hpl]; omega) (by rw [hpl, shl_nat (by omega) (by omega), Int.toNat_natCast, bits_or x (2 ^ b) (by omega) (by omega)]; exact hn)
    have hsp := spOuter_ok hS (by omega) (x : Int) (by omega) (by omega)
    rw [Int.toNat_natCast] at hsp
    refine Ev.succ (fun k => by simp only [spec_FirstWord.l0]; rw [if_pos (by omega)]) ?_
    refine Ev.bind hsp ?_
    exact hin
theorem firstWord_both (n : Int) (l L : List Int) (hlen : l.length < 1048577) (hL : L.length < 1048577) : ∃ r, Ev (fun k => spec_FirstWord.f k n l L) r ∧ Ev (fun k => impl_FirstWord.f k n l L) r ∧ r.1.length ≤ 1048577 := by
  have hsj : ∀ n l, Ev (fun k => spec_FirstWord.j0 k L true n l) ([], false) := fun n l => Ev.succ (fun k => by simp only [spec_FirstWord.j0]; rw [if_pos trivial]) (Ev.const rfl)
  unfold spec_FirstWord.f impl_FirstWord.f
  cases hS : isSpaceB n l with
  | false =>
    refine ⟨([], false), ?_, ?_, by show (0 : Nat) ≤ _; omega⟩
    · refine Ev.bind (spGood_ok n l (by omega)) ?_
      exact Ev.to (fun k => by rw [hS, if_neg (by decide)]) (hsj n l)
    · exact Ev.to (fun k => by rw [if_neg (by decide)]) (Ev.const rfl)
  | true =>
    obtain ⟨n1, n7, _⟩ := isSpaceB_parts hS
    have hio := isOrder_ok L n (by omega)
    cases ho : isOrderB L n with
    | false =>
      refine ⟨([], false), ?_, ?_, by show (0 : Nat) ≤ _; omega⟩
      · refine Ev.bind (spGood_ok n l (by omega)) ?_
        refine Ev.to (fun k => by rw [hS, if_pos rfl]) ?_
        by_cases hLn : (L.length : Int) = n
        · refine Ev.to (fun k => by rw [if_pos hLn]) ?_
          refine Ev.bind (spOrder_ok L (by omega)) ?_
          refine Ev.to (fun k => by rw [hLn, ho]) ?_
          exact hsj n l
        · exact Ev.to (fun k => by rw [if_neg hLn]) (hsj n l)
      · refine Ev.to (fun k => by rw [if_pos rfl]) ?_
        refine Ev.bind hio ?_
        exact Ev.to (fun k => by rw [ho, if_neg (by decide)]) (Ev.const rfl)
    | true =>
      have hLn : (L.length : Int) = n := by
        unfold isOrderB at ho
        simp only [Bool.and_eq_true, decide_eq_true_eq] at ho
        exact ho.1.1.1
      refine ⟨(greedyW (fun _ j => rd L (j : Int)) (famOf l) n.toNat 0 [], true), ?_, ?_, ?_⟩
      · refine Ev.bind (spGood_ok n l (by omega)) ?_
        refine Ev.to (fun k => by rw [hS, if_pos rfl, if_pos hLn]) ?_
        refine Ev.bind (spOrder_ok L (by omega)) ?_
        refine Ev.to (fun k => by rw [hLn, ho]) ?_
        refine Ev.succ (fun k => by simp only [spec_FirstWord.j0]; rw [if_neg (by decide)]) ?_
        exact fw_loop hS hlen L hLn n.toNat 0 [] (by simp) (GInv.start hS)
      · refine Ev.to (fun k => by rw [if_pos rfl]) ?_
        refine Ev.bind hio ?_
        refine Ev.to (fun k => by rw [ho, if_pos rfl]) ?_
        refine Ev.bind (greedy_ok hS (rankF L) (fun _ j => rd L (j : Int)) (fun x j _ hj => ?_)) (Ev.const rfl)
        unfold FnII.f rankF
        rw [if_pos ⟨by omega, by omega⟩]
      · show (greedyW _ _ _ _ _).length ≤ _
        rw [greedyW_len]
        simp
        omega
theorem FnExactFirstWord : PureFnExactFirstWord := by
  intro n0 l0 l1 _ _ hl0 _ hl1
  refine Ev.rounds ?_
  unfold laws_FnExactFirstWord.f
  by_cases hb1 : (l1.length : Int) > 1048576
  · exact Ev.to (fun k => by rw [if_pos hb1]) (Ev.const rfl)
  · refine Ev.to (fun k => by rw [if_neg hb1]) ?_
    by_cases hb0 : (1048576 : Int) < l0.length
    · refine Ev.bindc (szSpace_over n0 l0 _ (by omega) hl0 hb0 (by omega)) ?_
      exact Ev.to (fun k => by rw [if_pos (by decide)]) (Ev.const rfl)
    · refine Ev.bindc (szSpace_fits n0 l0 _ (by omega) (by omega)) ?_
      refine Ev.to (fun k => by rw [if_neg (by omega)]) ?_
      obtain ⟨⟨r0, r1⟩, h1, h2, z0⟩ := firstWord_both n0 l0 l1 (by omega) (by omega)
      replace z0 : r0.length ≤ 1048577 := z0
      have a0_ := toSpace_ok n0 l0 (by omega)
      have e0_ := eqSpace_refl n0 l0 (by omega)
      have a1_ := toIntS_ok l1 (by omega)
      have e1_ := eqIntS_refl l1 (by omega)
      have m0_ := markSpace_ok n0 l0 (1) (by omega) (by omega)
      have m1_ := markIntS_ok l1 (1 + l0.length) (by omega) (by omega)
      have g0_ := eqIntS_refl r0 (by omega)
      have p0_ := markIntS_ok r0 (1) (by omega) (by omega)
      have d0_ := heldIntS_ok (1) r0.length (by omega) (by omega)
      repeat (first | exact Ev.const rfl | (with_reducible refine Ev.bind h1 ?_) | (with_reducible refine Ev.bind h2 ?_) | (with_reducible refine Ev.bind a0_ ?_) | (with_reducible refine Ev.bind e0_ ?_) | (with_reducible refine Ev.bind a1_ ?_) | (with_reducible refine Ev.bind e1_ ?_) | (with_reducible refine Ev.bind m0_ ?_) | (with_reducible refine Ev.bind m1_ ?_) | (with_reducible refine Ev.bind g0_ ?_) | (with_reducible refine Ev.bind p0_ ?_) | (with_reducible refine Ev.bind d0_ ?_) | refine Ev.to (fun k => by rw [if_pos rfl]) ?_ | refine Ev.to (fun k => by rw [if_neg (by omega)]) ?_ | refine Ev.to (fun k => by rw [if_neg (by simp)]) ?_ | refine Ev.succ (fun k => by simp only [laws_FnExactFirstWord.j0]; rw [if_neg (by simp)]) ?_ | refine Ev.succ (fun k => by simp only [laws_FnExactFirstWord.j1]; rw [if_neg (by simp)]) ?_ | refine Ev.succ (fun k => by simp only [laws_FnExactFirstWord.j2]; rw [if_neg (by simp)]) ?_ | refine Ev.succ (fun k => by simp only [laws_FnExactFirstWord.j3]; rw [if_neg (by simp)]) ?_)


end Go.Proofs.Ytpilnkaiepdemaa.Q
