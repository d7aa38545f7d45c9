/- The pure side of the law FnExactPrefixSets: the program and the reference tell the same sets of the beginnings of an order. Conditions: none. -/
import Derived.Test.YtneibmhbcjbmjaaQx1
import Derived.Test.YtneibmhbcjbmjaaQx3
import Derived.Test.YtneibmhbcjbmjaaQx4
import Derived.Test.YtneibmhbcjbmjaaOpens
namespace Go.Proofs.Ytneibmhbcjbmjaa.Q
open Go.RowKit Go.Proofs.Ytneibmhbcjbmjaa.Opens Go.Proofs.YtneibmhbcjbmjaaW.PrintWords Go.Proofs.YtneibmhbcjbmjaaW.PrintLast Go.Proofs.YtneibmhbcjbmjaaW.PrintMore
set_option linter.unusedVariables false
set_option linter.unusedSimpArgs false

/-- THE ONE PURE STATEMENT of FnExactPrefixSets. -/
def PureFnExactPrefixSets : Prop := ∀ (l0 : List Int), AllOk Int64 l0 → l0.length ≤ 9223372036854775807 → ∃ k, laws_FnExactPrefixSets.f k l0 = some true
def prefixSets (l : List Int) : List Int × Bool := if isOrderB l l.length = true then (0 :: chainFrom 0 l, true) else ([], false)
theorem prefix_parts {l : List Int} (h : isOrderB l l.length = true) : l.length ≤ 7 ∧ ∀ x ∈ l, 0 ≤ x ∧ x < 7 := by
  unfold isOrderB at h
  simp only [Bool.and_eq_true, decide_eq_true_eq, List.all_eq_true] at h
  obtain ⟨⟨⟨_, _, h7⟩, hr⟩, _⟩ := h
  exact ⟨by omega, fun x hx => by have := hr x hx; omega⟩
theorem impl_prefix_loop (l : List Int) (hl : l.length ≤ 7) (hr : ∀ x ∈ l, 0 ≤ x ∧ x < 7) : ∀ (b a : List Int) (out : List Int) (s : Nat), a ++ b = l → out.length = a.length + 1 → s < 128 → Ev (fun k => impl_PrefixSets.l0 k out s l l.length a.length) (out ++ chainFrom s b, true)
  | [], a, out, s, hab, ho, hs => by
    rw [List.append_nil] at hab
    subst hab
    exact Ev.succ (fun k => by simp only [impl_PrefixSets.l0]; rw [if_neg (by omega)]) (Ev.const (by simp [chainFrom]))
  | x :: b, a, out, s, hab, ho, hs => by
    have hlen : a.length < l.length := by rw [← hab]; simp
    have hrd : rd l (a.length : Int) = x := by rw [← hab]; exact rd_append a b x
    have hx := hr x (by rw [← hab]; simp)
    have hp : 2 ^ x.toNat < 2 ^ 7 := Nat.pow_lt_pow_right (by decide) (by omega)
    have hs2 : s ||| 2 ^ x.toNat < 2 ^ 7 := Nat.or_lt_two_pow hs hp
    refine Ev.succ (fun k => by simp only [impl_PrefixSets.l0]; rw [if_pos (by omega), if_pos (by omega), if_pos (by omega), hrd, if_pos hx.1, if_pos (by omega), shl_nat hx.1 (by omega), bits_or _ _ (by omega) (by omega), wrap_succ (by omega) (by omega)]) ?_
    have := impl_prefix_loop l hl hr b (a ++ [x]) (out ++ [((s ||| 2 ^ x.toNat : Nat) : Int)]) (s ||| 2 ^ x.toNat) (by rw [List.append_assoc]; exact hab) (by simp; omega) hs2
    rw [List.length_append, List.length_singleton, List.append_assoc] at this
    push_cast at this ⊢
    exact this
theorem rd_last (out : List Int) (s : Int) : rd (out ++ [s]) (out.length : Int) = s := rd_append out [] s
theorem spec_prefix_loop (l : List Int) (hl : l.length ≤ 7) (hr : ∀ x ∈ l, 0 ≤ x ∧ x < 7) : ∀ (b a : List Int) (out : List Int) (s : Nat), a ++ b = l → out.length = a.length → s < 128 → Ev (fun k => spec_PrefixSets.l0 k (out ++ [(s : Int)]) l l.length a.length) (out ++ [(s : Int)] ++ chainFrom s b, true)
  | [], a, out, s, hab, ho, hs => by
    rw [List.append_nil] at hab
    subst hab
    exact Ev.succ (fun k => by simp only [spec_PrefixSets.l0]; rw [if_neg (by omega)]) (Ev.const (by simp [chainFrom]))
  | x :: b, a, out, s, hab, ho, hs => by
    have hlen : a.length < l.length := by rw [← hab]; simp
    have hrd : rd l (a.length : Int) = x := by rw [← hab]; exact rd_append a b x
    have hx := hr x (by rw [← hab]; simp)
    have hp : 2 ^ x.toNat < 2 ^ 7 := Nat.pow_lt_pow_right (by decide) (by omega)
    have hs2 : s ||| 2 ^ x.toNat < 2 ^ 7 := Nat.or_lt_two_pow hs hp
    have hlo : (out ++ [(s : Int)]).length = out.length + 1 := by simp
    have hw : wrap64 (((out ++ [(s : Int)]).length : Int) - 1) = out.length := by rw [hlo, wrap_in (by omega) (by omega)]; omega
    refine Ev.succ (fun k => by simp only [spec_PrefixSets.l0]; rw [if_pos (by omega), if_pos (by omega), if_pos (by omega), hw, if_pos (by omega), if_pos (by omega), hrd, if_pos hx.1, if_pos (by omega), rd_last, shl_nat hx.1 (by omega), bits_or _ _ (by omega) (by omega), wrap_succ (by omega) (by omega)]) ?_
    have := spec_prefix_loop l hl hr b (a ++ [x]) (out ++ [(s : Int)]) (s ||| 2 ^ x.toNat) (by rw [List.append_assoc]; exact hab) (by simp; omega) hs2
    rw [List.length_append, List.length_singleton, List.append_assoc (out ++ [(s : Int)])] at this
    push_cast at this ⊢
    exact this
theorem impl_prefix_ok (l : List Int) (hlen : l.length < 9223372036854775807) : Ev (fun k => impl_PrefixSets.f k l) (prefixSets l) := by
  unfold impl_PrefixSets.f prefixSets
  refine Ev.bind (isOrder_ok l _ hlen) ?_
  cases h : isOrderB l l.length with
  | false => exact Ev.val (r := ([], false)) (Ev.to (fun k => by rw [if_neg (by decide)]) (Ev.const rfl)) (by simp)
  | true =>
    obtain ⟨h7, hr⟩ := prefix_parts h
    exact Ev.to (fun k => by rw [if_pos rfl]; rfl) (impl_prefix_loop l h7 hr l [] [0] 0 rfl rfl (by decide))
theorem spec_prefix_ok (l : List Int) (hlen : l.length < 9223372036854775807) : Ev (fun k => spec_PrefixSets.f k l) (prefixSets l) := by
  unfold spec_PrefixSets.f prefixSets
  refine Ev.bind (spOrder_ok l hlen) ?_
  cases h : isOrderB l l.length with
  | false => exact Ev.val (r := ([], false)) (Ev.to (fun k => by rw [if_neg (by decide)]) (Ev.const rfl)) (by simp)
  | true =>
    obtain ⟨h7, hr⟩ := prefix_parts h
    exact Ev.to (fun k => by rw [if_pos rfl]; rfl) (spec_prefix_loop l h7 hr l [] [] 0 rfl rfl (by decide))
theorem prefix_len (l : List Int) : (prefixSets l).1.length ≤ l.length + 1 := by
  unfold prefixSets
  split
  · simp [chainFrom_length]
  · simp
theorem FnExactPrefixSets : PureFnExactPrefixSets := by
  intro l _ hlen
  refine Ev.rounds ?_
  unfold laws_FnExactPrefixSets.f
  by_cases hl : (l.length : Int) > 1048576
  · exact Ev.to (fun k => by rw [if_pos hl]) (Ev.const rfl)
  · refine Ev.to (fun k => by rw [if_neg hl]) ?_
    have hts := toIntS_ok l (by omega)
    have hi := impl_prefix_ok l (by omega)
    have hs := spec_prefix_ok l (by omega)
    have hpl := prefix_len l
    generalize prefixSets l = p at *
    have heq := eqIntS_refl p.1 (by omega)
    have heql := eqIntS_refl l (by omega)
    have hm1 := markIntS_ok l 1 (by omega) (by omega)
    have hm2 := markIntS_ok p.1 1 (by omega) (by omega)
    have hh := heldIntS_ok 1 p.1.length (by omega) (by omega)
    refine Ev.bind hts ?_
    refine Ev.bind hs ?_
    refine Ev.bind hts ?_
    refine Ev.bind hi ?_
    refine Ev.bind heq ?_
    refine Ev.to (fun k => by rw [if_pos rfl]) ?_
    refine Ev.succ (fun k => by simp only [laws_FnExactPrefixSets.j0]; rw [if_neg (by simp)]) ?_
    refine Ev.bind hts ?_
    refine Ev.bind heql ?_
    refine Ev.to (fun k => by rw [if_pos rfl]) ?_
    refine Ev.bind hm1 ?_
    refine Ev.to (fun k => by rw [if_neg (by omega)]) ?_
    refine Ev.bind heq ?_
    refine Ev.to (fun k => by rw [if_pos rfl]) ?_
    refine Ev.succ (fun k => by simp only [laws_FnExactPrefixSets.j1]; rw [if_neg (by simp)]) ?_
    refine Ev.bind hm2 ?_
    refine Ev.bind hh ?_
    refine Ev.to (fun k => by rw [if_neg (by omega), if_pos rfl]) ?_
    refine Ev.bind hts ?_
    refine Ev.bind hi ?_
    refine Ev.bind heq ?_
    refine Ev.to (fun k => by rw [if_pos rfl]) ?_
    refine Ev.succ (fun k => by simp only [laws_FnExactPrefixSets.j2]; rw [if_neg (by simp)]) ?_
    refine Ev.bind hh ?_
    exact Ev.to (fun k => by rw [if_neg (by omega), if_pos rfl]) (Ev.const rfl)

end Go.Proofs.Ytneibmhbcjbmjaa.Q
