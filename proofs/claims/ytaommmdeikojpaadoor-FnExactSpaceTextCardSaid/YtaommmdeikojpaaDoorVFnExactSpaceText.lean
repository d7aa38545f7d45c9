/- The pure side of the law FnExactSpaceText: the program and the reference tell the same text of a space. Conditions: none. -/
import Derived.Test.YtaommmdeikojpaaDoorPx1
import Derived.Test.YtaommmdeikojpaaDoorPx2
import Derived.Test.YtaommmdeikojpaaDoorPx3
import Derived.Test.YtaommmdeikojpaaDoorPx4
import Derived.Test.YtaommmdeikojpaaDoorPx5
import Derived.Test.YtaommmdeikojpaaDoorOpens
namespace Go.Proofs.YtaommmdeikojpaaDoor.Q
open Go.RowKit Go.Proofs.YtaommmdeikojpaaDoor.Opens Go.Proofs.YtaommmdeikojpaaDoorW.PrintWords Go.Proofs.YtaommmdeikojpaaDoorW.PrintLast Go.Proofs.YtaommmdeikojpaaDoorW.PrintMore
set_option linter.unusedVariables false
set_option linter.unusedSimpArgs false

/-- THE ONE PURE STATEMENT of FnExactSpaceText. -/
def PureFnExactSpaceText : Prop := ∀ (a0_0 : Int) (l0_1 : List Int), Int64 a0_0 → AllOk Int64 l0_1 → l0_1.length ≤ 9223372036854775807 → ∃ k, laws_FnExactSpaceText.f k a0_0 l0_1 = some true
theorem num_fin : ∀ u : Fin 128, spec_l1Num.f 4 (u.val : Int) = some (strB (digQ u.val)) := by decide +kernel
theorem num_ok {a : Int} (h0 : 0 ≤ a) (h1 : a < 128) : Ev (fun k => spec_l1Num.f k a) (numB a) := by
  have h := num_fin ⟨a.toNat, by omega⟩
  have e : ((a.toNat : Nat) : Int) = a := by omega
  simp only [e] at h
  exact Ev.of (fun k => spec_l1Num.mono a k) h
theorem text_loop (l : List Int) (hM : ∀ x ∈ l, I128 x) (hl : l.length ≤ 128) : ∀ (B A : List Int) (X : List UInt8), A ++ B = l → A ≠ [] → X.length + 4 * B.length ≤ 10000 → Ev (fun k => spec_spText.l0 k (strB X) l l.length A.length) (strB (X ++ Lib.joinTail [44] (B.map fun n => digQ n.toNat)))
  | [], A, X, hA, _, _ => by
    rw [List.append_nil] at hA
    subst hA
    refine Ev.val (Ev.succ (g := fun _ => some (strB X)) (fun k => by simp only [spec_spText.l0]; rw [if_neg (by omega)]) (Ev.const rfl)) ?_
    show strB X = strB (X ++ [])
    rw [List.append_nil]
  | x :: B, A, X, hA, hne, hX => by
    have hlt : A.length < l.length := by rw [← hA]; simp
    have hpos : 0 < A.length := List.length_pos_iff.2 hne
    have hrd : rd l (A.length : Int) = x := by rw [← hA]; exact rd_append A B x
    obtain ⟨x0, x1⟩ := hM x (by rw [← hA]; simp)
    have hd := digQ_len x.toNat
    rw [List.length_cons] at hX
    have hs1 : (strB X).size + 1 ≤ 9223372036854775807 := by rw [strB_size]; omega
    have e1 : strB X ++ (⟨#[44]⟩ : ByteArray) = strB (X ++ [44]) := strB_append X [44]
    have hs2 : (strB (X ++ [44])).size + (numB x).size ≤ 9223372036854775807 := by
      unfold numB
      rw [strB_size, strB_size, List.length_append, List.length_singleton]
      omega
    have e2 : strB (X ++ [44]) ++ numB x = strB (X ++ [44] ++ digQ x.toNat) := strB_append _ _
    have hn := text_loop l hM hl B (A ++ [x]) (X ++ [44] ++ digQ x.toNat) (by rw [List.append_assoc]; exact hA) (by simp) (by simp only [List.length_append, List.length_singleton]; omega)
    rw [List.length_append, List.length_singleton] at hn
    push_cast at hn
    refine Ev.succ (fun k => by simp only [spec_spText.l0]; rw [if_pos (by omega), if_pos (by omega), if_pos (by omega), if_pos (show (A.length : Int) > 0 by omega), if_pos hs1, hrd, e1, wrap_succ (by omega) (by omega)]) ?_
    refine Ev.bind (num_ok x0 x1) ?_
    refine Ev.val (Ev.to (fun k => by rw [if_pos hs2, e2]) hn) ?_
    rw [List.map_cons]
    show strB (X ++ [44] ++ digQ x.toNat ++ Lib.joinTail [44] (B.map fun n => digQ n.toNat)) = strB (X ++ (([44] ++ digQ x.toNat) ++ Lib.joinTail [44] (B.map fun n => digQ n.toNat)))
    rw [List.append_assoc, List.append_assoc, List.append_assoc]
theorem spText_ok {n : Int} (n0 : 0 ≤ n) (n7 : n < 128) (l : List Int) (hM : ∀ x ∈ l, I128 x) (hl : l.length ≤ 128) (hne : l ≠ []) : Ev (fun k => spec_spText.f k n l) (strB (textQ n l)) := by
  unfold spec_spText.f
  have hd := digQ_len n.toNat
  have hs1 : (numB n).size + 1 ≤ 9223372036854775807 := by
    unfold numB
    rw [strB_size]
    omega
  have e1 : numB n ++ (⟨#[58]⟩ : ByteArray) = strB (digQ n.toNat ++ [58]) := strB_append _ _
  refine Ev.bind (num_ok n0 n7) ?_
  refine Ev.to (fun k => by rw [if_pos hs1, e1]) ?_
  match l, hne with
  | x :: B, _ =>
    obtain ⟨x0, x1⟩ := hM x (by simp)
    have hdx := digQ_len x.toNat
    have hrd : rd (x :: B) 0 = x := rfl
    have hlen : (x :: B).length = B.length + 1 := List.length_cons
    have hs2 : (strB (digQ n.toNat ++ [58])).size + (numB x).size ≤ 9223372036854775807 := by
      unfold numB
      rw [strB_size, strB_size, List.length_append, List.length_singleton]
      omega
    have e2 : strB (digQ n.toNat ++ [58]) ++ numB x = strB (digQ n.toNat ++ [58] ++ digQ x.toNat) := strB_append _ _
    have hn := text_loop (x :: B) hM hl B [x] (digQ n.toNat ++ [58] ++ digQ x.toNat) rfl (by simp) (by simp only [List.length_append, List.length_singleton]; omega)
    refine Ev.succ (fun k => by simp only [spec_spText.l0]; rw [if_pos (by omega), if_pos (by omega), if_pos (by omega), if_neg (by omega), hrd, wrap_succ (by omega) (by omega)]) ?_
    refine Ev.bind (num_ok x0 x1) ?_
    refine Ev.val (Ev.to (fun k => by rw [if_pos hs2, e2]; rfl) hn) ?_
    unfold textQ joinQ
    rw [List.map_cons, Lib.join_cons]
    simp only [List.append_assoc]
theorem imText_ok {n : Int} (n0 : 0 ≤ n) (n7 : n < 128) (l : List Int) (hM : ∀ x ∈ l, I128 x) (hl : l.length ≤ 128) : impl_Space_text.f n l = some (strB (textQ n l)) := by
  have hj : impl_joined.f l = some (strB (joinQ l)) := by
    unfold impl_joined.f
    rw [if_pos ⟨hl, by
      rw [List.all_eq_true]
      intro x hx
      have := hM x hx
      simp only [Bool.and_eq_true, decide_eq_true_eq]
      exact ⟨this.1, this.2⟩⟩]
  unfold impl_Space_text.f
  rw [if_pos ⟨n0, n7⟩, hj, Option.bind_some, if_pos hl]
  unfold numB
  rw [strB_append, strB_append]
  rfl
theorem text_both (n : Int) (l : List Int) (hlen : l.length < 1048577) : ∃ r, Ev (fun k => spec_SpaceText.f k n l) r ∧ impl_SpaceText.f n l = some r := by
  unfold spec_SpaceText.f impl_SpaceText.f
  have hg := spGood_ok n l (by omega)
  have hi : impl_IsSpace.f n l = some (isSpaceB n l) := rfl
  rw [hi]
  cases hS : isSpaceB n l with
  | false =>
    rw [hS] at hg
    exact ⟨((⟨#[]⟩ : ByteArray), false), Ev.bind hg (Ev.to (fun k => by rw [if_neg (by decide)]) (Ev.const rfl)), rfl⟩
  | true =>
    rw [hS] at hg
    obtain ⟨n1, n7, hl2, _, hf0, _⟩ := isSpaceB_parts hS
    have hM : ∀ x ∈ l, I128 x := fun x hx => isSpaceB_128 hS x hx
    have hp := pow128 (n := n) (by omega) n7
    have hl : l.length ≤ 128 := by omega
    have hne : l ≠ [] := by
      rintro rfl
      revert hf0
      decide
    refine ⟨(strB (textQ n l), true), Ev.bind hg (Ev.to (fun k => by rw [if_pos rfl]) (Ev.bind (spText_ok (by omega) (by omega) l hM hl hne) (Ev.const rfl))), ?_⟩
    rw [Option.bind_some, if_pos rfl, imText_ok (by omega) (by omega) l hM hl]
    rfl
theorem FnExactSpaceText : PureFnExactSpaceText := by
  intro n l _ _ hlen
  refine Ev.rounds ?_
  unfold laws_FnExactSpaceText.f
  by_cases hb : (1048576 : Int) < l.length
  · refine Ev.bindc (szSpace_over n l 1048576 (by omega) hlen hb (by omega)) ?_
    exact Ev.to (fun k => by rw [if_pos (by decide)]) (Ev.const rfl)
  · obtain ⟨⟨r0, r1⟩, h1, h2⟩ := text_both n l (by omega)
    refine Ev.bindc (szSpace_fits n l 1048576 (by omega) (by omega)) ?_
    refine Ev.to (fun k => by rw [if_neg (by omega)]) ?_
    have a0_ := toSpace_ok n l (by omega)
    have e0_ := eqSpace_refl n l (by omega)
    refine Ev.bind a0_ ?_
    refine Ev.bind h1 ?_
    refine Ev.bind a0_ ?_
    refine Ev.bindc h2 ?_
    refine Ev.to (fun k => by rw [if_pos rfl]) ?_
    refine Ev.succ (fun k => by simp only [laws_FnExactSpaceText.j0]; rw [if_neg (by simp)]) ?_
    refine Ev.bind a0_ ?_
    refine Ev.bind e0_ ?_
    exact Ev.to (fun k => by rw [if_pos rfl]) (Ev.const rfl)

end Go.Proofs.YtaommmdeikojpaaDoor.Q
