/- The pure side of the law FnExactGreatestAntichain: the program and the reference tell the same first greatest antichain of paths. Conditions: none. -/
import Derived.Test.YtkepeflplmkcmaaPx1
import Derived.Test.YtkepeflplmkcmaaPx2
import Derived.Test.YtkepeflplmkcmaaPx3
import Derived.Test.YtkepeflplmkcmaaPx4
import Derived.Test.YtkepeflplmkcmaaPx5
import Derived.Test.YtkepeflplmkcmaaPx6
import Derived.Test.YtkepeflplmkcmaaPx7
import Derived.Test.YtkepeflplmkcmaaPx8
import Derived.Test.YtkepeflplmkcmaaPx9
import Derived.Test.YtkepeflplmkcmaaPx10
import Derived.Test.YtkepeflplmkcmaaPx11
import Derived.Test.YtkepeflplmkcmaaOpens
namespace Go.Proofs.Ytkepeflplmkcmaa.Q
open Go.RowKit Go.Proofs.Ytkepeflplmkcmaa.Opens Go.Proofs.YtkepeflplmkcmaaW.PrintWords Go.Proofs.YtkepeflplmkcmaaW.PrintLast Go.Proofs.YtkepeflplmkcmaaW.PrintMore
set_option linter.unusedVariables false
set_option linter.unusedSimpArgs false

/-- THE ONE PURE STATEMENT of FnExactGreatestAntichain. -/
def PureFnExactGreatestAntichain : Prop := ∀ (a0_0 : Int) (l0_1 : List Int), Int64 a0_0 → AllOk Int64 l0_1 → l0_1.length ≤ 9223372036854775807 → ∃ k, laws_FnExactGreatestAntichain.f k a0_0 l0_1 = some true
theorem rise_filter {l : List Int} (p : Int → Bool) (h : Rise l) : Rise (l.filter p) := rise_of_pairwise ((pairwise_of_rise h).filter _)
theorem rise_drop {l : List Int} (i : Nat) (h : Rise l) : Rise (l.drop i) := rise_of_pairwise ((pairwise_of_rise h).sublist (List.drop_sublist i l))
theorem ga_l0 {left out A : List Int} {n : Nat} (hn : n ≤ 1000) (h0 : n = 0 → A = []) (h : n ≠ 0 → Ev (fun k => impl_GreatestAntichain.l1 k left out (n : Int) left left.length 0) (out ++ A, true)) : Ev (fun k => impl_GreatestAntichain.l0 k left out (n : Int)) (out ++ A, true) := by
  by_cases hz : n = 0
  · rw [h0 hz, hz, List.append_nil]
    exact Ev.succ (fun k => by simp only [impl_GreatestAntichain.l0]; rw [if_neg (by omega)]) (Ev.const rfl)
  · exact Ev.succ (fun k => by simp only [impl_GreatestAntichain.l0]; rw [if_pos (by omega)]) (h hz)
theorem ga_l1 : ∀ {n : Nat} {L : List Int} {r : Option (List Int)}, First n L r → ∀ A, r = some A → ∀ (left pre out : List Int), left = pre ++ L → Rise left → (∀ x ∈ left, 0 ≤ x ∧ x < 128) → out.length + n ≤ 1000 → n ≠ 0 → Ev (fun k => impl_GreatestAntichain.l1 k left out (n : Int) left left.length pre.length) (out ++ A, true) := by
  intro n L r h
  have step : ∀ {m : Nat} {x : Int} {L left pre : List Int}, left = pre ++ x :: L → Rise left → (∀ y ∈ left, 0 ≤ y ∧ y < 128) → ∃ w : Nat, Ev (fun k => impl_width.f k (L.filter fun y => !nearB x y)) (w : Int) ∧ (∃ A : List Int, A.Sublist (L.filter fun y => !nearB x y) ∧ AntiL A ∧ A.length = w) ∧ (∀ A : List Int, A.Sublist (L.filter fun y => !nearB x y) → AntiL A → A.length ≤ w) ∧ w ≤ 128 := by
    intro m x L left pre e hr hM
    have hL : L = left.drop (pre.length + 1) := by rw [e]; simp
    have hr2 : Rise (L.filter fun y => !nearB x y) := rise_filter _ (by rw [hL]; exact rise_drop _ hr)
    have hM2 : ∀ y ∈ L.filter fun y => !nearB x y, 0 ≤ y ∧ y < 128 := fun y hy => hM y (by rw [e]; exact List.mem_append_right _ (List.mem_cons_of_mem _ (List.mem_filter.1 hy).1))
    obtain ⟨w, h1, h2, h3⟩ := width_dil hr2 hM2
    refine ⟨w, h1, h2, h3, ?_⟩
    obtain ⟨A, ha, _, hb⟩ := h2
    have := ha.length_le
    have := rise_nodup_len hr2 hM2
    omega
  have enter : ∀ {m : Nat} {x : Int} {L left pre out : List Int} {w : Nat} {R : List Int × Bool}, left = pre ++ x :: L → left.length ≤ 128 → out.length + (m + 1) ≤ 1000 → w ≤ 128 → Ev (fun k => impl_width.f k (L.filter fun y => !nearB x y)) (w : Int) → Ev (fun k => if (w : Int) ≥ (m : Int) then impl_GreatestAntichain.l0 k (L.filter fun y => !nearB x y) (out ++ [x]) (m : Int) else impl_GreatestAntichain.l1 k left out ((m + 1 : Nat) : Int) left left.length ((pre.length : Int) + 1)) R → Ev (fun k => impl_GreatestAntichain.l1 k left out ((m + 1 : Nat) : Int) left left.length pre.length) R := by
    intro m x L left pre out w R e hlen ho hw128 hw hR
    have hll : left.length = pre.length + (L.length + 1) := by rw [e]; simp
    have hrd : rd left (pre.length : Int) = x := by rw [e]; exact rd_append pre L x
    have hws : wrap64 ((pre.length : Int) + 1) = pre.length + 1 := wrap_succ (by omega) (by omega)
    have hwm : wrap64 (((m + 1 : Nat) : Int) - 1) = m := by rw [wrap_in (by omega) (by omega)]; push_cast; omega
    have hdrop : left.drop ((pre.length : Int) + 1).toNat = L := by
      rw [show ((pre.length : Int) + 1).toNat = pre.length + 1 by omega, e]
      simp
    refine Ev.succ (fun k => by simp only [impl_GreatestAntichain.l1]; rw [if_pos (by omega), if_pos (by omega), if_pos (by omega), hws, if_pos (by omega), if_pos (by omega), hdrop, hrd, hwm]) ?_
    refine Ev.bindc (show slices_Clone_int_int.f L = some L from ?_) ?_
    · unfold slices_Clone_int_int.f
      rw [if_pos (by omega)]
    · refine Ev.bindc (show impl_GA_del.f x L = some (L.filter fun y => !nearB x y) from rfl) ?_
      refine Ev.bind hw ?_
      exact Ev.to (fun k => by
        by_cases hc : (w : Int) ≥ (m : Int)
        · rw [if_pos hc, if_pos hc, if_pos (by omega)]
        · rw [if_neg hc, if_neg hc]) hR
  induction h with
  | zero L =>
    intro A _ left pre out _ _ _ _ hne
    exact absurd rfl hne
  | nil n =>
    rintro A ⟨⟩
  | @take n x L A' h ih =>
    rintro A ⟨⟩ left pre out e hr hM ho _
    have hlen := rise_nodup_len hr hM
    obtain ⟨w, hw, _, hmax, hw128⟩ := step (m := n) e hr hM
    obtain ⟨f1, f2, f3⟩ := first_some h A' rfl
    have hge := hmax A' f1 f2
    refine enter e hlen ho hw128 hw ?_
    refine Ev.to (fun k => by rw [if_pos (by omega)]) ?_
    have hL : L = left.drop (pre.length + 1) := by rw [e]; simp
    have hr2 : Rise (L.filter fun y => !nearB x y) := rise_filter _ (by rw [hL]; exact rise_drop _ hr)
    have hM2 : ∀ y ∈ L.filter fun y => !nearB x y, 0 ≤ y ∧ y < 128 := fun y hy => hM y (by rw [e]; exact List.mem_append_right _ (List.mem_cons_of_mem _ (List.mem_filter.1 hy).1))
    have := ga_l0 (left := L.filter fun y => !nearB x y) (out := out ++ [x]) (A := A') (n := n) (by omega) (fun hz => List.eq_nil_of_length_eq_zero (by omega)) (fun hz => ih A' rfl _ [] (out ++ [x]) rfl hr2 hM2 (by rw [List.length_append, List.length_singleton]; omega) hz)
    rw [List.append_assoc] at this
    exact this
  | @skip n x L r h h2 ih1 ih2 =>
    rintro A rfl left pre out e hr hM ho _
    have hlen := rise_nodup_len hr hM
    obtain ⟨w, hw, ⟨A0, a1, a2, a3⟩, hmax, hw128⟩ := step (m := n) e hr hM
    have hlt : w < n := by
      rcases Nat.lt_or_ge w n with h3 | h3
      · exact h3
      · refine absurd ?_ (first_none h rfl (A0.take n) ((List.take_sublist n A0).trans a1) (a2.sublist (List.take_sublist n A0)))
        rw [List.length_take]
        omega
    refine enter e hlen ho hw128 hw ?_
    refine Ev.to (fun k => by rw [if_neg (by omega)]) ?_
    have := ih2 A rfl left (pre ++ [x]) out (by rw [e, List.append_assoc]; rfl) hr hM ho (by omega)
    rw [List.length_append, List.length_singleton] at this
    exact this
/-- What the search answers. -/
def resOf (sm : List Int) : Option (List Int) → List Int × Bool
  | some A => (sm ++ A, true)
  | none => ([], false)
theorem compat_snoc (sm L : List Int) (x : Int) : (L.filter fun y => (sm ++ [x]).all fun a => !nearB a y) = (L.filter fun y => sm.all fun a => !nearB a y).filter fun y => !nearB x y := by
  rw [List.filter_filter]
  refine List.filter_congr fun y _ => ?_
  rw [List.all_append, Bool.and_comm]
  simp
theorem sf_l0 {P : List Int} (hPl : P.length ≤ 128) (hM : ∀ x ∈ P, 0 ≤ x ∧ x < 128) : ∀ (d i n : Nat) (sm : List Int) (r : Option (List Int)), P.length - i ≤ d → i ≤ P.length → sm.length + n ≤ 900 → (∀ x ∈ sm, 0 ≤ x ∧ x < 128) → antiOut sm 0 sm = true → First (n + 1) ((P.drop i).filter fun y => sm.all fun a => !nearB a y) r → Ev (fun k => spec_cnFirst.l0 k P sm ((n + 1 : Nat) : Int) i) (resOf sm r)
  | d, i, n, sm, r, hd, hi, hsm, hsM, hA, hF => by
    have hw1 : wrap64 ((i : Int) + ((n + 1 : Nat) : Int)) = i + ((n + 1 : Nat) : Int) := wrap_in (by omega) (by omega)
    by_cases hfit : i + (n + 1) ≤ P.length
    · match d, hd with
      | 0, hd => omega
      | d + 1, hd =>
        have hlt : i < P.length := by omega
        have hws : wrap64 ((i : Int) + 1) = i + 1 := wrap_succ (by omega) (by omega)
        have hwn : wrap64 (((n + 1 : Nat) : Int) - 1) = n := by rw [wrap_in (by omega) (by omega)]; push_cast; omega
        have hx := hM P[i] (List.getElem_mem hlt)
        have hs2 : ∀ y ∈ sm ++ [P[i]], 0 ≤ y ∧ y < 128 := fun y hy => by
          rcases List.mem_append.1 hy with h | h
          · exact hsM y h
          · rw [List.mem_singleton.1 h]; exact hx
        refine Ev.succ (fun k => by simp only [spec_cnFirst.l0]; rw [hw1, if_pos (by push_cast; omega)]) ?_
        refine Ev.bindc (show spec_l1Own.f sm = some sm from ?_) ?_
        · unfold spec_l1Own.f
          show (if ([] : List Int).length + sm.length < 17592186044416 then _ else _) = _
          rw [if_pos (by simp; omega)]
          rfl
        · refine Ev.to (fun k => by rw [if_pos (by omega), if_pos (by omega), rd_get hlt]) ?_
          refine Ev.bindc rfl ?_
          refine Ev.to (fun k => by rw [if_pos (by simp; omega)]) ?_
          refine Ev.bindc rfl ?_
          have hanti := sp_anti (sm ++ [P[i]]) (by rw [List.length_append, List.length_singleton]; omega) hs2 ((sm ++ [P[i]]).length + 1) (sm ++ [P[i]]) [] (by omega) rfl
          refine Ev.bind (show Ev (fun k => spec_cnAntichain.f k (sm ++ [P[i]])) _ from hanti) ?_
          have hsn := anti_snoc hsM hx hA
          show Ev (fun k => if antiOut (sm ++ [P[i]]) 0 (sm ++ [P[i]]) = true then _ else _) _
          rw [List.drop_eq_getElem_cons hlt, List.filter_cons] at hF
          cases hc : (sm.all fun a => !nearB a P[i]) with
          | false =>
            rw [hc] at hsn hF
            rw [if_neg (by decide)] at hF
            have hn := sf_l0 hPl hM d (i + 1) n sm r (by omega) (by omega) hsm hsM hA hF
            push_cast at hn
            exact Ev.to (fun k => by rw [if_neg (by rw [hsn]; decide), hws]) (by push_cast; exact hn)
          | true =>
            rw [hc] at hsn hF
            rw [if_pos rfl] at hF
            refine Ev.to (fun k => by rw [if_pos hsn, hws, hwn]) ?_
            have inner : ∀ r1, First n (((P.drop (i + 1)).filter fun y => sm.all fun a => !nearB a y).filter fun y => !nearB P[i] y) r1 → Ev (fun k => spec_cnFirst.f k P (sm ++ [P[i]]) ((i : Int) + 1) (n : Int)) (resOf (sm ++ [P[i]]) r1) := by
              intro r1 hF1
              match n, hF1 with
              | 0, hF1 =>
                have e : r1 = some [] := by cases hF1; rfl
                rw [e]
                exact Ev.succ (fun k => by simp only [spec_cnFirst.f]; rw [if_pos (by omega)]) (Ev.const (show some (sm ++ [P[i]], true) = some (sm ++ [P[i]] ++ [], true) by rw [List.append_nil]))
              | n + 1, hF1 =>
                rw [← compat_snoc] at hF1
                have hn := sf_l0 hPl hM d (i + 1) n (sm ++ [P[i]]) r1 (by omega) (by omega) (by rw [List.length_append, List.length_singleton]; omega) hs2 hsn hF1
                push_cast at hn
                exact Ev.succ (fun k => by simp only [spec_cnFirst.f]; rw [if_neg (by omega)]) (by push_cast; exact hn)
            cases hF with
            | @take _ _ _ A h1 =>
              have := inner _ h1
              refine Ev.bind this ?_
              exact Ev.to (fun k => if_pos rfl) (Ev.const (show some (sm ++ [P[i]] ++ A, true) = some (sm ++ (P[i] :: A), true) by rw [List.append_assoc]; rfl))
            | @skip _ _ _ _ h1 h2 =>
              have := inner _ h1
              refine Ev.bind this ?_
              have hn := sf_l0 hPl hM d (i + 1) n sm r (by omega) (by omega) hsm hsM hA h2
              push_cast at hn
              exact Ev.to (fun k => if_neg Bool.false_ne_true) (by push_cast; exact hn)
    · have hr : r = none := by
        cases r with
        | none => rfl
        | some A =>
          obtain ⟨h1, _, h3⟩ := first_some hF A rfl
          have h4 := h1.length_le
          have h5 := List.length_filter_le (fun y => sm.all fun a => !nearB a y) (P.drop i)
          rw [List.length_drop] at h5
          omega
      rw [hr]
      exact Ev.succ (g := fun _ => some ([], false)) (fun k => by simp only [spec_cnFirst.l0]; rw [hw1, if_neg (by push_cast; omega)]) (Ev.const rfl)
theorem greatestAntichain_both (n : Int) (l : List Int) (hlen : l.length < 1048577) : ∃ r, Ev (fun k => spec_GreatestAntichain.f k n l) r ∧ Ev (fun k => impl_GreatestAntichain.f k n l) r ∧ r.1.length ≤ 1048577 := by
  unfold spec_GreatestAntichain.f impl_GreatestAntichain.f
  cases hS : isSpaceB n l with
  | false =>
    refine ⟨([], false), ?_, ?_, by show (0 : Nat) ≤ _; omega⟩
    · refine Ev.bind (spGood_ok n l (by omega)) ?_
      exact Ev.to (fun k => by rw [hS, if_neg (by decide)]) (Ev.const rfl)
    · refine Ev.bindc (show impl_IsSpace.f n l = some false from congrArg some hS) ?_
      exact Ev.to (fun k => by rw [if_neg (by decide)]) (Ev.const rfl)
  | true =>
    obtain ⟨hPl, b, o, ho, hb, hP, hc⟩ := pathsMatch hS
    have hr : Rise (pathsL (famOf l) l) := paths_rise (risingB_rise (isSpaceB_parts hS).2.2.2.1)
    have hM : ∀ x ∈ pathsL (famOf l) l, 0 ≤ x ∧ x < 128 := fun x hx => isSpaceB_128 hS x (pathsL_mem hx).1
    have hl := rise_nodup_len hr hM
    obtain ⟨w, hw, ⟨A0, a1, a2, a3⟩, hmax⟩ := width_dil hr hM
    have hw2 := width_ok ho (by rw [hP.lo]; omega)
    have hcw : (chainsFrom (pathsL (famOf l) l) b o (pathsL (famOf l) l).length 0).length = w := by
      have h1 := width_both hP hc
      obtain ⟨k1, e1⟩ := hw
      obtain ⟨k2, e2⟩ := hw2
      have f1 : impl_width.f (max k1 k2) (pathsL (famOf l) l) = some (w : Int) := e1 (max k1 k2) (Nat.le_max_left _ _)
      have f2 : impl_width.f (max k1 k2) (pathsL (famOf l) l) = _ := e2 (max k1 k2) (Nat.le_max_right _ _)
      rw [f1] at f2
      have f3 := Option.some.inj f2
      rw [h1]
      omega
    have hwl : w ≤ 128 := by
      have := a1.length_le
      omega
    obtain ⟨r, hF⟩ := first_ex _ w (pathsL (famOf l) l) (Nat.le_refl _)
    obtain ⟨A, rfl⟩ : ∃ A, r = some A := by
      cases r with
      | some A => exact ⟨A, rfl⟩
      | none => exact absurd a3 (first_none hF rfl A0 a1 a2)
    obtain ⟨f1, f2, f3⟩ := first_some hF A rfl
    refine ⟨(A, true), ?_, ?_, by show A.length ≤ _; omega⟩
    · refine Ev.bind (spGood_ok n l (by omega)) ?_
      refine Ev.to (fun k => by rw [hS, if_pos rfl]) ?_
      refine Ev.bind (irr_ok hS hlen) ?_
      refine Ev.bind (cnChains_ok hP hPl hb) ?_
      have hall : ((pathsL (famOf l) l).filter fun y => ([] : List Int).all fun a => !nearB a y) = pathsL (famOf l) l := List.filter_eq_self.2 fun _ _ => rfl
      have key : Ev (fun k => spec_cnFirst.f k (pathsL (famOf l) l) [] 0 ((chainsFrom (pathsL (famOf l) l) b o (pathsL (famOf l) l).length 0).length : Int)) (A, true) := by
        rw [hcw]
        match w, hF, hwl, f3 with
        | 0, hF, _, f3 =>
          rw [List.eq_nil_of_length_eq_zero f3]
          exact Ev.succ (fun k => by simp only [spec_cnFirst.f]; rw [if_pos (by omega)]) (Ev.const rfl)
        | n + 1, hF, hwl, _ =>
          have := sf_l0 hl hM (pathsL (famOf l) l).length 0 n [] (some A) (by omega) (by omega) (by simp only [List.length_nil]; omega) (fun x hx => by cases hx) rfl (by rw [List.drop_zero, hall]; exact hF)
          have this : Ev (fun k => spec_cnFirst.l0 k (pathsL (famOf l) l) [] ((n + 1 : Nat) : Int) 0) (A, true) := this
          exact Ev.succ (fun k => by simp only [spec_cnFirst.f]; rw [if_neg (by omega)]) this
      exact Ev.bind key (Ev.const rfl)
    · refine Ev.bindc (show impl_IsSpace.f n l = some true from congrArg some hS) ?_
      refine Ev.to (fun k => by rw [if_pos rfl]) ?_
      refine Ev.bind (paths_ok hS hlen) ?_
      refine Ev.bind hw ?_
      have := ga_l0 (left := pathsL (famOf l) l) (out := []) (A := A) (n := w) (by omega) (fun hz => List.eq_nil_of_length_eq_zero (by omega)) (fun hz => ga_l1 hF A rfl _ [] [] rfl hr hM (by simp only [List.length_nil]; omega) hz)
      exact this
theorem FnExactGreatestAntichain : PureFnExactGreatestAntichain := by
  intro n0 l0 _ _ hl0
  refine Ev.rounds ?_
  unfold laws_FnExactGreatestAntichain.f
  by_cases hb0 : (1048576 : Int) < l0.length
  · refine Ev.bindc (szSpace_over n0 l0 _ (by omega) hl0 hb0 (by omega)) ?_
    exact Ev.to (fun k => by rw [if_pos (by decide)]) (Ev.const rfl)
  · refine Ev.bindc (szSpace_fits n0 l0 _ (by omega) (by omega)) ?_
    refine Ev.to (fun k => by rw [if_neg (by omega)]) ?_
    obtain ⟨⟨r0, r1⟩, h1, h2, z0⟩ := greatestAntichain_both n0 l0 (by omega)
    replace z0 : r0.length ≤ 1048577 := z0
    have a0_ := toSpace_ok n0 l0 (by omega)
    have e0_ := eqSpace_refl n0 l0 (by omega)
    have m0_ := markSpace_ok n0 l0 (1) (by omega) (by omega)
    have g0_ := eqIntS_refl r0 (by omega)
    have p0_ := markIntS_ok r0 (1) (by omega) (by omega)
    have d0_ := heldIntS_ok (1) r0.length (by omega) (by omega)
    repeat (first | exact Ev.const rfl | (with_reducible refine Ev.bind h1 ?_) | (with_reducible refine Ev.bind h2 ?_) | (with_reducible refine Ev.bind a0_ ?_) | (with_reducible refine Ev.bind e0_ ?_) | (with_reducible refine Ev.bind m0_ ?_) | (with_reducible refine Ev.bind g0_ ?_) | (with_reducible refine Ev.bind p0_ ?_) | (with_reducible refine Ev.bind d0_ ?_) | refine Ev.to (fun k => by rw [if_pos rfl]) ?_ | refine Ev.to (fun k => by rw [if_neg (by omega)]) ?_ | refine Ev.to (fun k => by rw [if_neg (by simp)]) ?_ | refine Ev.succ (fun k => by simp only [laws_FnExactGreatestAntichain.j0]; rw [if_neg (by simp)]) ?_ | refine Ev.succ (fun k => by simp only [laws_FnExactGreatestAntichain.j1]; rw [if_neg (by simp)]) ?_ | refine Ev.succ (fun k => by simp only [laws_FnExactGreatestAntichain.j2]; rw [if_neg (by simp)]) ?_ | refine Ev.succ (fun k => by simp only [laws_FnExactGreatestAntichain.j3]; rw [if_neg (by simp)]) ?_)


end Go.Proofs.Ytkepeflplmkcmaa.Q
