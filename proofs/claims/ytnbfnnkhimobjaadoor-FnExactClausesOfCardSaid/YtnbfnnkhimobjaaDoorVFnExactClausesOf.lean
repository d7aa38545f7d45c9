/- The pure side of the law FnExactClausesOf: the program and the reference tell the same clauses. Conditions: none. -/
import Derived.Test.YtnbfnnkhimobjaaDoorPx1
import Derived.Test.YtnbfnnkhimobjaaDoorPx2
import Derived.Test.YtnbfnnkhimobjaaDoorPx3
import Derived.Test.YtnbfnnkhimobjaaDoorPx4
import Derived.Test.YtnbfnnkhimobjaaDoorPx5
import Derived.Test.YtnbfnnkhimobjaaDoorPx6
import Derived.Test.YtnbfnnkhimobjaaDoorOpens
namespace Go.Proofs.YtnbfnnkhimobjaaDoor.Q
open Go.RowKit Go.Proofs.YtnbfnnkhimobjaaDoor.Opens Go.Proofs.YtnbfnnkhimobjaaDoorW.PrintWords Go.Proofs.YtnbfnnkhimobjaaDoorW.PrintLast Go.Proofs.YtnbfnnkhimobjaaDoorW.PrintMore
set_option linter.unusedVariables false
set_option linter.unusedSimpArgs false

/-- THE ONE PURE STATEMENT of FnExactClausesOf. -/
def PureFnExactClausesOf : Prop := ∀ (a0_0 : Int) (l0_1 : List Int), Int64 a0_0 → AllOk Int64 l0_1 → l0_1.length ≤ 9223372036854775807 → ∃ k, laws_FnExactClausesOf.f k a0_0 l0_1 = some true
/-- A clause: an end, and the rest of its path. -/
def rowE (i : Nat) (x : Int) : List Int := [(i : Int), Go.bits .andNot .i64 x (shl .i64 1 (i : Int))]
def clausesTo (F : List Bool) (l : List Int) : Nat → Nat → List (List Int) → List (List Int)
  | 0, _, acc => acc
  | d + 1, i, acc => clausesTo F l d (i + 1) (acc ++ (pathsToL F l i).map (rowE i))
theorem pathsToL_len (F : List Bool) (l : List Int) (i : Int) : (pathsToL F l i).length ≤ l.length := Nat.le_trans (List.length_filter_le _ _) (List.length_filter_le _ _)
theorem clausesTo_rows (F : List Bool) (l : List Int) : ∀ (d i : Nat) (acc : List (List Int)), (∀ x ∈ acc, x.length = 2) → (clausesTo F l d i acc).length ≤ acc.length + d * l.length ∧ ∀ x ∈ clausesTo F l d i acc, x.length = 2
  | 0, i, acc, h => ⟨by show acc.length ≤ _; omega, h⟩
  | d + 1, i, acc, h => by
    have h1 := clausesTo_rows F l d (i + 1) (acc ++ (pathsToL F l i).map (rowE i)) (fun x hx => by
      rcases List.mem_append.1 hx with hx | hx
      · exact h x hx
      · obtain ⟨y, _, rfl⟩ := List.mem_map.1 hx
        rfl)
    refine ⟨?_, h1.2⟩
    have h2 := h1.1
    rw [List.length_append, List.length_map] at h2
    have h3 := pathsToL_len F l i
    show (clausesTo F l d (i + 1) _).length ≤ _
    rw [Nat.succ_mul]
    exact Nat.le_trans h2 (by omega)
theorem specCl_l1 {n : Int} {l : List Int} (hS : isSpaceB n l = true) (hlen : l.length < 1048577) (P : List Int) (hP : ∀ x ∈ P, (0 ≤ x ∧ x < 128) ∧ innerF (famOf l) x.toNat ≠ 0) (hPl : P.length ≤ 1000) (i : Nat) (hi : i < 100) (R : List (List Int) × Bool) :
    ∀ (d j : Nat) (acc : List (List Int)), P.length - j = d → j ≤ P.length → acc.length + d ≤ 100000 → Ev (fun k => spec_ClausesOf.l0 k (acc ++ ((P.drop j).filter fun x => decide ((endN (famOf l) x : Int) = i)).map (rowE i)) ((i : Int) + 1) n l) R → Ev (fun k => spec_ClausesOf.l1 k acc i P P.length j n l) R
  | 0, j, acc, hd, hj, ha, hR => by
    have hws : wrap64 ((i : Int) + 1) = i + 1 := wrap_succ (by omega) (by omega)
    rw [List.drop_of_length_le (by omega)] at hR
    have hR' : Ev (fun k => spec_ClausesOf.l0 k acc ((i : Int) + 1) n l) R := by simpa using hR
    exact Ev.succ (fun k => by simp only [spec_ClausesOf.l1]; rw [if_neg (by omega), hws]) hR'
  | d + 1, j, acc, hd, hj, ha, hR => by
    have HR := Aside0.mk hR
    clear hR
    have hlt : j < P.length := by omega
    have hj0 : (j : Int) < P.length := by omega
    have hacc : acc.length < 5864062014805 := by omega
    have hws : wrap64 ((j : Int) + 1) = j + 1 := wrap_succ (by omega) (by omega)
    have hn := fun acc' h' => specCl_l1 hS hlen P hP hPl i hi R d (j + 1) acc' (by omega) (by omega) h'
    have ha1 : acc.length + d ≤ 100000 := by omega
    push_cast at hn
    obtain ⟨⟨h0, h1⟩, hin⟩ := hP P[j] (List.getElem_mem hlt)
    have hR := HR.out
    rw [List.drop_eq_getElem_cons hlt, List.filter_cons] at hR
    refine Ev.succ (fun k => by simp only [spec_ClausesOf.l1]; rw [if_pos hj0, if_pos (Int.natCast_nonneg _), if_pos hj0, hws, rd_get hlt]) ?_
    refine Ev.bind (paEnd_ok hS hlen h0 h1 hin) ?_
    by_cases e : (endN (famOf l) P[j] : Int) = i
    · rw [if_pos (decide_eq_true e), List.map_cons, ← List.singleton_append, ← List.append_assoc] at hR
      exact Ev.to (fun k => by rw [if_pos e, if_pos (Int.natCast_nonneg _), if_pos hacc]; rfl) (hn (acc ++ [rowE i P[j]]) (by rw [List.length_append, List.length_singleton, Nat.add_assoc, Nat.add_comm 1]; exact ha) hR)
    · rw [if_neg (by rw [decide_eq_false e]; decide)] at hR
      exact Ev.to (fun k => by rw [if_neg e]) (hn acc ha1 hR)
theorem implCl_l1 {n : Int} {l : List Int} (Q : List Int) (hQl : Q.length ≤ 1000) (i : Nat) (hi : i < 100) (R : List (List Int) × Bool) :
    ∀ (d j : Nat) (acc : List (List Int)), Q.length - j = d → j ≤ Q.length → acc.length + d ≤ 100000 → Ev (fun k => impl_ClausesOf.l0 k (acc ++ (Q.drop j).map (rowE i)) n ((i : Int) + 1) n l) R → Ev (fun k => impl_ClausesOf.l1 k acc i n i Q Q.length j n l) R
  | 0, j, acc, hd, hj, ha, hR => by
    have hws : wrap64 ((i : Int) + 1) = i + 1 := wrap_succ (by omega) (by omega)
    rw [List.drop_of_length_le (by omega)] at hR
    have hR' : Ev (fun k => impl_ClausesOf.l0 k acc n ((i : Int) + 1) n l) R := by simpa using hR
    exact Ev.succ (fun k => by simp only [impl_ClausesOf.l1]; rw [if_neg (by omega), hws]) hR'
  | d + 1, j, acc, hd, hj, ha, hR => by
    have hlt : j < Q.length := by omega
    have hj0 : (j : Int) < Q.length := by omega
    have hacc : acc.length < 5864062014805 := by omega
    have hws : wrap64 ((j : Int) + 1) = j + 1 := wrap_succ (by omega) (by omega)
    have hn := fun acc' h' => implCl_l1 (n := n) (l := l) Q hQl i hi R d (j + 1) acc' (by omega) (by omega) h'
    push_cast at hn
    rw [List.drop_eq_getElem_cons hlt, List.map_cons, ← List.singleton_append, ← List.append_assoc] at hR
    exact Ev.succ (fun k => by simp only [impl_ClausesOf.l1]; rw [if_pos hj0, if_pos (Int.natCast_nonneg _), if_pos hj0, if_pos (Int.natCast_nonneg _), if_pos hacc, hws, rd_get hlt]; rfl) (hn (acc ++ [rowE i Q[j]]) (by rw [List.length_append, List.length_singleton, Nat.add_assoc, Nat.add_comm 1]; exact ha) hR)
theorem clauses_l0 {n : Int} {l : List Int} (hS : isSpaceB n l = true) (hlen : l.length < 1048577) : ∀ (d i : Nat) (acc : List (List Int)), i + d = n.toNat → acc.length + d * 128 ≤ 1000 →
    Ev (fun k => spec_ClausesOf.l0 k acc i n l) (clausesTo (famOf l) l d i acc, true) ∧ Ev (fun k => impl_ClausesOf.l0 k acc n i n l) (clausesTo (famOf l) l d i acc, true)
  | 0, i, acc, hd, ha => by
    obtain ⟨n1, n7, _⟩ := isSpaceB_parts hS
    exact ⟨Ev.succ (fun k => by simp only [spec_ClausesOf.l0]; rw [if_neg (by omega)]) (show Ev _ (acc, true) from Ev.const rfl), Ev.succ (fun k => by simp only [impl_ClausesOf.l0]; rw [if_neg (by omega)]) (show Ev _ (acc, true) from Ev.const rfl)⟩
  | d + 1, i, acc, hd, ha => by
    obtain ⟨n1, n7, _⟩ := isSpaceB_parts hS
    have hll := isSpaceB_len hS
    have hin : (i : Int) < n := by omega
    have hi100 : i < 100 := by omega
    have hPl : (pathsL (famOf l) l).length ≤ 128 := Nat.le_trans (List.length_filter_le _ _) hll
    have hQl : (pathsToL (famOf l) l i).length ≤ 128 := Nat.le_trans (pathsToL_len _ _ _) hll
    have ha2 : acc.length ≤ 1000 := by omega
    obtain ⟨h1, h2⟩ := clauses_l0 hS hlen d (i + 1) (acc ++ (pathsToL (famOf l) l i).map (rowE i)) (by omega) (by rw [List.length_append, List.length_map]; rw [Nat.succ_mul] at ha; omega)
    push_cast at h1 h2
    constructor
    · refine Ev.succ (fun k => by simp only [spec_ClausesOf.l0]; rw [if_pos hin]) ?_
      refine Ev.bind (paAll_ok hS hlen) ?_
      refine specCl_l1 hS hlen _ (fun x hx => ⟨isSpaceB_128 hS x (pathsL_mem hx).1, (pathsL_mem hx).2⟩) (Nat.le_trans hPl (by decide)) i hi100 _ _ 0 acc rfl (Nat.zero_le _) (by rw [Nat.sub_zero]; omega) ?_
      rw [List.drop_zero]
      exact h1
    · refine Ev.succ (fun k => by simp only [impl_ClausesOf.l0]; rw [if_pos hin]) ?_
      refine Ev.bind (pathsTo_ok hS hlen i) ?_
      refine implCl_l1 _ (Nat.le_trans hQl (by decide)) i hi100 _ _ 0 acc rfl (Nat.zero_le _) (by rw [Nat.sub_zero]; omega) ?_
      rw [List.drop_zero]
      exact h2
theorem clausesOf_both (n : Int) (l : List Int) (hlen : l.length < 1048577) : ∃ r, Ev (fun k => spec_ClausesOf.f k n l) r ∧ Ev (fun k => impl_ClausesOf.f k n l) r ∧ rowsB r.1 = true := by
  unfold spec_ClausesOf.f impl_ClausesOf.f
  cases hS : isSpaceB n l with
  | false =>
    refine ⟨([], false), ?_, ?_, rfl⟩
    · refine Ev.bind (spGood_ok n l (by omega)) ?_
      exact Ev.to (fun k => by rw [hS, if_neg (by decide)]) (Ev.const rfl)
    · refine Ev.bindc (show impl_IsSpace.f n l = some false from congrArg some hS) ?_
      exact Ev.to (fun k => by rw [if_neg (by decide)]) (Ev.const rfl)
  | true =>
    obtain ⟨n1, n7, _⟩ := isSpaceB_parts hS
    have hll := isSpaceB_len hS
    have hn7 : n.toNat ≤ 7 := by omega
    obtain ⟨h1, h2⟩ := clauses_l0 hS hlen n.toNat 0 [] (by omega) (by simp only [List.length_nil]; omega)
    refine ⟨(clausesTo (famOf l) l n.toNat 0 [], true), ?_, ?_, ?_⟩
    · refine Ev.bind (spGood_ok n l (by omega)) ?_
      refine Ev.to (fun k => by rw [hS, if_pos rfl]) ?_
      exact h1
    · refine Ev.bindc (show impl_IsSpace.f n l = some true from congrArg some hS) ?_
      refine Ev.to (fun k => by rw [if_pos rfl]) ?_
      exact h2
    · obtain ⟨h3, h4⟩ := clausesTo_rows (famOf l) l n.toNat 0 [] (fun x hx => by cases hx)
      have h5 : n.toNat * l.length ≤ 7 * 128 := Nat.mul_le_mul hn7 hll
      show rowsB (clausesTo (famOf l) l n.toNat 0 []) = true
      unfold rowsB
      rw [Bool.and_eq_true, decide_eq_true_eq, List.all_eq_true]
      refine ⟨?_, fun x hx => decide_eq_true (by rw [h4 x hx]; decide)⟩
      rw [List.length_nil, Nat.zero_add] at h3
      exact Nat.le_trans h3 (Nat.le_trans h5 (by decide))
theorem FnExactClausesOf : PureFnExactClausesOf := by
  intro n l _ _ _
  refine Ev.rounds ?_
  unfold laws_FnExactClausesOf.f
  by_cases h : (l.length : Int) ≤ 1048576
  · obtain ⟨r, h1, h2, h3⟩ := clausesOf_both n l (by omega)
    refine Ev.to (fun k => by rw [if_pos h]) ?_
    refine Ev.bind h1 (Ev.bind h2 ?_)
    exact Ev.to (fun k => by rw [if_pos ⟨rfl, h3⟩]) (Ev.const rfl)
  · exact Ev.to (fun k => by rw [if_neg h]) (Ev.const rfl)

end Go.Proofs.YtnbfnnkhimobjaaDoor.Q
