/- The pure side of the law FnExactMeetOfSpaces: the program and the reference tell the same meet of two spaces. Conditions: none. -/
import Derived.Test.YtpilnkaiepdemaaPx1
import Derived.Test.YtpilnkaiepdemaaPx2
import Derived.Test.YtpilnkaiepdemaaPx3
import Derived.Test.YtpilnkaiepdemaaPx4
import Derived.Test.YtpilnkaiepdemaaPx5
import Derived.Test.YtpilnkaiepdemaaPx6
import Derived.Test.YtpilnkaiepdemaaPx7
import Derived.Test.YtpilnkaiepdemaaOpens
namespace Go.Proofs.Ytpilnkaiepdemaa.Q
open Go.RowKit Go.Proofs.Ytpilnkaiepdemaa.Opens Go.Proofs.YtpilnkaiepdemaaW.PrintWords Go.Proofs.YtpilnkaiepdemaaW.PrintLast Go.Proofs.YtpilnkaiepdemaaW.PrintMore
set_option linter.unusedVariables false
set_option linter.unusedSimpArgs false

/-- THE ONE PURE STATEMENT of FnExactMeetOfSpaces. -/
def PureFnExactMeetOfSpaces : Prop := ∀ (a0_0 : Int) (l0_1 : List Int) (a1_0 : Int) (l1_1 : List Int), Int64 a0_0 → AllOk Int64 l0_1 → l0_1.length ≤ 9223372036854775807 → Int64 a1_0 → AllOk Int64 l1_1 → l1_1.length ≤ 9223372036854775807 → ∃ k, laws_FnExactMeetOfSpaces.f k a0_0 l0_1 a1_0 l1_1 = some true
theorem filter_one (p : Int → Bool) (x : Int) : [x].filter p = if p x = true then [x] else [] := by
  cases h : p x with
  | true => rw [List.filter_cons_of_pos h]; rfl
  | false => rw [List.filter_cons_of_neg (by rw [h]; decide)]; rfl
theorem meet_take (l l2 : List Int) (i : Nat) (h : i < l.length) : meetL l l2 (l.take (i + 1)) = meetL l l2 (l.take i) ++ (if inMeet (famOf l) (famOf l2) (rd l i).toNat = true then [rd l i] else []) := by
  unfold meetL
  rw [take_rd l i h, List.filter_append, filter_one]
theorem meetL_len (l l2 : List Int) (i : Nat) : (meetL l l2 (l.take i)).length ≤ l.length := by
  unfold meetL
  have h1 := List.length_filter_le (fun x => inMeet (famOf l) (famOf l2) (Int.toNat x)) (l.take i)
  have h2 := List.length_take_le i l
  have h3 : (l.take i).length ≤ l.length := by rw [List.length_take]; omega
  omega
theorem spMeet_loop {n : Int} {l l2 : List Int} (h1 : isSpaceB n l = true) (h2 : isSpaceB n l2 = true) (hlen : l.length < 1048577) (hlen2 : l2.length < 1048577) (b : Int) (r : Int × List Int × Bool)
    (hend : Ev (fun k => (spec_spHas.f k (meetL l l2 l) (wrap64 (shl .i64 1 n - 1))).bind fun t107 => if t107 = true then some (n, meetL l l2 l, true) else some (0, [], false)) r) :
    ∀ (d i : Nat), l.length - i = d → i ≤ l.length → Ev (fun k => spec_MeetOfSpaces.l0 k l l.length i b l2 n (meetL l l2 (l.take i))) r := by
  obtain ⟨n1, n7, hl, hR, hz, _, _⟩ := isSpaceB_parts h1
  obtain ⟨_, _, hl2, hR2, hz2, _, _⟩ := isSpaceB_parts h2
  have hr := risingB_rise hR
  have hr2 := risingB_rise hR2
  have h0 : (0 : Int) ∈ l := by
    have := hz
    rw [famOf_getD l 0 (by omega), decide_eq_true_eq] at this
    exact this
  have h02 : (0 : Int) ∈ l2 := by
    have := hz2
    rw [famOf_getD l2 0 (by omega), decide_eq_true_eq] at this
    exact this
  intro d
  induction d with
  | zero =>
    intro i hd hi
    obtain rfl : i = l.length := by omega
    rw [List.take_length]
    refine Ev.succ (fun k => by simp only [spec_MeetOfSpaces.l0]; rw [if_neg (by omega), if_pos (by omega)]) ?_
    exact hend
  | succ d ih =>
    intro i hd hi
    have hil : i < l.length := by omega
    have hx := isSpaceB_128 h1 (rd l i) (rd_mem (by omega) (by omega))
    have hml := meetL_len l l2 i
    have ht := meet_take l l2 i hil
    have hnext := ih (i + 1) (by omega) (by omega)
    push_cast at hnext
    refine Ev.succ (fun k => by simp only [spec_MeetOfSpaces.l0]; rw [if_pos (by omega), if_pos (by omega), if_pos (by omega)]) ?_
    refine Ev.bind (spHas_ok hr2 (by omega) _) ?_
    by_cases hm : rd l (i : Int) ∈ l2
    · refine Ev.to (fun k => by rw [if_pos (decide_eq_true hm)]) ?_
      by_cases hxz : rd l (i : Int) = 0
      · rw [hxz] at ht
        rw [show inMeet (famOf l) (famOf l2) (0 : Int).toNat = true from inMeet_zero _ _, if_pos rfl] at ht
        rw [ht] at hnext
        refine Ev.to (fun k => by rw [if_pos hxz, if_pos (by omega), wrap_succ (by omega) (by omega), hxz]) ?_
        exact hnext
      · refine Ev.to (fun k => by rw [if_neg hxz]) ?_
        have hrise : Rise (meetL l l2 (l.take i)) := rise_of_inc ((hr.inc.sublist (List.take_sublist _ _)).filter _)
        refine Ev.bind (spInner_ok hrise (by omega) _ hx.1 hx.2) ?_
        have hkey := meetL_inner (l2 := l2) hr h0 hil hx.1 hx.2 hxz hm
        cases hb : inMeet (famOf l) (famOf l2) (rd l (i : Int)).toNat with
        | false =>
          rw [hb, if_neg (by decide), List.append_nil] at ht
          rw [ht] at hnext
          refine Ev.to (fun k => by rw [if_pos (by exact_mod_cast hkey.2 hb), wrap_succ (by omega) (by omega)]) ?_
          exact hnext
        | true =>
          rw [hb, if_pos rfl] at ht
          rw [ht] at hnext
          have hne : ¬ ((innerF (famOf (meetL l l2 (l.take i))) (rd l (i : Int)).toNat : Nat) : Int) = 0 := by
            intro h
            have := hkey.1 (by exact_mod_cast h)
            rw [hb] at this
            cases this
          refine Ev.to (fun k => by rw [if_neg hne, if_pos (by omega), wrap_succ (by omega) (by omega)]) ?_
          exact hnext
    · have hb : inMeet (famOf l) (famOf l2) (rd l (i : Int)).toNat = false := by
        rw [Bool.eq_false_iff]
        intro h
        by_cases hxz : rd l (i : Int) = 0
        · exact hm (hxz ▸ h02)
        · have := (inMeet_both (by omega) h (by omega)).2
          rw [famOf_getD _ _ (by omega), decide_eq_true_eq, show (((rd l (i : Int)).toNat : Nat) : Int) = rd l i by omega] at this
          exact hm this
      rw [hb, if_neg (by decide), List.append_nil] at ht
      rw [ht] at hnext
      refine Ev.to (fun k => by rw [if_neg (by simpa using hm), wrap_succ (by omega) (by omega)]) ?_
      exact hnext
theorem meet_both (n : Int) (l : List Int) (n2 : Int) (l2 : List Int) (hlen : l.length < 1048577) (hlen2 : l2.length < 1048577) : ∃ r, Ev (fun k => spec_MeetOfSpaces.f k n l n2 l2) r ∧ impl_MeetOfSpaces.f n l n2 l2 = some r ∧ r.2.1.length ≤ 1048577 := by
  refine ⟨_, ?_, rfl, ?_⟩
  · have hj : ∀ n l n2 l2, Ev (fun k => spec_MeetOfSpaces.j0 k true n l n2 l2) (0, [], false) := fun n l n2 l2 => Ev.succ (fun k => by simp only [spec_MeetOfSpaces.j0]; rw [if_pos trivial]) (Ev.const rfl)
    unfold spec_MeetOfSpaces.f
    refine Ev.bind (spGood_ok n l (by omega)) ?_
    cases h : isSpaceB n l with
    | false => exact Ev.val (Ev.to (fun k => by rw [if_neg (by decide)]) (hj n l n2 l2)) (by simp)
    | true =>
      refine Ev.to (fun k => by rw [if_pos rfl]) ?_
      refine Ev.bind (spGood_ok n2 l2 (by omega)) ?_
      cases h2 : isSpaceB n2 l2 with
      | false => exact Ev.val (Ev.to (fun k => by rw [if_neg (by decide)]) (hj n l n2 l2)) (by simp)
      | true =>
        refine Ev.to (fun k => by rw [if_pos rfl]) ?_
        by_cases hn : n = n2
        · subst hn
          obtain ⟨n1, n7, hl, hR, hz, hz1, _⟩ := isSpaceB_parts h
          have hr := risingB_rise hR
          have h0 : (0 : Int) ∈ l := by
            have := hz
            rw [famOf_getD l 0 (by omega), decide_eq_true_eq] at this
            exact this
          have hall : (2 ^ n.toNat - 1 : Int) ∈ l := by
            have := hz1
            rw [getD_pow l n1 n7, decide_eq_true_eq] at this
            exact this
          have hp := pow128 (n := n) (by omega) n7
          have hmall := meetL_all (l2 := l2) hr (isSpaceB_128 h) h0
          have hmem : ((2 ^ n.toNat - 1 : Int) ∈ meetL l l2 l) ↔ (meetTo (famOf l) (famOf l2) 128).getD (2 ^ n.toNat - 1) false = true := by
            unfold meetL
            rw [List.mem_filter, ← toNat_pow (n := n) rfl]
            exact ⟨fun h => h.2, fun h => ⟨hall, h⟩⟩
          refine Ev.succ (fun k => by simp only [spec_MeetOfSpaces.j0]; rw [if_neg (by simp)]) ?_
          refine spMeet_loop h h2 hlen hlen2 n _ (?_) l.length 0 (by omega) (by omega)
          · rw [wrapPow (by omega) n7]
            have hrm : Rise (meetL l l2 l) := rise_of_inc (hr.inc.filter _)
            have hml := meetL_len l l2 l.length
            rw [List.take_length] at hml
            refine Ev.bind (spHas_ok hrm (by omega) _) ?_
            by_cases hq : (2 ^ n.toNat - 1 : Int) ∈ meetL l l2 l
            · refine Ev.val (Ev.to (fun k => by rw [if_pos (decide_eq_true hq)]) (Ev.const rfl)) ?_
              rw [if_pos (by rfl), if_pos rfl, if_pos (hmem.1 hq), hmall]
            · refine Ev.val (Ev.to (fun k => by rw [if_neg (by simpa using hq)]) (Ev.const rfl)) ?_
              rw [if_pos (by rfl), if_pos rfl, if_neg (fun h => hq (hmem.2 h))]
        · refine Ev.val (Ev.to (fun k => by rw [show (n != n2) = true by simpa using hn]) (hj n l n2 l2)) ?_
          simp [hn]
  · have hs : ∀ F, (setsOf F).length ≤ 1048577 := fun F => by
      have := setsTo_length F 128
      show (setsTo F 128).length ≤ _
      omega
    generalize meetTo (famOf l) (famOf l2) 128 = G
    show (ite _ _ _ : Int × List Int × Bool).2.1.length ≤ _
    split
    · split
      · split
        · exact hs _
        · exact Nat.zero_le _
      · exact Nat.zero_le _
    · exact Nat.zero_le _
theorem FnExactMeetOfSpaces : PureFnExactMeetOfSpaces := by
  intro n l n2 l2 _ _ hlen _ _ hlen2
  refine Ev.rounds ?_
  unfold laws_FnExactMeetOfSpaces.f
  by_cases hl : (1048576 : Int) < l.length
  · refine Ev.bindc (szSpace_over n l 1048576 (by omega) hlen hl (by omega)) ?_
    exact Ev.to (fun k => by rw [if_pos (by decide)]) (Ev.const rfl)
  · refine Ev.bindc (szSpace_fits n l 1048576 (by omega) (by omega)) ?_
    refine Ev.to (fun k => by rw [if_neg (by omega)]) ?_
    by_cases hl2 : (1048576 : Int) - l.length < l2.length
    · refine Ev.bindc (szSpace_over n2 l2 _ (by omega) hlen2 hl2 (by omega)) ?_
      exact Ev.to (fun k => by rw [if_pos (by decide)]) (Ev.const rfl)
    · refine Ev.bindc (szSpace_fits n2 l2 _ (by omega) (by omega)) ?_
      refine Ev.to (fun k => by rw [if_neg (by omega)]) ?_
      obtain ⟨⟨r0, r1, r2⟩, h1, h2, hr⟩ := meet_both n l n2 l2 (by omega) (by omega)
      replace hr : r1.length ≤ 1048577 := hr
      have a1 := toSpace_ok n l (by omega)
      have a2 := toSpace_ok n2 l2 (by omega)
      have e1 := eqSpace_refl n l (by omega)
      have e2 := eqSpace_refl n2 l2 (by omega)
      have e3 := eqSpace_refl r0 r1 (by omega)
      have m1 := markSpace_ok n l 1 (by omega) (by omega)
      have m2 := markSpace_ok n2 l2 (1 + l.length) (by omega) (by omega)
      have m3 := markSpace_ok r0 r1 1 (by omega) (by omega)
      have d1 := heldSpace_ok r0 1 r1.length (by omega) (by omega)
      repeat (first | exact Ev.const rfl | (with_reducible refine Ev.bind a1 ?_) | (with_reducible refine Ev.bind a2 ?_) | (with_reducible refine Ev.bind h1 ?_) | (with_reducible refine Ev.bindc h2 ?_) | (with_reducible refine Ev.bind e1 ?_) | (with_reducible refine Ev.bind e2 ?_) | (with_reducible refine Ev.bind e3 ?_) | (with_reducible refine Ev.bind m1 ?_) | (with_reducible refine Ev.bind m2 ?_) | (with_reducible refine Ev.bind m3 ?_) | (with_reducible refine Ev.bind d1 ?_) | refine Ev.to (fun k => by rw [if_pos rfl]) ?_ | refine Ev.to (fun k => by rw [if_neg (by omega)]) ?_ | refine Ev.succ (fun k => by simp only [laws_FnExactMeetOfSpaces.j0]; rw [if_neg (by simp)]) ?_ | refine Ev.succ (fun k => by simp only [laws_FnExactMeetOfSpaces.j1]; rw [if_neg (by simp)]) ?_ | refine Ev.succ (fun k => by simp only [laws_FnExactMeetOfSpaces.j2]; rw [if_neg (by simp)]) ?_)

end Go.Proofs.Ytpilnkaiepdemaa.Q
