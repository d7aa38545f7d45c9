/- The pure side of the law FnExactAreMaking: the program and the reference tell alike whether words make a space. Conditions: none. -/
import Derived.Test.YtpamaelmdncpoaaPx1
import Derived.Test.YtpamaelmdncpoaaPx2
import Derived.Test.YtpamaelmdncpoaaPx3
import Derived.Test.YtpamaelmdncpoaaPx4
import Derived.Test.YtpamaelmdncpoaaPx5
import Derived.Test.YtpamaelmdncpoaaPx6
import Derived.Test.YtpamaelmdncpoaaPx7
import Derived.Test.YtpamaelmdncpoaaPx8
import Derived.Test.YtpamaelmdncpoaaPx9
import Derived.Test.YtpamaelmdncpoaaOpens
namespace Go.Proofs.Ytpamaelmdncpoaa.Q
open Go.RowKit Go.Proofs.Ytpamaelmdncpoaa.Opens Go.Proofs.YtpamaelmdncpoaaW.PrintWords Go.Proofs.YtpamaelmdncpoaaW.PrintLast Go.Proofs.YtpamaelmdncpoaaW.PrintMore
set_option linter.unusedVariables false
set_option linter.unusedSimpArgs false

/-- THE ONE PURE STATEMENT of FnExactAreMaking. -/
def PureFnExactAreMaking : Prop := ∀ (a0_0 : Int) (l0_1 : List Int) (l1 : List (List Int)), Int64 a0_0 → AllOk Int64 l0_1 → l0_1.length ≤ 9223372036854775807 → AllOk (fun x_ : List Int => x_.length ≤ 9223372036854775807 ∧ AllOk Int64 x_) l1 → l1.length ≤ 9223372036854775807 → ∃ k, laws_FnExactAreMaking.f k a0_0 l0_1 l1 = some true
theorem fullV_facts {n : Int} {l : List Int} {G : List Int} (h : fullV n l G = true) : (∀ i ∈ G, 0 ≤ i ∧ i < n) ∧ (G.length : Int) = n := by
  unfold fullV at h
  cases hW : wordB n (famOf l) 0 G with
  | false => rw [hW, if_neg (by decide)] at h; cases h
  | true =>
    rw [hW, if_pos rfl] at h
    exact ⟨fun i hi => ((word_facts G 0 hW).1 i hi).1, by simpa using h⟩
theorem grWord_full {n : Int} {l : List Int} (hS : isSpaceB n l = true) (G : List Int) (hGl : G.length < 1048577) : Ev (fun k => spec_grWord.f k n l G) (fullV n l G) := by
  obtain ⟨b, h1, h2, _⟩ := full_both hS G hGl
  have h3 := isFull_ok hS G (by omega)
  obtain ⟨k1, hk1⟩ := h2
  obtain ⟨k2, hk2⟩ := h3
  have e1 := hk1 (max k1 k2) (Nat.le_max_left _ _)
  have e2 := hk2 (max k1 k2) (Nat.le_max_right _ _)
  rw [e1] at e2
  rw [← Option.some.inj e2]
  exact h1
theorem am_words {n : Int} {l : List Int} (hS : isSpaceB n l = true) (ws : List (List Int)) (hl : ws.length ≤ 1048576) (hw : ∀ w ∈ ws, w.length ≤ 1048576) (r : Bool × Bool) :
    ∀ (B A : List (List Int)), A ++ B = ws → (B.any (fun x => !fullV n l x) = true → Ev (fun k => spec_AreMaking.l0 k ws ws ws.length A.length n l) (false, false)) ∧ (B.any (fun x => !fullV n l x) = false → Ev (fun k => if (ws.length : Int) > 0 then (spec_cnJoin.f k ws).bind fun t105 => ((spec_l1Same.f k t105 l).bind fun t108 => (some (t108, true))) else some (false, true)) r → Ev (fun k => spec_AreMaking.l0 k ws ws ws.length A.length n l) r)
  | [], A, hA => by
    rw [List.append_nil] at hA
    subst hA
    exact ⟨fun h => absurd h (by simp), fun _ hr => Ev.succ (fun k => by simp only [spec_AreMaking.l0]; rw [if_neg (by omega)]) hr⟩
  | w :: B, A, hA => by
    have hlt : A.length < ws.length := by rw [← hA]; simp
    have hrd : rd_L9 ws (A.length : Int) = w := by rw [← hA]; exact cj_snoc A B w
    have hwl := hw w (by rw [← hA]; simp)
    have hn := am_words hS ws hl hw r B (A ++ [w]) (by rw [List.append_assoc]; exact hA)
    rw [List.length_append, List.length_singleton] at hn
    push_cast at hn
    have hstep : ∀ r', Ev (fun k => if fullV n l w = true then (spec_AreMaking.l0 k ws ws ws.length ((A.length : Int) + 1) n l) else some (false, false)) r' → Ev (fun k => spec_AreMaking.l0 k ws ws ws.length A.length n l) r' := by
      intro r' hr'
      refine Ev.succ (fun k => by simp only [spec_AreMaking.l0]; rw [if_pos (by omega), if_pos (by omega), if_pos (by omega), hrd, wrap_succ (by omega) (by omega)]) ?_
      exact Ev.bind (grWord_full hS w (by omega)) hr'
    cases hf : fullV n l w with
    | true =>
      rw [hf] at hstep
      rw [List.any_cons, hf]
      refine ⟨fun h => hstep _ (Ev.to (fun k => by rw [if_pos rfl]) (hn.1 (by simpa using h))), fun h hr => hstep _ (Ev.to (fun k => by rw [if_pos rfl]) (hn.2 (by simpa using h) hr))⟩
    | false =>
      rw [hf] at hstep
      rw [List.any_cons, hf]
      exact ⟨fun _ => hstep _ (Ev.to (fun k => by rw [if_neg (by decide)]) (Ev.const rfl)), fun h => absurd h (by simp)⟩
theorem areMaking_both (n : Int) (l : List Int) (ws : List (List Int)) (hlen : l.length < 1048577) (hl : ws.length ≤ 1048576) (hw : ∀ w ∈ ws, w.length ≤ 1048576) : ∃ r, Ev (fun k => spec_AreMaking.f k n l ws) r ∧ Ev (fun k => impl_AreMaking.f k n l ws) r := by
  have hsj : Ev (fun k => spec_AreMaking.j0 k ws true n l) (false, false) := Ev.succ (fun k => by simp only [spec_AreMaking.j0]; rw [if_pos trivial]) (Ev.const rfl)
  have hij : Ev (fun k => impl_AreMaking.j0 k ws true n l) (false, false) := Ev.succ (fun k => by simp only [impl_AreMaking.j0]; rw [if_pos trivial]) (Ev.const rfl)
  unfold spec_AreMaking.f impl_AreMaking.f
  cases hS : isSpaceB n l with
  | false =>
    refine ⟨(false, false), ?_, ?_⟩
    · refine Ev.bind (spGood_ok n l (by omega)) ?_
      exact Ev.to (fun k => by rw [hS, if_neg (by decide)]) hsj
    · refine Ev.bindc (show impl_IsSpace.f n l = some (isSpaceB n l) from rfl) ?_
      exact Ev.to (fun k => by rw [hS, if_neg (by decide)]) hij
  | true =>
    obtain ⟨n1, n7, _⟩ := isSpaceB_parts hS
    by_cases h35 : (ws.length : Int) > 35
    · refine ⟨(false, false), ?_, ?_⟩
      · refine Ev.bind (spGood_ok n l (by omega)) ?_
        exact Ev.to (fun k => by rw [hS, if_pos rfl, decide_eq_true h35]) hsj
      · refine Ev.bindc (show impl_IsSpace.f n l = some (isSpaceB n l) from rfl) ?_
        exact Ev.to (fun k => by rw [hS, if_pos rfl, if_pos h35]) hij
    · have hany : impl_AreMaking_any.f n l ws = some (ws.any fun x => !fullV n l x) := if_pos hS
      have hsp : ∀ r, Ev (fun k => spec_AreMaking.l0 k ws ws ws.length 0 n l) r → Ev (fun k => (spec_spGood.f k n l).bind fun t102 => (if t102 = true then (spec_AreMaking.j0 k ws (decide ((ws.length : Int) > 35)) n l) else (spec_AreMaking.j0 k ws true n l))) r := by
        intro r hr
        refine Ev.bind (spGood_ok n l (by omega)) ?_
        refine Ev.to (fun k => by rw [hS, if_pos rfl, decide_eq_false h35]) ?_
        exact Ev.succ (fun k => by simp only [spec_AreMaking.j0]; rw [if_neg (by decide)]) hr
      have him : ∀ r, Ev (fun k => impl_AreMaking.j0 k ws (ws.any fun x => !fullV n l x) n l) r → Ev (fun k => (impl_IsSpace.f n l).bind fun t102 => (if t102 = true then (if (ws.length : Int) > 35 then (impl_AreMaking.j0 k ws true n l) else ((impl_AreMaking_any.f n l ws).bind fun t103 => (impl_AreMaking.j0 k ws t103 n l))) else (impl_AreMaking.j0 k ws true n l))) r := by
        intro r hr
        refine Ev.bindc (show impl_IsSpace.f n l = some (isSpaceB n l) from rfl) ?_
        refine Ev.to (fun k => by rw [hS, if_pos rfl, if_neg h35]) ?_
        exact Ev.bindc hany hr
      cases ha : ws.any (fun x => !fullV n l x) with
      | true =>
        rw [ha] at him
        refine ⟨(false, false), hsp _ ?_, him _ hij⟩
        exact (am_words hS ws hl hw (false, true) ws [] rfl).1 ha
      | false =>
        rw [ha] at him
        have hfull : ∀ w ∈ ws, fullV n l w = true := by
          intro w hw2
          rw [List.any_eq_false] at ha
          have := ha w hw2
          simpa using this
        have hww : ∀ w ∈ ws, (∀ i ∈ w, 0 ≤ i ∧ i < 7) ∧ w.length ≤ 7 := by
          intro w hw2
          obtain ⟨h1, h2⟩ := fullV_facts (hfull w hw2)
          exact ⟨fun i hi => by have := h1 i hi; omega, by omega⟩
        by_cases h0 : (ws.length : Int) > 0
        · obtain ⟨R, hR1, hR2, hR3⟩ := cnJoin_ok ws hww (by omega)
          obtain ⟨Q, hQ1, hQ2, hQ3⟩ := spaceOf_ok n ws hww (by omega)
          have hRQ : R = setsOf Q := by
            refine inc_ext hR2 (setsOf_inc Q) (fun z => ?_)
            rw [hR3 z, setsOf_mem]
            constructor
            · rintro ⟨m, rfl, hu⟩
              have hm : m < 2 ^ 7 := hu.lt (fun y hy => by
                obtain ⟨w, hw2, h | h⟩ := hy
                · have := List.mem_singleton.1 h; omega
                · have := chainFrom_128 w 0 (by decide) (hww w hw2).1 _ h; omega)
              refine ⟨by omega, by omega, ?_⟩
              rw [Int.toNat_natCast]
              exact (hQ3 m).2 (hu.mono (fun y hy => by
                obtain ⟨w, hw2, h | h⟩ := hy
                · have h2 := List.mem_singleton.1 h
                  obtain rfl : y = 0 := by omega
                  exact .zero
                · exact .base ⟨w, hw2, h⟩))
            · rintro ⟨z0, z1, hz⟩
              exact ⟨z.toNat, by omega, ((hQ3 z.toNat).1 hz).mono (fun y ⟨w, hw2, h⟩ => .base ⟨w, hw2, .inr h⟩)⟩
          have hRl : R.length ≤ 128 := by rw [hRQ]; exact inc_length _ 0 128 (setsOf_inc Q) (fun z hz => by have := (setsOf_mem Q z).1 hz; omega)
          refine ⟨(decide (R = l), true), hsp _ ?_, him _ ?_⟩
          · refine (am_words hS ws hl hw (decide (R = l), true) ws [] rfl).2 ha ?_
            refine Ev.to (fun k => by rw [if_pos h0]) ?_
            refine Ev.bind hR1 ?_
            exact Ev.bind (l1Same_ok R l (by omega)) (Ev.const rfl)
          · refine Ev.succ (fun k => by simp only [impl_AreMaking.j0]; rw [if_neg (by decide), if_pos h0]) ?_
            refine Ev.bind hQ1 ?_
            rw [hRQ]
            exact Ev.bind (sEqual_ok (setsOf Q) l (by rw [← hRQ]; omega)) (Ev.const rfl)
        · refine ⟨(false, true), hsp _ ?_, him _ ?_⟩
          · exact (am_words hS ws hl hw (false, true) ws [] rfl).2 ha (Ev.to (fun k => by rw [if_neg h0]) (Ev.const rfl))
          · exact Ev.succ (fun k => by simp only [impl_AreMaking.j0]; rw [if_neg (by decide), if_neg h0]) (Ev.const rfl)
theorem FnExactAreMaking : PureFnExactAreMaking := by
  intro n l ws _ _ hlen hrows hwl
  refine Ev.rounds ?_
  unfold laws_FnExactAreMaking.f
  by_cases hb : (1048576 : Int) < l.length
  · refine Ev.bindc (szSpace_over n l 1048576 (by omega) hlen hb (by omega)) ?_
    exact Ev.to (fun k => by rw [if_pos (by decide)]) (Ev.const rfl)
  · refine Ev.bindc (szSpace_fits n l 1048576 (by omega) (by omega)) ?_
    refine Ev.to (fun k => by rw [if_neg (by omega)]) ?_
    obtain ⟨r, hr1, hr2⟩ := szIntSS_ok ws (1048576 - l.length) (by omega) (by omega) hwl (fun w hw => (hrows w hw).1)
    refine Ev.bind hr1 ?_
    rcases hr2 with hr2 | ⟨hr0, hwn, hww⟩
    · exact Ev.to (fun k => by rw [if_pos hr2]) (Ev.const rfl)
    · refine Ev.to (fun k => by rw [if_neg (by omega)]) ?_
      have hw1 : ∀ w ∈ ws, w.length ≤ 1048576 := fun w hw => by have := hww w hw; omega
      have hw2 : ∀ w ∈ ws, w.length ≤ 35184372088832 := fun w hw => by have := hww w hw; omega
      obtain ⟨⟨r0, r1⟩, h1, h2⟩ := areMaking_both n l ws (by omega) (by omega) hw1
      have a0_ := toSpace_ok n l (by omega)
      have e0_ := eqSpace_refl n l (by omega)
      have a1_ := toIntSS_ok ws (by omega) hw2
      have e1_ := eqIntSS_refl ws (by omega) hw2
      repeat (first | exact Ev.const rfl | (with_reducible refine Ev.bind h1 ?_) | (with_reducible refine Ev.bind h2 ?_) | (with_reducible refine Ev.bind a0_ ?_) | (with_reducible refine Ev.bind e0_ ?_) | (with_reducible refine Ev.bind a1_ ?_) | (with_reducible refine Ev.bind e1_ ?_) | refine Ev.to (fun k => by rw [if_pos rfl]) ?_ | refine Ev.to (fun k => by rw [if_neg (by simp)]) ?_ | refine Ev.succ (fun k => by simp only [laws_FnExactAreMaking.j0]; rw [if_neg (by simp)]) ?_)

end Go.Proofs.Ytpamaelmdncpoaa.Q
