/- The pure side of the law FnExactWordThrough: the program and the reference tell the same first word through sets. Conditions: none. -/
import Derived.Test.YtpilnkaiepdemaaPx1
import Derived.Test.YtpilnkaiepdemaaPx2
import Derived.Test.YtpilnkaiepdemaaPx3
import Derived.Test.YtpilnkaiepdemaaPx4
import Derived.Test.YtpilnkaiepdemaaPx5
import Derived.Test.YtpilnkaiepdemaaPx6
import Derived.Test.YtpilnkaiepdemaaPx7
import Derived.Test.YtpilnkaiepdemaaOpens
namespace Go.Proofs.Ytpilnkaiepdemaa.Q
open Go.RowKit Go.Proofs.Ytpilnkaiepdemaa.Opens Go.Proofs.YtpilnkaiepdemaaW.PrintWords Go.Proofs.YtpilnkaiepdemaaW.PrintLast Go.Proofs.YtpilnkaiepdemaaW.PrintMore
set_option linter.unusedVariables false
set_option linter.unusedSimpArgs false

/-- THE ONE PURE STATEMENT of FnExactWordThrough. -/
def PureFnExactWordThrough : Prop := ∀ (a0_0 : Int) (l0_1 : List Int) (l1 : List Int), Int64 a0_0 → AllOk Int64 l0_1 → l0_1.length ≤ 9223372036854775807 → AllOk Int64 l1 → l1.length ≤ 9223372036854775807 → ∃ k, laws_FnExactWordThrough.f k a0_0 l0_1 l1 = some true
theorem toward_both {n : Int} {l : List Int} (hS : isSpaceB n l = true) (g : Nat) (hg : (famOf l).getD g false = true) : ∀ (m s : Nat) (word : List Int), g - s ≤ m → (famOf l).getD s false = true → Sub s g → word.length + (g - s) < 17592186044416 →
    ∃ p : List Int, p.length + s ≤ g ∧ Ev (fun k => impl_Space_toward.l0 k word s g (famOf l)) (word ++ p) ∧ ∀ (G : List Int) (gl i b : Int) (r : List Int), Ev (fun k => spec_cnWord.l0 k (word ++ p) g G gl (wrap64 (i + 1)) b l) r → Ev (fun k => spec_cnWord.l1 k word s g G gl i b l) r := by
  have hL := learn_of_space hS
  have hg7 := fam_lt hg
  have hrise := risingB_rise (isSpaceB_parts hS).2.2.2.1
  have hlen := isSpaceB_len hS
  intro m
  induction m with
  | zero =>
    intro s word hm hs hsg hw
    have hle := sub_le hsg
    obtain rfl : s = g := by omega
    refine ⟨[], by simp, Ev.succ (fun k => by simp only [impl_Space_toward.l0]; rw [if_pos trivial]) (Ev.const (by rw [List.append_nil])), fun G gl i b r h => ?_⟩
    rw [List.append_nil] at h
    exact Ev.succ (fun k => by simp only [spec_cnWord.l1]; rw [if_pos trivial]) h
  | succ m ih =>
    intro s word hm hs hsg hw
    have hle := sub_le hsg
    by_cases e : s = g
    · subst e
      refine ⟨[], by simp, Ev.succ (fun k => by simp only [impl_Space_toward.l0]; rw [if_pos trivial]) (Ev.const (by rw [List.append_nil])), fun G gl i b r h => ?_⟩
      rw [List.append_nil] at h
      exact Ev.succ (fun k => by simp only [spec_cnWord.l1]; rw [if_pos trivial]) h
    · obtain ⟨i, t, hit, hi, hgi, hsi, hF, hmin⟩ := hL.next hs hg hsg e
      have hs7 := fam_lt hs
      have hgr := or_greater hsi
      have hsub := sub_or hsg hgi
      have hle2 := sub_le hsub
      obtain ⟨p, hp, h1, h2⟩ := ih (s ||| 2 ^ i) (word ++ [(i : Int)]) (by omega) hF hsub (by rw [List.length_append, List.length_singleton]; omega)
      have ho : outerF (famOf l) s < 128 := maskOf_lt _
      have hand : outerF (famOf l) s &&& g < 128 := Nat.lt_of_le_of_lt Nat.and_le_left ho
      have hI : itemsL ((outerF (famOf l) s &&& g : Nat) : Int) = (i : Int) :: t.map (fun (j : Nat) => (j : Int)) := by
        unfold itemsL
        rw [Int.toNat_natCast, hit]
        rfl
      have hp7 : 2 ^ i < 128 := two_lt128 hi
      refine ⟨(i : Int) :: p, by rw [List.length_cons]; omega, ?_, ?_⟩
      · refine Ev.succ (fun k => by simp only [impl_Space_toward.l0]; rw [if_neg (by omega)]) ?_
        refine Ev.bindc (outer_f _ (famOf_length l) s (by omega) (by omega)) ?_
        refine Ev.to (fun k => by rw [Int.toNat_natCast, bits_and _ g (by omega) (by omega)]) ?_
        refine Ev.bind (itemsE (by omega) (by omega)) ?_
        rw [hI]
        refine Ev.to (fun k => by rw [if_neg (by simp; omega), if_pos (by simp), if_pos (by omega), if_pos (by show (0 : Int) ≤ (i : Int); omega), show rd ((i : Int) :: t.map (fun (j : Nat) => (j : Int))) 0 = (i : Int) from rfl, shl_one i (by omega), bits_or s (2 ^ i) (by omega) (by omega)]) ?_
        rw [List.append_assoc] at h1
        exact h1
      · intro G gl x b r h
        refine Ev.succ (fun k => by simp only [spec_cnWord.l1]; rw [if_neg (by omega)]) ?_
        have hfound : Ev (fun k => spec_cnWord.l2 k word s g i G gl x b l) r := by
          refine Ev.succ (fun k => by simp only [spec_cnWord.l2]; rw [bits_nd g s (by omega) (by omega)]) ?_
          refine Ev.bindc (spIn_ok (nd g s) i (by omega)) ?_
          rw [nd_testBit, hgi, hsi]
          refine Ev.to (fun k => by rw [if_pos (show (true && !false) = true from rfl), if_pos (by omega), shl_one i (by omega), bits_or s (2 ^ i) (by omega) (by omega)]) ?_
          refine Ev.bind (spHas_ok hrise (by omega) _) ?_
          refine Ev.to (fun k => by rw [if_pos (decide_eq_true (fam_mem hF))]) ?_
          refine Ev.bindc rfl ?_
          refine Ev.to (fun k => by rw [if_pos (by rw [List.length_singleton]; omega)]) ?_
          refine h2 G gl x b r ?_
          rw [List.append_assoc]
          exact h
        have hsearch : ∀ (d j : Nat), i - j = d → j ≤ i → Ev (fun k => spec_cnWord.l2 k word s g j G gl x b l) r := by
          intro d
          induction d with
          | zero =>
            intro j hd hj
            obtain rfl : j = i := by omega
            exact hfound
          | succ d ihd =>
            intro j hd hj
            have hnext := ihd (j + 1) (by omega) (by omega)
            push_cast at hnext
            have hj7 : 2 ^ j < 128 := two_lt128 (by omega)
            refine Ev.succ (fun k => by simp only [spec_cnWord.l2]; rw [bits_nd g s (by omega) (by omega)]) ?_
            refine Ev.bindc (spIn_ok (nd g s) j (by omega)) ?_
            cases hb : (nd g s).testBit j with
            | false => exact Ev.to (fun k => by rw [if_neg (by decide), wrap_succ (by omega) (by omega)]) hnext
            | true =>
              have hno : ¬ ((s ||| 2 ^ j : Nat) : Int) ∈ l := by
                intro hm
                rcases hmin j (by omega) with h' | h'
                · rw [hb] at h'; cases h'
                · have hlt : s ||| 2 ^ j < 128 := Nat.or_lt_two_pow (n := 7) (by omega) hj7
                  rw [famOf_getD l _ hlt, decide_eq_false_iff_not] at h'
                  exact h' hm
              refine Ev.to (fun k => by rw [if_pos rfl, if_pos (by omega), shl_one j (by omega), bits_or s (2 ^ j) (by omega) (by omega)]) ?_
              refine Ev.bind (spHas_ok hrise (by omega) _) ?_
              exact Ev.to (fun k => by rw [if_neg (by simpa using hno), wrap_succ (by omega) (by omega)]) hnext
        exact hsearch i 0 (by omega) (by omega)
/-- Sets, each a part of the next. -/
def ChainOk (l : List Int) : Nat → List Int → Prop
  | _, [] => True
  | s, x :: B => x ∈ l ∧ Sub s x.toNat ∧ ChainOk l x.toNat B
theorem through_both {n : Int} {l : List Int} (hS : isSpaceB n l = true) (G : List Int) (hG : G.length < 1000) : ∀ (B A : List Int) (s : Nat) (word : List Int), A ++ B = G → ChainOk l s B → (famOf l).getD s false = true → word.length ≤ 128 * A.length →
    ∃ r, Ev (fun k => impl_Space_through.l0 k word s G G.length A.length n l) r ∧ Ev (fun k => spec_cnWord.l0 k word s G G.length A.length n l) r ∧ r.length ≤ 128000
  | [], A, s, word, hA, _, _, hw => by
    rw [List.append_nil] at hA
    subst hA
    exact ⟨word, Ev.succ (fun k => by simp only [impl_Space_through.l0]; rw [if_neg (by omega)]) (Ev.const rfl), Ev.succ (fun k => by simp only [spec_cnWord.l0]; rw [if_neg (by omega)]) (Ev.const rfl), by omega⟩
  | x :: B, A, s, word, hA, ⟨hx, hsub, hc⟩, hs, hw => by
    have hlt : A.length < G.length := by rw [← hA]; simp
    have hrd : rd G (A.length : Int) = x := by rw [← hA]; exact rd_append A B x
    obtain ⟨x0, x1⟩ := isSpaceB_128 hS x hx
    have hfx := mem_fam hx x0 x1
    have hs7 := fam_lt hs
    have hxe : ((x.toNat : Nat) : Int) = x := by omega
    obtain ⟨p, hp, h1, h2⟩ := toward_both hS x.toNat hfx 128 s word (by omega) hs hsub (by omega)
    rw [hxe] at h1 h2
    obtain ⟨r, hr1, hr2, hr3⟩ := through_both hS G hG B (A ++ [x]) x.toNat (word ++ p) (by rw [List.append_assoc]; exact hA) hc hfx (by rw [List.length_append, List.length_append, List.length_singleton]; omega)
    rw [List.length_append, List.length_singleton, hxe] at hr1 hr2
    push_cast at hr1 hr2
    have hws : wrap64 ((A.length : Int) + 1) = A.length + 1 := wrap_succ (by omega) (by omega)
    refine ⟨r, ?_, ?_, hr3⟩
    · refine Ev.succ (fun k => by simp only [impl_Space_through.l0]; rw [if_pos (by omega), if_pos (by omega), if_pos (by omega), hrd, hws]) ?_
      refine Ev.bind (show Ev (fun k => impl_Space_toward.f k n l word s x) (word ++ p) from ?_) hr1
      unfold impl_Space_toward.f
      exact Ev.bindc (family_f hS) h1
    · refine Ev.succ (fun k => by simp only [spec_cnWord.l0]; rw [if_pos (by omega), if_pos (by omega), if_pos (by omega), hrd]) ?_
      exact h2 G G.length A.length n r (by rw [hws]; exact hr2)
theorem thr_both {n : Int} {l : List Int} (hS : isSpaceB n l = true) (L : List Int) (hL : L.length ≤ 40) (hc : ChainOk l 0 (L ++ [2 ^ n.toNat - 1])) : ∃ r, Ev (fun k => spec_cnWord.f k n l L) r ∧ Ev (fun k => impl_Space_through.f k n l L) r ∧ r.length ≤ 128000 := by
  obtain ⟨n1, n7, _⟩ := isSpaceB_parts hS
  have hLe : (L ++ [(2 ^ n.toNat - 1 : Int)]).length = L.length + 1 := by simp
  obtain ⟨r, h1, h2, h3⟩ := through_both hS (L ++ [2 ^ n.toNat - 1]) (by omega) (L ++ [2 ^ n.toNat - 1]) [] 0 [] rfl hc (learn_of_space hS).zero (by simp)
  refine ⟨r, ?_, ?_, h3⟩
  · unfold spec_cnWord.f
    refine Ev.bindc (show spec_l1Own.f L = some L from ?_) ?_
    · unfold spec_l1Own.f
      show (if ([] : List Int).length + L.length < 17592186044416 then _ else _) = _
      rw [if_pos (by simp; omega)]
      rfl
    · refine Ev.to (fun k => by rw [if_pos (by omega), wrapPow (by omega) n7]) ?_
      refine Ev.bindc rfl ?_
      refine Ev.to (fun k => by rw [if_pos (by simp; omega)]) ?_
      refine Ev.bindc rfl ?_
      exact h2
  · unfold impl_Space_through.f
    refine Ev.bindc (show slices_Clone_int_int.f L = some L from ?_) ?_
    · unfold slices_Clone_int_int.f
      rw [if_pos (by omega)]
    · refine Ev.bindc (all_ok n l (by omega) n7) ?_
      refine Ev.to (fun k => by rw [if_pos (by omega)]) ?_
      refine Ev.bindc rfl ?_
      exact h1
theorem cnParts_ok {x y : Int} (hx : I128 x) (hy : I128 y) : spec_cnParts.f x y = some (decide (nd x.toNat y.toNat = 0)) := part_ok hx hy
theorem wt_both {n : Int} {l : List Int} (hS : isSpaceB n l = true) (L : List Int) (hL : L.length ≤ 40) : ∀ (B A : List Int) (p : Nat), A ++ B = L → (∀ C, ChainOk l p C → ChainOk l 0 (A ++ C)) → ((A = [] ∧ p = 0) ∨ (0 < A.length ∧ rd L ((A.length : Int) - 1) = p ∧ (p : Int) ∈ l)) →
    ∃ r, Ev (fun k => spec_WordThrough.l0 k L L L.length A.length n l) r ∧ Ev (fun k => impl_WordThrough.l0 k L L L.length A.length n l) r ∧ r.1.length ≤ 1048577
  | [], A, p, hA, hch, hp => by
    rw [List.append_nil] at hA
    obtain ⟨n1, n7, _, _, _, hall, _⟩ := isSpaceB_parts hS
    have hp2 := pow128 (n := n) (by omega) n7
    rw [getD_pow l n1 n7, decide_eq_true_eq] at hall
    have hpn : p < 2 ^ n.toNat := by
      rcases hp with ⟨_, h⟩ | ⟨_, _, h⟩
      · rw [h]; exact Nat.pow_pos (by decide)
      · have := isSpaceB_mem hS _ h
        exact_mod_cast this.2
    have hc : ChainOk l 0 (L ++ [2 ^ n.toNat - 1]) := by
      rw [← hA]
      refine hch _ ⟨hall, ?_, trivial⟩
      have e : ((2 : Int) ^ n.toNat - 1).toNat = 2 ^ n.toNat - 1 := (toNat_pow (n := n) rfl).symm
      rw [e]
      exact sub_all hpn
    obtain ⟨r, h1, h2, h3⟩ := thr_both hS L hL hc
    subst hA
    refine ⟨(r, true), ?_, ?_, by show r.length ≤ _; omega⟩
    · refine Ev.succ (fun k => by simp only [spec_WordThrough.l0]; rw [if_neg (by omega)]) ?_
      exact Ev.bind h1 (Ev.const rfl)
    · refine Ev.succ (fun k => by simp only [impl_WordThrough.l0]; rw [if_neg (by omega)]) ?_
      exact Ev.bind h2 (Ev.const rfl)
  | x :: B, A, p, hA, hch, hp => by
    have hlt : A.length < L.length := by rw [← hA]; simp
    have hrd : rd L (A.length : Int) = x := by rw [← hA]; exact rd_append A B x
    have hws : wrap64 ((A.length : Int) + 1) = A.length + 1 := wrap_succ (by omega) (by omega)
    have hrise := risingB_rise (isSpaceB_parts hS).2.2.2.1
    have hlen := isSpaceB_len hS
    have hkn : impl_isKnown.f n l x = some (decide (x ∈ l)) := by
      show some (isKnownB n l x) = _
      unfold isKnownB
      rw [hS]
      rfl
    by_cases hx : x ∈ l
    · obtain ⟨x0, x1⟩ := isSpaceB_128 hS x hx
      have hxe : ((x.toNat : Nat) : Int) = x := by omega
      by_cases hpos : 0 < A.length
      · obtain ⟨_, hrp, hpl⟩ : 0 < A.length ∧ rd L ((A.length : Int) - 1) = p ∧ (p : Int) ∈ l := by
          rcases hp with ⟨h, _⟩ | h
          · rw [h] at hpos; exact absurd hpos (by simp)
          · exact h
        have hw1 : wrap64 ((A.length : Int) - 1) = A.length - 1 := wrap_in (by omega) (by omega)
        have hp128 := isSpaceB_128 hS _ hpl
        have hcn := cnParts_ok (x := (p : Int)) (y := x) hp128 ⟨x0, x1⟩
        have hpt := part_ok (x := (p : Int)) (y := x) hp128 ⟨x0, x1⟩
        rw [Int.toNat_natCast] at hcn hpt
        by_cases hnd : nd p x.toNat = 0
        · obtain ⟨r, h1, h2, h3⟩ := wt_both hS L hL B (A ++ [x]) x.toNat (by rw [List.append_assoc]; exact hA) (fun C hC => by rw [List.append_assoc]; exact hch _ ⟨hx, sub_of_nd hnd, hC⟩) (.inr ⟨by simp, by rw [List.length_append, List.length_singleton, hxe]; push_cast; rw [Int.add_sub_cancel]; exact hrd, by rw [hxe]; exact hx⟩)
          rw [List.length_append, List.length_singleton] at h1 h2
          push_cast at h1 h2
          refine ⟨r, ?_, ?_, h3⟩
          · refine Ev.succ (fun k => by simp only [spec_WordThrough.l0]; rw [if_pos (by omega), if_pos (by omega), if_pos (by omega), hrd]) ?_
            refine Ev.bind (spHas_ok hrise (by omega) _) ?_
            refine Ev.to (fun k => by rw [if_pos (decide_eq_true hx), if_pos (by omega), hw1, if_pos (by omega), if_pos (by omega), hrp, hws]) ?_
            refine Ev.bindc hcn ?_
            exact Ev.to (fun k => by rw [if_pos (decide_eq_true hnd)]) h1
          · refine Ev.succ (fun k => by simp only [impl_WordThrough.l0]; rw [if_pos (by omega), if_pos (by omega), if_pos (by omega), hrd]) ?_
            refine Ev.bindc hkn ?_
            refine Ev.to (fun k => by rw [if_pos (decide_eq_true hx), if_pos (by omega), hw1, if_pos (by omega), if_pos (by omega), hrp, hws]) ?_
            refine Ev.bindc hpt ?_
            exact Ev.to (fun k => by rw [if_pos (decide_eq_true hnd)]) h2
        · refine ⟨([], false), ?_, ?_, by show (0 : Nat) ≤ _; omega⟩
          · refine Ev.succ (fun k => by simp only [spec_WordThrough.l0]; rw [if_pos (by omega), if_pos (by omega), if_pos (by omega), hrd]) ?_
            refine Ev.bind (spHas_ok hrise (by omega) _) ?_
            refine Ev.to (fun k => by rw [if_pos (decide_eq_true hx), if_pos (by omega), hw1, if_pos (by omega), if_pos (by omega), hrp, hws]) ?_
            refine Ev.bindc hcn ?_
            exact Ev.to (fun k => by rw [if_neg (by simpa using hnd)]) (Ev.const rfl)
          · refine Ev.succ (fun k => by simp only [impl_WordThrough.l0]; rw [if_pos (by omega), if_pos (by omega), if_pos (by omega), hrd]) ?_
            refine Ev.bindc hkn ?_
            refine Ev.to (fun k => by rw [if_pos (decide_eq_true hx), if_pos (by omega), hw1, if_pos (by omega), if_pos (by omega), hrp, hws]) ?_
            refine Ev.bindc hpt ?_
            exact Ev.to (fun k => by rw [if_neg (by simpa using hnd)]) (Ev.const rfl)
      · have hA0 : A = [] := List.eq_nil_of_length_eq_zero (by omega)
        have hp0 : p = 0 := by
          rcases hp with ⟨_, h⟩ | ⟨h, _⟩
          · exact h
          · exact absurd h hpos
        obtain ⟨r, h1, h2, h3⟩ := wt_both hS L hL B (A ++ [x]) x.toNat (by rw [List.append_assoc]; exact hA) (fun C hC => by rw [List.append_assoc]; exact hch _ ⟨hx, by rw [hp0]; exact sub_zero _, hC⟩) (.inr ⟨by simp, by rw [List.length_append, List.length_singleton, hxe]; push_cast; rw [Int.add_sub_cancel]; exact hrd, by rw [hxe]; exact hx⟩)
        rw [List.length_append, List.length_singleton] at h1 h2
        push_cast at h1 h2
        refine ⟨r, ?_, ?_, h3⟩
        · refine Ev.succ (fun k => by simp only [spec_WordThrough.l0]; rw [if_pos (by omega), if_pos (by omega), if_pos (by omega), hrd]) ?_
          refine Ev.bind (spHas_ok hrise (by omega) _) ?_
          exact Ev.to (fun k => by rw [if_pos (decide_eq_true hx), if_neg (by omega), hws]) h1
        · refine Ev.succ (fun k => by simp only [impl_WordThrough.l0]; rw [if_pos (by omega), if_pos (by omega), if_pos (by omega), hrd]) ?_
          refine Ev.bindc hkn ?_
          exact Ev.to (fun k => by rw [if_pos (decide_eq_true hx), if_neg (by omega), hws]) h2
    · refine ⟨([], false), ?_, ?_, by show (0 : Nat) ≤ _; omega⟩
      · refine Ev.succ (fun k => by simp only [spec_WordThrough.l0]; rw [if_pos (by omega), if_pos (by omega), if_pos (by omega), hrd]) ?_
        refine Ev.bind (spHas_ok hrise (by omega) _) ?_
        exact Ev.to (fun k => by rw [if_neg (by simpa using hx)]) (Ev.const rfl)
      · refine Ev.succ (fun k => by simp only [impl_WordThrough.l0]; rw [if_pos (by omega), if_pos (by omega), if_pos (by omega), hrd]) ?_
        refine Ev.bindc hkn ?_
        exact Ev.to (fun k => by rw [if_neg (by simpa using hx)]) (Ev.const rfl)
theorem wordThrough_both (n : Int) (l L : List Int) (hlen : l.length < 1048577) (hL : L.length < 1048577) : ∃ r, Ev (fun k => spec_WordThrough.f k n l L) r ∧ Ev (fun k => impl_WordThrough.f k n l L) r ∧ r.1.length ≤ 1048577 := by
  have hs : ∀ n l L, Ev (fun k => spec_WordThrough.j0 k L true n l) ([], false) := fun n l L => Ev.succ (fun k => by simp only [spec_WordThrough.j0]; rw [if_pos trivial]) (Ev.const rfl)
  have hi : ∀ n l L, Ev (fun k => impl_WordThrough.j0 k L true n l) ([], false) := fun n l L => Ev.succ (fun k => by simp only [impl_WordThrough.j0]; rw [if_pos trivial]) (Ev.const rfl)
  unfold spec_WordThrough.f impl_WordThrough.f
  cases hS : isSpaceB n l with
  | false =>
    refine ⟨([], false), ?_, ?_, by show (0 : Nat) ≤ _; omega⟩
    · refine Ev.bind (spGood_ok n l (by omega)) ?_
      exact Ev.to (fun k => by rw [hS, if_neg (by decide)]) (hs n l L)
    · refine Ev.bindc (show impl_IsSpace.f n l = some (isSpaceB n l) from rfl) ?_
      exact Ev.to (fun k => by rw [hS, if_neg (by decide)]) (hi n l L)
  | true =>
    by_cases h40 : (L.length : Int) > 40
    · refine ⟨([], false), ?_, ?_, by show (0 : Nat) ≤ _; omega⟩
      · refine Ev.bind (spGood_ok n l (by omega)) ?_
        exact Ev.to (fun k => by rw [hS, if_pos rfl, decide_eq_true h40]) (hs n l L)
      · refine Ev.bindc (show impl_IsSpace.f n l = some (isSpaceB n l) from rfl) ?_
        exact Ev.to (fun k => by rw [hS, if_pos rfl, decide_eq_true h40]) (hi n l L)
    · obtain ⟨r, h1, h2, h3⟩ := wt_both hS L (by omega) L [] 0 rfl (fun C hC => hC) (.inl ⟨rfl, rfl⟩)
      refine ⟨r, ?_, ?_, h3⟩
      · refine Ev.bind (spGood_ok n l (by omega)) ?_
        refine Ev.to (fun k => by rw [hS, if_pos rfl, decide_eq_false h40]) ?_
        exact Ev.succ (fun k => by simp only [spec_WordThrough.j0]; rw [if_neg (by decide)]; rfl) h1
      · refine Ev.bindc (show impl_IsSpace.f n l = some (isSpaceB n l) from rfl) ?_
        refine Ev.to (fun k => by rw [hS, if_pos rfl, decide_eq_false h40]) ?_
        exact Ev.succ (fun k => by simp only [impl_WordThrough.j0]; rw [if_neg (by decide)]; rfl) h2
theorem FnExactWordThrough : PureFnExactWordThrough := by
  intro n0 l0 l1 _ _ hl0 _ hl1
  refine Ev.rounds ?_
  unfold laws_FnExactWordThrough.f
  by_cases hb1 : (l1.length : Int) > 1048576
  · exact Ev.to (fun k => by rw [if_pos hb1]) (Ev.const rfl)
  · refine Ev.to (fun k => by rw [if_neg hb1]) ?_
    by_cases hb0 : (1048576 : Int) < l0.length
    · refine Ev.bindc (szSpace_over n0 l0 _ (by omega) hl0 hb0 (by omega)) ?_
      exact Ev.to (fun k => by rw [if_pos (by decide)]) (Ev.const rfl)
    · refine Ev.bindc (szSpace_fits n0 l0 _ (by omega) (by omega)) ?_
      refine Ev.to (fun k => by rw [if_neg (by omega)]) ?_
      obtain ⟨⟨r0, r1⟩, h1, h2, z0⟩ := wordThrough_both n0 l0 l1 (by omega) (by omega)
      replace z0 : r0.length ≤ 1048577 := z0
      have a0_ := toSpace_ok n0 l0 (by omega)
      have e0_ := eqSpace_refl n0 l0 (by omega)
      have a1_ := toIntS_ok l1 (by omega)
      have e1_ := eqIntS_refl l1 (by omega)
      have m0_ := markSpace_ok n0 l0 (1) (by omega) (by omega)
      have m1_ := markIntS_ok l1 (1 + l0.length) (by omega) (by omega)
      have g0_ := eqIntS_refl r0 (by omega)
      have p0_ := markIntS_ok r0 (1) (by omega) (by omega)
      have d0_ := heldIntS_ok (1) r0.length (by omega) (by omega)
      repeat (first | exact Ev.const rfl | (with_reducible refine Ev.bind h1 ?_) | (with_reducible refine Ev.bind h2 ?_) | (with_reducible refine Ev.bind a0_ ?_) | (with_reducible refine Ev.bind e0_ ?_) | (with_reducible refine Ev.bind a1_ ?_) | (with_reducible refine Ev.bind e1_ ?_) | (with_reducible refine Ev.bind m0_ ?_) | (with_reducible refine Ev.bind m1_ ?_) | (with_reducible refine Ev.bind g0_ ?_) | (with_reducible refine Ev.bind p0_ ?_) | (with_reducible refine Ev.bind d0_ ?_) | refine Ev.to (fun k => by rw [if_pos rfl]) ?_ | refine Ev.to (fun k => by rw [if_neg (by omega)]) ?_ | refine Ev.to (fun k => by rw [if_neg (by simp)]) ?_ | refine Ev.succ (fun k => by simp only [laws_FnExactWordThrough.j0]; rw [if_neg (by simp)]) ?_ | refine Ev.succ (fun k => by simp only [laws_FnExactWordThrough.j1]; rw [if_neg (by simp)]) ?_ | refine Ev.succ (fun k => by simp only [laws_FnExactWordThrough.j2]; rw [if_neg (by simp)]) ?_ | refine Ev.succ (fun k => by simp only [laws_FnExactWordThrough.j3]; rw [if_neg (by simp)]) ?_)


end Go.Proofs.Ytpilnkaiepdemaa.Q
