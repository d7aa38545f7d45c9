/- The pure side of the law FnExactWordWith: the program and the reference tell the same word with a rank. Conditions: none. -/
import Derived.Test.YtkepeflplmkcmaaPx1
import Derived.Test.YtkepeflplmkcmaaPx2
import Derived.Test.YtkepeflplmkcmaaPx3
import Derived.Test.YtkepeflplmkcmaaPx4
import Derived.Test.YtkepeflplmkcmaaPx5
import Derived.Test.YtkepeflplmkcmaaPx6
import Derived.Test.YtkepeflplmkcmaaPx7
import Derived.Test.YtkepeflplmkcmaaPx8
import Derived.Test.YtkepeflplmkcmaaPx9
import Derived.Test.YtkepeflplmkcmaaOpens
namespace Go.Proofs.Ytkepeflplmkcmaa.Q
open Go.RowKit Go.Proofs.Ytkepeflplmkcmaa.Opens Go.Proofs.YtkepeflplmkcmaaW.PrintWords Go.Proofs.YtkepeflplmkcmaaW.PrintLast Go.Proofs.YtkepeflplmkcmaaW.PrintMore
set_option linter.unusedVariables false
set_option linter.unusedSimpArgs false

/-- THE ONE PURE STATEMENT of FnExactWordWith. -/
def PureFnExactWordWith : Prop := ∀ (a0_0 : Int) (l0_1 : List Int) (a1 : Int), Int64 a0_0 → AllOk Int64 l0_1 → l0_1.length ≤ 9223372036854775807 → Int64 a1 → ∃ k, laws_FnExactWordWith.f k a0_0 l0_1 a1 = some true
/-- All full words that go on a word, in order. -/
def allW (F : List Bool) : Nat → Nat → List Int → List (List Int)
  | 0, _, ws => [ws]
  | d + 1, x, ws => (itemsN (outerF F x)).flatMap fun (i : Nat) => allW F d (x ||| 2 ^ i) (ws ++ [(i : Int)])
def addV (v : Nat → Nat) (x : Nat) (s : Nat) (i : Nat) : Nat := s + v (x ||| 2 ^ i)
/-- How many words lead from a set to all items. -/
def cntW (F : List Bool) : Nat → Nat → Nat
  | 0, _ => 1
  | d + 1, x => (itemsN (outerF F x)).foldl (addV (cntW F d) x) 0
theorem addV_zero (v : Nat → Nat) (x i : Nat) : addV v x 0 i = v (x ||| 2 ^ i) := Nat.zero_add _
theorem addV_from (v : Nat → Nat) (x : Nat) : ∀ (I : List Nat) (s : Nat), I.foldl (addV v x) s = s + I.foldl (addV v x) 0
  | [], s => rfl
  | i :: I, s => by
    rw [List.foldl_cons, List.foldl_cons, addV_from v x I (addV v x s i), addV_from v x I (addV v x 0 i)]
    unfold addV
    omega
theorem allW_len (F : List Bool) : ∀ (d x : Nat) (ws : List Int), (allW F d x ws).length = cntW F d x
  | 0, _, _ => rfl
  | d + 1, x, ws => by
    show ((itemsN (outerF F x)).flatMap fun (i : Nat) => allW F d (x ||| 2 ^ i) (ws ++ [(i : Int)])).length = (itemsN (outerF F x)).foldl (addV (cntW F d) x) 0
    induction itemsN (outerF F x) with
    | nil => rfl
    | cons i I ih =>
      rw [List.flatMap_cons, List.length_append, ih, List.foldl_cons, addV_from (cntW F d) x I (addV (cntW F d) x 0 i), allW_len F d, addV_zero]
theorem cntW_le (F : List Bool) : ∀ (d x : Nat), cntW F d x ≤ 7 ^ d
  | 0, _ => Nat.le_refl _
  | d + 1, x => by
    have hl : (itemsN (outerF F x)).length ≤ 7 := List.length_filter_le _ _
    have key : ∀ I : List Nat, I.foldl (addV (cntW F d) x) 0 ≤ I.length * 7 ^ d := by
      intro I
      induction I with
      | nil => exact Nat.zero_le _
      | cons i I ih =>
        have h1 := cntW_le F d (x ||| 2 ^ i)
        rw [List.foldl_cons, addV_from (cntW F d) x I (addV (cntW F d) x 0 i), List.length_cons, Nat.succ_mul, addV_zero]
        omega
    have h2 := key (itemsN (outerF F x))
    show (itemsN (outerF F x)).foldl (addV (cntW F d) x) 0 ≤ 7 ^ (d + 1)
    rw [Nat.pow_succ]
    have h3 := Nat.mul_le_mul_right (7 ^ d) hl
    omega
theorem cntW_small (F : List Bool) {d : Nat} (h : d ≤ 7) (x : Nat) : cntW F d x ≤ 823543 := Nat.le_trans (cntW_le F d x) (Nat.pow_le_pow_right (n := 7) (by decide) h)
/-- One word after the other is told to a visitor, while it goes on. -/
def foldS {σ : Type} (D : σ → List Int → Option (σ × Bool)) : List (List Int) → σ → Bool → Option (σ × Bool)
  | [], st, g => some (st, g)
  | w :: L, st, g => if g = true then (D st w).bind fun r => foldS D L r.1 r.2 else some (st, g)
theorem foldS_false {σ : Type} (D : σ → List Int → Option (σ × Bool)) : ∀ (L : List (List Int)) (st : σ), foldS D L st false = some (st, false)
  | [], _ => rfl
  | _ :: _, _ => rfl
theorem foldS_append {σ : Type} (D : σ → List Int → Option (σ × Bool)) : ∀ (A B : List (List Int)) (st : σ) (g : Bool), foldS D (A ++ B) st g = (foldS D A st g).bind fun r => foldS D B r.1 r.2
  | [], B, st, g => rfl
  | w :: A, B, st, true => by
    show (D st w).bind (fun r => foldS D (A ++ B) r.1 r.2) = ((D st w).bind fun r => foldS D A r.1 r.2).bind fun r => foldS D B r.1 r.2
    cases D st w with
    | none => rfl
    | some r => exact foldS_append D A B r.1 r.2
  | w :: A, B, st, false => by rw [foldS_false, foldS_false]; exact (foldS_false D B st).symm
theorem all_nat {n x : Nat} : (x : Int) = 2 ^ n - 1 ↔ x = 2 ^ n - 1 := by
  have h4 : (2 : Int) ^ n = ((2 ^ n : Nat) : Int) := by push_cast; rfl
  have h3 : 0 < 2 ^ n := Nat.pow_pos (by decide)
  rw [h4]
  generalize 2 ^ n = N at *
  omega
theorem ww_fold {n : Int} {l : List Int} (hS : isSpaceB n l = true) {σ : Type} (D : σ → List Int → Option (σ × Bool)) : ∀ (d m x : Nat) (ws : List Int) (st : σ) (r : σ × Bool), m + d = n.toNat → GInv n.toNat (famOf l) x m → ws.length = m → foldS D (allW (famOf l) d x ws) st true = some r → Ev (fun k => wordsW (2 ^ n.toNat - 1) (famOf l) D k st true ws x) r
  | 0, m, x, ws, st, r, hd, hG, hw, h => by
    obtain ⟨n1, n7, _⟩ := isSpaceB_parts hS
    have hall : (x : Int) = 2 ^ n.toNat - 1 := all_nat.2 ((hG.full (by omega)).2 (by omega))
    refine Ev.succ (fun k => by rw [wordsW, if_pos hall]) ?_
    refine Ev.const ?_
    have h : (D st ws).bind (fun r => some (r.1, r.2)) = some r := h
    obtain ⟨a, h1, h2⟩ := Option.bind_eq_some_iff.1 h
    rw [h1]
    exact h2
  | d + 1, m, x, ws, st, r, hd, hG, hw, h => by
    obtain ⟨n1, n7, _⟩ := isSpaceB_parts hS
    have hx128 := hG.x128 (n := n.toNat) (by omega)
    have hall : ¬ (x : Int) = 2 ^ n.toNat - 1 := fun e => by
      have := (hG.full (by omega)).1 (all_nat.1 e)
      omega
    refine Ev.succ (fun k => by rw [wordsW, if_neg hall]) ?_
    refine Ev.bindc (outer_f (famOf l) (famOf_length l) (x : Int) (by omega) (by omega)) ?_
    rw [Int.toNat_natCast]
    have ho : outerF (famOf l) x < 128 := maskOf_lt _
    refine Ev.bind (itemsE (x := ((outerF (famOf l) x : Nat) : Int)) (by omega) (by omega)) ?_
    have loop : ∀ (I : List Nat) (st : σ) (g : Bool) (r : σ × Bool), (∀ i ∈ I, (outerF (famOf l) x).testBit i = true) → foldS D (I.flatMap fun (i : Nat) => allW (famOf l) d (x ||| 2 ^ i) (ws ++ [(i : Int)])) st g = some r → Ev (fun k => loopF (fun st g ws set => wordsW (2 ^ n.toNat - 1) (famOf l) D k st g ws set) ws x (I.map fun (j : Nat) => (j : Int)) st g) r := by
      intro I
      induction I with
      | nil =>
        intro st g r _ h
        exact Ev.const h
      | cons i I ih =>
        intro st g r hI h
        cases g with
        | false =>
          rw [foldS_false] at h
          exact Ev.const h
        | true =>
          rw [List.flatMap_cons, foldS_append] at h
          obtain ⟨r1, h1, h2⟩ := Option.bind_eq_some_iff.1 h
          obtain ⟨hin, hxi, hG2⟩ := outer_next hS hG (hI i List.mem_cons_self)
          have h2i : 2 ^ i < 128 := two_lt128 (by omega)
          have hbits : Go.bits .or .i64 (x : Int) (shl .i64 1 (i : Int)) = ((x ||| 2 ^ i : Nat) : Int) := by rw [shl_one i (by omega), bits_or x (2 ^ i) (by omega) (by omega)]
          have hrec := ww_fold hS D d (m + 1) (x ||| 2 ^ i) (ws ++ [(i : Int)]) st r1 (by omega) hG2 (by rw [List.length_append, List.length_singleton, hw]) h1
          have hn := ih r1.1 r1.2 r (fun j hj => hI j (List.mem_cons_of_mem _ hj)) h2
          refine Ev.to (fun k => by rw [List.map_cons, loopF, if_pos rfl, if_pos ⟨by omega, by omega⟩, hbits]) ?_
          exact Ev.bind hrec hn
    exact loop (itemsN (outerF (famOf l) x)) st true r (fun i hi => itemsN_bit hi) h
theorem clone_ok {ws : List Int} (h : ws.length ≤ 1000) : slices_Clone_int_int.f ws = some ws := by
  unfold slices_Clone_int_int.f
  rw [if_pos (by omega)]
theorem rank_fold (rank : Int) : ∀ (L : List (List Int)) (o : List Int) (c : Int), 0 ≤ c → c ≤ rank → rank < c + L.length → rank < 1000000 → (∀ w ∈ L, w.length ≤ 1000) → foldS (rankD rank) L (o, c) true = some ((L.getD (rank - c).toNat [], rank + 1), false)
  | [], o, c, h0, h1, h2, _, _ => by simp at h2; omega
  | w :: L, o, c, h0, h1, h2, h3, hw => by
    have hws : wrap64 (c + 1) = c + 1 := wrap_in (by omega) (by omega)
    show (rankD rank (o, c) w).bind (fun r => foldS (rankD rank) L r.1 r.2) = _
    have e1 : rankD rank (o, c) w = some ((w, c + 1), decide (c + 1 ≤ rank)) := by
      unfold rankD
      rw [clone_ok (hw w List.mem_cons_self)]
      show some ((w, wrap64 (c + 1)), decide (wrap64 (c + 1) ≤ rank)) = _
      rw [hws]
    rw [e1]
    show foldS (rankD rank) L (w, c + 1) (decide (c + 1 ≤ rank)) = _
    by_cases hc : c + 1 ≤ rank
    · rw [decide_eq_true hc, rank_fold rank L w (c + 1) (by omega) hc (by rw [List.length_cons] at h2; push_cast at h2; omega) h3 (fun v hv => hw v (List.mem_cons_of_mem _ hv))]
      rw [show (rank - c).toNat = (rank - (c + 1)).toNat + 1 by omega]
      rfl
    · rw [decide_eq_false hc, foldS_false]
      obtain rfl : c = rank := by omega
      rw [Int.sub_self]
      rfl
theorem allW_mem (F : List Bool) : ∀ (d x : Nat) (ws w : List Int), w ∈ allW F d x ws → w.length = ws.length + d
  | 0, x, ws, w, h => by rw [List.mem_singleton.1 h]; rfl
  | d + 1, x, ws, w, h => by
    obtain ⟨i, _, hi⟩ := List.mem_flatMap.1 h
    have := allW_mem F d _ _ w hi
    rw [List.length_append, List.length_singleton] at this
    omega
/-- The program's count. -/
theorem ways_ok {n : Int} {l : List Int} (hS : isSpaceB n l = true) : ∀ (d m x : Nat), m + d = n.toNat → GInv n.toNat (famOf l) x m → ∃ c, Ev (fun k => waysF (2 ^ n.toNat - 1) (famOf l) k x) ((cntW (famOf l) d x : Int), c)
  | 0, m, x, hd, hG => by
    obtain ⟨n1, n7, _⟩ := isSpaceB_parts hS
    have hall : (x : Int) = 2 ^ n.toNat - 1 := all_nat.2 ((hG.full (by omega)).2 (by omega))
    exact ⟨0, Ev.succ (g := fun _ => some (1, 0)) (fun k => by rw [waysF, if_pos hall]) (Ev.const rfl)⟩
  | d + 1, m, x, hd, hG => by
    obtain ⟨n1, n7, _⟩ := isSpaceB_parts hS
    have hx128 := hG.x128 (n := n.toNat) (by omega)
    have hall : ¬ (x : Int) = 2 ^ n.toNat - 1 := fun e => by
      have := (hG.full (by omega)).1 (all_nat.1 e)
      omega
    have ho : outerF (famOf l) x < 128 := maskOf_lt _
    have hlen : (itemsN (outerF (famOf l) x)).length ≤ 7 := List.length_filter_le _ _
    have loop : ∀ (I : List Nat) (s c : Nat), (∀ i ∈ I, (outerF (famOf l) x).testBit i = true) → s + I.length * 823543 ≤ 10000000 → ∃ c', Ev (fun k => sumF (fun s => waysF (2 ^ n.toNat - 1) (famOf l) k s) x (I.map fun (j : Nat) => (j : Int)) (s : Int) c) (((I.foldl (addV (cntW (famOf l) d) x) s : Nat) : Int), c') := by
      intro I
      induction I with
      | nil =>
        intro s c _ _
        exact ⟨c, Ev.const rfl⟩
      | cons i I ih =>
        intro s c hI hs
        obtain ⟨hin, hxi, hG2⟩ := outer_next hS hG (hI i List.mem_cons_self)
        have h2i : 2 ^ i < 128 := two_lt128 (by omega)
        have hbits : Go.bits .or .i64 (x : Int) (shl .i64 1 (i : Int)) = ((x ||| 2 ^ i : Nat) : Int) := by rw [shl_one i (by omega), bits_or x (2 ^ i) (by omega) (by omega)]
        obtain ⟨c1, h1⟩ := ways_ok hS d (m + 1) (x ||| 2 ^ i) (by omega) hG2
        have hsm := cntW_small (famOf l) (d := d) (by omega) (x ||| 2 ^ i)
        rw [List.length_cons, Nat.succ_mul] at hs
        obtain ⟨c', h2⟩ := ih (addV (cntW (famOf l) d) x s i) (c + c1) (fun j hj => hI j (List.mem_cons_of_mem _ hj)) (by unfold addV; omega)
        refine ⟨c', Ev.to (fun k => by rw [List.map_cons, sumF, if_pos (by omega), hbits]) ?_⟩
        refine Ev.bind h1 ?_
        have hw : wrap64 ((s : Int) + (cntW (famOf l) d (x ||| 2 ^ i) : Int)) = ((addV (cntW (famOf l) d) x s i : Nat) : Int) := by
          unfold addV
          rw [wrap_in (by omega) (by omega)]
          push_cast
          rfl
        exact Ev.to (fun k => by rw [hw]) h2
    obtain ⟨c', h⟩ := loop (itemsN (outerF (famOf l) x)) 0 0 (fun i hi => itemsN_bit hi) (by omega)
    refine ⟨c' + 1, Ev.succ (fun k => by rw [waysF, if_neg hall]) ?_⟩
    refine Ev.bindc (outer_f (famOf l) (famOf_length l) (x : Int) (by omega) (by omega)) ?_
    rw [Int.toNat_natCast]
    refine Ev.bind (itemsE (x := ((outerF (famOf l) x : Nat) : Int)) (by omega) (by omega)) ?_
    exact Ev.bind h (Ev.const rfl)
theorem drop_far {l : List Int} (hr : Rise l) {j : Nat} (hj : j < l.length) {v : Int} (hv : v ∈ l) (hgt : rd l (j : Int) < v) : v ∈ l.drop (j + 1) := by
  obtain ⟨q, hq, e⟩ := List.mem_iff_getElem.1 hv
  have hqj : j < q := by
    rcases Nat.lt_or_ge j q with h | h
    · exact h
    · rcases Nat.lt_or_ge q j with h2 | h2
      · have := hr q j h2 hj
        rw [rd_get hq] at this
        omega
      · obtain rfl : q = j := by omega
        rw [rd_get hq] at hgt
        omega
  refine List.mem_iff_getElem.2 ⟨q - (j + 1), by rw [List.length_drop]; omega, ?_⟩
  rw [List.getElem_drop]
  rw [← e]
  congr 1
  omega
theorem mem_fam_nat {l : List Int} {x : Nat} (h : (x : Int) ∈ l) (h1 : x < 128) : (famOf l).getD x false = true := by
  have := mem_fam h (by omega) (by omega)
  rwa [Int.toNat_natCast] at this
theorem cnt_most_ : ∀ (n : Fin 8) (x : Fin 128), x.val < 2 ^ n.val → cntN x.val ≤ n.val := by decide +kernel
theorem cnt_most {n x : Nat} (hn : n ≤ 7) (h : x < 2 ^ n) : cntN x ≤ n := by
  have e : 2 ^ n ≤ 2 ^ 7 := Nat.pow_le_pow_right (by decide) hn
  exact cnt_most_ ⟨n, by omega⟩ ⟨x, by omega⟩ h
theorem cnt_one_ : ∀ (z : Fin 128), cntN z.val = 1 → ∃ i : Fin 7, z.val = 2 ^ i.val := by decide +kernel
theorem or_facts : ∀ (x : Fin 128) (i : Fin 7), x.val.testBit i.val = false → nd x.val (x.val ||| 2 ^ i.val) = 0 ∧ cntN (nd (x.val ||| 2 ^ i.val) x.val) = 1 ∧ x.val ||| 2 ^ i.val = x.val + 2 ^ i.val := by decide +kernel
/-- Has a set just one item more? -/
def coverB (x y : Nat) : Bool := decide (nd x y = 0) && decide (cntN (nd y x) = 1)
theorem cover_iff {F : List Bool} {x y : Nat} (hx : x < 128) (hy : y < 128) (hF : F.getD y false = true) : coverB x y = true ↔ ∃ i, (outerF F x).testBit i = true ∧ i < 7 ∧ y = x ||| 2 ^ i := by
  unfold coverB
  rw [Bool.and_eq_true, decide_eq_true_eq, decide_eq_true_eq]
  constructor
  · rintro ⟨h1, h2⟩
    have hz : nd y x < 128 := Nat.lt_of_le_of_lt (nd_le y x) hy
    obtain ⟨i, hi⟩ := cnt_one_ ⟨nd y x, hz⟩ h2
    have hi : nd y x = 2 ^ i.val := hi
    have hb := nd_testBit y x i.val
    rw [hi, Nat.testBit_two_pow_self] at hb
    have hb2 : y.testBit i.val = true ∧ x.testBit i.val = false := by
      cases h3 : y.testBit i.val <;> cases h4 : x.testBit i.val <;> rw [h3, h4] at hb <;> first | (exact ⟨rfl, rfl⟩) | (cases hb)
    have hs := sub_of_nd h1
    have e : y = x ||| 2 ^ i.val := by
      apply Nat.eq_of_testBit_eq
      intro j
      rw [Nat.testBit_or]
      have h5 := nd_testBit y x j
      rw [hi] at h5
      cases h6 : x.testBit j with
      | true => rw [hs j h6]; rfl
      | false =>
        rw [h6] at h5
        rw [h5]
        simp
    refine ⟨i.val, ?_, i.isLt, e⟩
    unfold outerF
    rw [maskOf_bit _ _ i.isLt, hb2.2, ← e, hF]
    rfl
  · rintro ⟨i, h1, h2, rfl⟩
    unfold outerF at h1
    rw [maskOf_bit _ _ h2, Bool.and_eq_true, Bool.not_eq_true'] at h1
    obtain ⟨f1, f2, _⟩ := or_facts ⟨x, hx⟩ ⟨i, h2⟩ h1.1
    exact ⟨f1, f2⟩
theorem sorted_ext : ∀ {A B : List Int}, A.Pairwise (· < ·) → B.Pairwise (· < ·) → (∀ x, x ∈ A ↔ x ∈ B) → A = B
  | [], [], _, _, _ => rfl
  | [], b :: B, _, _, h => by have := (h b).2 List.mem_cons_self; cases this
  | a :: A, [], _, _, h => by have := (h a).1 List.mem_cons_self; cases this
  | a :: A, b :: B, hA, hB, h => by
    obtain ⟨a1, a2⟩ := List.pairwise_cons.1 hA
    obtain ⟨b1, b2⟩ := List.pairwise_cons.1 hB
    have hab : a = b := by
      rcases List.mem_cons.1 ((h a).1 List.mem_cons_self) with e | e
      · exact e
      · rcases List.mem_cons.1 ((h b).2 List.mem_cons_self) with e2 | e2
        · exact e2.symm
        · have h1 := b1 a e
          have h2 := a1 b e2
          omega
    subst hab
    rw [sorted_ext a2 b2 (fun x => ?_)]
    constructor
    · intro hx
      have h1 := a1 x hx
      rcases List.mem_cons.1 ((h x).1 (List.mem_cons_of_mem _ hx)) with e | e
      · omega
      · exact e
    · intro hx
      have h1 := b1 x hx
      rcases List.mem_cons.1 ((h x).2 (List.mem_cons_of_mem _ hx)) with e | e
      · omega
      · exact e
theorem cover_list {l : List Int} (hr : Rise l) (hM : ∀ x ∈ l, 0 ≤ x ∧ x < 128) {k0 x : Nat} (hk : k0 < l.length) (hx : rd l (k0 : Int) = (x : Int)) : ((l.drop (k0 + 1)).filter fun y => coverB x y.toNat) = (itemsN (outerF (famOf l) x)).map fun (i : Nat) => ((x ||| 2 ^ i : Nat) : Int) := by
  have hxm := rd_mem (l := l) (i := (k0 : Int)) (by omega) (by omega)
  have hx128 : x < 128 := by have := (hM _ hxm).2; omega
  refine sorted_ext (((pairwise_of_rise hr).sublist (List.drop_sublist _ _)).filter _) ?_ (fun y => ?_)
  · rw [List.pairwise_map]
    have hp : (itemsN (outerF (famOf l) x)).Pairwise (· < ·) := List.Pairwise.filter _ (by decide)
    refine List.Pairwise.imp_of_mem ?_ hp
    intro i j hi hj hij
    obtain ⟨i1, i2⟩ := (itemsN_mem _ _).1 hi
    obtain ⟨j1, j2⟩ := (itemsN_mem _ _).1 hj
    unfold outerF at i2 j2
    rw [maskOf_bit _ _ i1, Bool.and_eq_true, Bool.not_eq_true'] at i2
    rw [maskOf_bit _ _ j1, Bool.and_eq_true, Bool.not_eq_true'] at j2
    have e1 := (or_facts ⟨x, hx128⟩ ⟨i, i1⟩ i2.1).2.2
    have e2 := (or_facts ⟨x, hx128⟩ ⟨j, j1⟩ j2.1).2.2
    have e1 : x ||| 2 ^ i = x + 2 ^ i := e1
    have e2 : x ||| 2 ^ j = x + 2 ^ j := e2
    have h3 : 2 ^ i < 2 ^ j := Nat.pow_lt_pow_right (by decide) hij
    rw [e1, e2]
    exact Int.ofNat_lt.2 (by omega)
  · rw [List.mem_filter, List.mem_map]
    constructor
    · rintro ⟨h1, h2⟩
      have hyl := List.mem_of_mem_drop h1
      obtain ⟨y0, y1⟩ := hM y hyl
      obtain ⟨i, i1, i2, i3⟩ := (cover_iff hx128 (by omega) (mem_fam hyl y0 y1)).1 h2
      exact ⟨i, (itemsN_mem _ _).2 ⟨i2, i1⟩, by rw [← i3]; omega⟩
    · rintro ⟨i, hi, rfl⟩
      obtain ⟨i1, i2⟩ := (itemsN_mem _ _).1 hi
      have i3 := i2
      unfold outerF at i3
      rw [maskOf_bit _ _ i1, Bool.and_eq_true, Bool.not_eq_true'] at i3
      have hor : x ||| 2 ^ i < 128 := Nat.or_lt_two_pow (n := 7) hx128 (two_lt128 i1)
      refine ⟨drop_far hr hk (fam_mem i3.2) ?_, ?_⟩
      · rw [hx]
        exact Int.ofNat_lt.2 (or_greater i3.1)
      · rw [Int.toNat_natCast]
        exact (cover_iff hx128 hor i3.2).2 ⟨i, i2, i1, rfl⟩
/-- What the table tells of a set. -/
def valW (F : List Bool) (n : Nat) (y : Int) : Nat := cntW F (n - cntN y.toNat) y.toNat
/-- What the sets of a list with one item more tell, summed. -/
def sumV (F : List Bool) (n x : Nat) (L : List Int) : Nat := (L.filter fun y => coverB x y.toNat).foldl (fun s y => s + valW F n y) 0
theorem sumV_cons (F : List Bool) (n x : Nat) (y : Int) (L : List Int) : sumV F n x (y :: L) = (if coverB x y.toNat = true then valW F n y else 0) + sumV F n x L := by
  have from_ : ∀ (M : List Int) (s : Nat), M.foldl (fun s y => s + valW F n y) s = s + M.foldl (fun s y => s + valW F n y) 0 := by
    intro M
    induction M with
    | nil => intro s; rfl
    | cons z M ih =>
      intro s
      rw [List.foldl_cons, List.foldl_cons, ih, ih (0 + valW F n z)]
      omega
  unfold sumV
  rw [List.filter_cons]
  by_cases h : coverB x y.toNat = true
  · rw [if_pos h, if_pos h, List.foldl_cons, from_, Nat.zero_add]
  · rw [if_neg h, if_neg h, Nat.zero_add]
section
variable {n : Int} {l : List Int} (hS : isSpaceB n l = true)
include hS
theorem valW_small (y : Int) : valW (famOf l) n.toNat y ≤ 823543 := by
  obtain ⟨n1, n7, _⟩ := isSpaceB_parts hS
  exact cntW_small _ (by omega) _
theorem wo_l1 {k0 x : Nat} (hk : k0 < l.length) (hxk : rd l (k0 : Int) = (x : Int)) {X : List Int} (hX : X.length = l.length) (hT : ∀ j : Nat, k0 < j → j < l.length → rd X (j : Int) = (valW (famOf l) n.toNat (rd l (j : Int)) : Int)) (r : List Int) : ∀ (dd j s : Nat), l.length - j = dd → k0 < j → j ≤ l.length → s ≤ 823543 * j → Ev (fun k => spec_woWays.l0 k (X.set k0 ((s + sumV (famOf l) n.toNat x (l.drop j) : Nat) : Int)) ((k0 : Int) - 1) n l) r → Ev (fun k => spec_woWays.l1 k (X.set k0 (s : Int)) k0 (j : Int) n l) r := by
  have hlen := isSpaceB_len hS
  have hM := isSpaceB_128 hS
  have hx128 : x < 128 := by
    have := (hM _ (rd_mem (l := l) (i := (k0 : Int)) (by omega) (by omega))).2
    omega
  intro dd
  induction dd with
  | zero =>
    intro j s hd hkj hj hs h
    rw [List.drop_of_length_le (by omega)] at h
    have h : Ev (fun k => spec_woWays.l0 k (X.set k0 (s : Int)) ((k0 : Int) - 1) n l) r := h
    exact Ev.succ (fun k => by simp only [spec_woWays.l1]; rw [if_neg (by rw [List.length_set]; omega), wrap_in (by omega) (by omega)]) h
  | succ dd ih =>
    intro j s hd hkj hj hs h
    have hlt : j < l.length := by omega
    have hd1 : l.length - (j + 1) = dd := by omega
    have hd2 : k0 < j + 1 := by omega
    have hd3 : j + 1 ≤ l.length := by omega
    have hs2 : s ≤ 823543 * (j + 1) := by omega
    have hz1 : (j : Int) < ((X.set k0 (s : Int)).length : Int) := by rw [List.length_set]; omega
    have hz2 : (0 : Int) ≤ (j : Int) := by omega
    have hz3 : (j : Int) < (l.length : Int) := by omega
    have hz4 : (0 : Int) ≤ (k0 : Int) := by omega
    have hz5 : (k0 : Int) < (l.length : Int) := by omega
    have hz6 : (k0 : Int) < ((X.set k0 (s : Int)).length : Int) := by rw [List.length_set]; omega
    have hkX : k0 < X.length := by omega
    have hne : ¬ k0 = j := by omega
    have HWS : Aside0 (wrap64 ((j : Int) + 1) = ((j + 1 : Nat) : Int)) := ⟨by rw [wrap_succ (by omega) (by omega)]; push_cast; rfl⟩
    have hmem := rd_mem (l := l) hz2 hz3
    obtain ⟨y0, y1⟩ := hM _ hmem
    obtain ⟨y, hy⟩ := Int.eq_ofNat_of_zero_le y0
    have hy128 : y < 128 := by rw [hy] at y1; exact Int.ofNat_lt.1 y1
    have hz : nd y x < 128 := Nat.lt_of_le_of_lt (nd_le y x) hy128
    obtain ⟨v, hv⟩ : ∃ v, v = valW (famOf l) n.toNat (y : Int) := ⟨_, rfl⟩
    have hval : v ≤ 823543 := by rw [hv]; exact valW_small hS (y : Int)
    have hs3 : s + v ≤ 823543 * (j + 1) := by omega
    have HW : Aside0 (wrap64 ((s : Int) + (v : Int)) = ((s + v : Nat) : Int)) := ⟨by rw [wrap_in (by omega) (by omega)]; push_cast; rfl⟩
    have HR2 : Aside0 (rd (X.set k0 (s : Int)) (j : Int) = (v : Int)) := ⟨by rw [rd_set X hkX, if_neg hne, hT j hkj hlt, hy, hv]⟩
    have HR1 : Aside0 (rd (X.set k0 (s : Int)) (k0 : Int) = (s : Int)) := ⟨by rw [rd_set X hkX, if_pos rfl]⟩
    have HB1 : Aside0 (Go.bits .andNot .i64 (x : Int) (y : Int) = ((nd x y : Nat) : Int)) := ⟨bits_nd x y (by omega) (by omega)⟩
    have HB2 : Aside0 (Go.bits .andNot .i64 (y : Int) (x : Int) = ((nd y x : Nat) : Int)) := ⟨bits_nd y x (by omega) (by omega)⟩
    rw [List.drop_eq_getElem_cons hlt, ← rd_get hlt, hy, sumV_cons, Int.toNat_natCast, ← hv] at h
    have pre : ∀ {g : Nat → Option (List Int)}, (∀ k, (if ((nd x y : Nat) : Int) = 0 then ((spec_spCount.f k ((nd y x : Nat) : Int)).bind fun t110 => (if t110 = 1 then (if (k0 : Int) < ((X.set k0 (s : Int)).length : Int) then (spec_woWays.l1 k ((X.set k0 (s : Int)).set (k0 : Int).toNat (wrap64 ((rd (X.set k0 (s : Int)) (k0 : Int)) + (rd (X.set k0 (s : Int)) (j : Int))))) k0 (wrap64 ((j : Int) + 1)) n l) else none) else (spec_woWays.l1 k (X.set k0 (s : Int)) k0 (wrap64 ((j : Int) + 1)) n l))) else (spec_woWays.l1 k (X.set k0 (s : Int)) k0 (wrap64 ((j : Int) + 1)) n l)) = g k) → Ev g r → Ev (fun k => spec_woWays.l1 k (X.set k0 (s : Int)) k0 (j : Int) n l) r := by
      intro g hg hgr
      refine Ev.succ (fun k => ?_) hgr
      rw [← hg k]
      simp only [spec_woWays.l1]
      rw [if_pos hz1, if_pos hz2, if_pos hz3, if_pos hz4, if_pos hz5, hxk, hy, HB1.out, HB2.out]
    by_cases c1 : nd x y = 0
    · refine pre (fun k => by rw [if_pos (by rw [c1]; rfl)]) ?_
      refine Ev.bind (spCount_ok _ hz) ?_
      by_cases c2 : cntN (nd y x) = 1
      · have hcov : coverB x y = true := by unfold coverB; rw [decide_eq_true c1, decide_eq_true c2]; rfl
        rw [if_pos hcov, ← Nat.add_assoc] at h
        refine Ev.to (fun k => by rw [if_pos (by rw [c2]; rfl), if_pos hz6, HR1.out, HR2.out, HW.out, HWS.out, Int.toNat_natCast, List.set_set]) ?_
        exact ih (j + 1) _ hd1 hd2 hd3 hs3 h
      · have hcov : ¬ coverB x y = true := by unfold coverB; rw [decide_eq_false c2, Bool.and_false]; decide
        rw [if_neg hcov, Nat.zero_add] at h
        have c2' : ¬ ((cntN (nd y x) : Nat) : Int) = 1 := fun e => c2 (Int.ofNat.inj e)
        exact Ev.to (fun k => by rw [if_neg c2', HWS.out]) (ih (j + 1) s hd1 hd2 hd3 hs2 h)
    · have hcov : ¬ coverB x y = true := by unfold coverB; rw [decide_eq_false c1, Bool.false_and]; decide
      rw [if_neg hcov, Nat.zero_add] at h
      have c1' : ¬ ((nd x y : Nat) : Int) = 0 := fun e => c1 (Int.ofNat.inj e)
      exact pre (fun k => by rw [if_neg c1', HWS.out]) (ih (j + 1) s hd1 hd2 hd3 hs2 h)
theorem sumV_val {k0 x : Nat} (hk : k0 < l.length) (hxk : rd l (k0 : Int) = (x : Int)) (hne : k0 + 1 < l.length) : sumV (famOf l) n.toNat x (l.drop (k0 + 1)) = valW (famOf l) n.toNat (x : Int) := by
  obtain ⟨n1, n7, _⟩ := isSpaceB_parts hS
  have hM := isSpaceB_128 hS
  have hr := risingB_rise (isSpaceB_parts hS).2.2.2.1
  have hmem := rd_mem (l := l) (i := (k0 : Int)) (by omega) (by omega)
  rw [hxk] at hmem
  have hx128 : x < 128 := by have := (hM _ hmem).2; omega
  have hlt2 : x < 2 ^ n.toNat := by
    have := (isSpaceB_mem hS _ hmem).2
    exact_mod_cast this
  have hG : GInv n.toNat (famOf l) x (cntN x) := ⟨mem_fam_nat hmem hx128, hlt2, rfl⟩
  have hle := cnt_most (n := n.toNat) (by omega) hlt2
  have hnf : cntN x ≠ n.toNat := by
    intro e
    have h1 := (hG.full (by omega)).2 e
    have h2 := hr k0 (k0 + 1) (by omega) hne
    have h3 := (isSpaceB_mem hS _ (rd_mem (l := l) (i := ((k0 + 1 : Nat) : Int)) (by omega) (by omega))).2
    rw [hxk, all_nat.2 h1] at h2
    omega
  obtain ⟨d, hd⟩ : ∃ d, cntN x + (d + 1) = n.toNat := ⟨n.toNat - cntN x - 1, by omega⟩
  unfold sumV
  rw [cover_list hr hM hk hxk, List.foldl_map]
  unfold valW
  rw [Int.toNat_natCast, show n.toNat - cntN x = d + 1 by omega]
  show _ = (itemsN (outerF (famOf l) x)).foldl (addV (cntW (famOf l) d) x) 0
  have key : ∀ (I : List Nat) (s : Nat), (∀ i ∈ I, (outerF (famOf l) x).testBit i = true) → I.foldl (fun s i => s + cntW (famOf l) (n.toNat - cntN (((x ||| 2 ^ i : Nat) : Int)).toNat) (((x ||| 2 ^ i : Nat) : Int)).toNat) s = I.foldl (addV (cntW (famOf l) d) x) s := by
    intro I
    induction I with
    | nil => exact fun s _ => rfl
    | cons i I ih =>
      intro s hI
      obtain ⟨_, _, hG2⟩ := outer_next hS hG (hI i List.mem_cons_self)
      rw [List.foldl_cons, List.foldl_cons, ih _ (fun j hj => hI j (List.mem_cons_of_mem _ hj)), Int.toNat_natCast, hG2.cnt, show n.toNat - (cntN x + 1) = d by omega]
      rfl
  exact key _ 0 (fun i hi => itemsN_bit hi)
theorem wo_l0 : ∀ (kk : Nat) (X : List Int), kk < l.length → X.length = l.length → (∀ j : Nat, kk ≤ j → j < l.length → rd X (j : Int) = (valW (famOf l) n.toNat (rd l (j : Int)) : Int)) → (∀ j : Nat, j < kk → rd X (j : Int) = 0) → ∃ T, Ev (fun k => spec_woWays.l0 k X ((kk : Int) - 1) n l) T ∧ T.length = l.length ∧ ∀ j : Nat, j < l.length → rd T (j : Int) = (valW (famOf l) n.toNat (rd l (j : Int)) : Int)
  | 0, X, hk, hX, hT, _ => ⟨X, Ev.succ (fun k => by simp only [spec_woWays.l0]; rw [if_neg (by omega)]) (Ev.const rfl), hX, fun j hj => hT j (Nat.zero_le _) hj⟩
  | kk + 1, X, hk, hX, hT, h0 => by
    have hlen := isSpaceB_len hS
    have hM := isSpaceB_128 hS
    have hmem := rd_mem (l := l) (i := (kk : Int)) (by omega) (by omega)
    obtain ⟨x, hx⟩ := Int.eq_ofNat_of_zero_le (hM _ hmem).1
    have hset : X.set kk ((0 : Nat) : Int) = X := by
      have e : ((0 : Nat) : Int) = X[kk]'(by omega) := by rw [← rd_get (by omega), h0 kk (by omega)]; rfl
      rw [e]
      exact List.set_getElem_self _
    obtain ⟨T, h1, h2, h3⟩ := wo_l0 kk (X.set kk ((0 + sumV (famOf l) n.toNat x (l.drop (kk + 1)) : Nat) : Int)) (by omega) (by rw [List.length_set]; exact hX) (fun j hj hjl => by
      rw [rd_set X (by omega)]
      by_cases e : kk = j
      · subst e
        rw [if_pos rfl, Nat.zero_add, sumV_val hS (by omega) hx hk, hx]
      · rw [if_neg e]
        exact hT j (by omega) hjl) (fun j hj => by
      rw [rd_set X (by omega), if_neg (by omega)]
      exact h0 j (by omega))
    have key := wo_l1 hS (k0 := kk) (by omega) hx hX (fun j hj hjl => hT j (by omega) hjl) T (l.length - (kk + 1)) (kk + 1) 0 rfl (by omega) (by omega) (Nat.zero_le _) h1
    rw [hset] at key
    have hkk : (((kk + 1 : Nat) : Int) - 1) = (kk : Int) := by push_cast; omega
    have hws : wrap64 ((kk : Int) + 1) = ((kk + 1 : Nat) : Int) := by rw [wrap_succ (by omega) (by omega)]; push_cast; rfl
    exact ⟨T, Ev.succ (fun k => by simp only [spec_woWays.l0]; rw [hkk, if_pos (by omega), hws]) key, h2, h3⟩
theorem all_last : rd l ((l.length - 1 : Nat) : Int) = 2 ^ n.toNat - 1 ∧ 0 < l.length := by
  obtain ⟨n1, n7, _, _, _, hall, _⟩ := isSpaceB_parts hS
  have hr := risingB_rise (isSpaceB_parts hS).2.2.2.1
  rw [getD_pow l n1 n7, decide_eq_true_eq] at hall
  obtain ⟨q, hq, e⟩ := List.mem_iff_getElem.1 hall
  have hmem := rd_mem (l := l) (i := ((l.length - 1 : Nat) : Int)) (by omega) (by omega)
  have h3 := (isSpaceB_mem hS _ hmem).2
  refine ⟨?_, by omega⟩
  rcases Nat.lt_or_ge q (l.length - 1) with h | h
  · have := hr q (l.length - 1) h (by omega)
    rw [rd_get hq, e] at this
    omega
  · obtain rfl : q = l.length - 1 := by omega
    rw [rd_get hq, e]
theorem woWays_ok : ∃ T, Ev (fun k => spec_woWays.f k n l) T ∧ T.length = l.length ∧ ∀ j : Nat, j < l.length → rd T (j : Int) = (valW (famOf l) n.toNat (rd l (j : Int)) : Int) := by
  obtain ⟨n1, n7, _⟩ := isSpaceB_parts hS
  have hlen := isSpaceB_len hS
  obtain ⟨hlast, hl0⟩ := all_last hS
  obtain ⟨T, h1, h2, h3⟩ := wo_l0 hS (l.length - 1) ((List.replicate l.length (0 : Int)).set (l.length - 1) 1) (by omega) (by rw [List.length_set, List.length_replicate]) (fun j hj hjl => by
    obtain rfl : j = l.length - 1 := by omega
    rw [rd_set _ (by rw [List.length_replicate]; omega), if_pos rfl, hlast]
    unfold valW
    have e : ((2 : Int) ^ n.toNat - 1).toNat = 2 ^ n.toNat - 1 := (toNat_pow (n := n) rfl).symm
    have hp := pow128 (n := n) (by omega) n7
    have hG : GInv n.toNat (famOf l) (2 ^ n.toNat - 1) (cntN (2 ^ n.toNat - 1)) := by
      have h3 : 0 < 2 ^ n.toNat := Nat.pow_pos (by decide)
      have hm := rd_mem (l := l) (i := ((l.length - 1 : Nat) : Int)) (by omega) (by omega)
      rw [hlast] at hm
      have := mem_fam hm (isSpaceB_128 hS _ hm).1 (isSpaceB_128 hS _ hm).2
      rw [e] at this
      exact ⟨this, by omega, rfl⟩
    rw [e, (hG.full (by omega)).1 rfl, Nat.sub_self]
    rfl) (fun j hj => by
    rw [rd_set _ (by rw [List.length_replicate]; omega), if_neg (by omega), rd_get (by rw [List.length_replicate]; omega), List.getElem_replicate])
  refine ⟨T, ?_, h2, h3⟩
  unfold spec_woWays.f
  have w1 : wrap64 ((l.length : Int) - 1) = ((l.length - 1 : Nat) : Int) := by rw [wrap_in (by omega) (by omega)]; omega
  have w2 : wrap64 ((l.length : Int) - 2) = ((l.length - 1 : Nat) : Int) - 1 := by rw [wrap_in (by omega) (by omega)]; omega
  refine Ev.to (fun k => by rw [if_pos (by omega), if_pos (by omega), Int.toNat_natCast]) ?_
  refine Ev.bindc rfl ?_
  refine Ev.to (fun k => by rw [List.length_replicate, w1, w2, if_pos (by omega), if_pos (by omega), Int.toNat_natCast]) ?_
  exact h1
theorem woFrom_ok {T : List Int} (hT : T.length = l.length) (hV : ∀ j : Nat, j < l.length → rd T (j : Int) = (valW (famOf l) n.toNat (rd l (j : Int)) : Int)) (y : Int) : Ev (fun k => spec_woFrom.f k n l T y) ((if y ∈ l then valW (famOf l) n.toNat y else 0 : Nat) : Int) := by
  have hlen := isSpaceB_len hS
  have loop : ∀ (d j : Nat), l.length - j = d → j ≤ l.length → Ev (fun k => spec_woFrom.l0 k T y l l.length (j : Int)) ((if y ∈ l.drop j then valW (famOf l) n.toNat y else 0 : Nat) : Int) := by
    intro d
    induction d with
    | zero =>
      intro j hd hj
      rw [List.drop_of_length_le (by omega), if_neg (by simp)]
      exact Ev.succ (g := fun _ => some 0) (fun k => by simp only [spec_woFrom.l0]; rw [if_neg (by omega)]) (Ev.const rfl)
    | succ d ih =>
      intro j hd hj
      have hlt : j < l.length := by omega
      have hws : wrap64 ((j : Int) + 1) = ((j + 1 : Nat) : Int) := by rw [wrap_succ (by omega) (by omega)]; push_cast; rfl
      rw [List.drop_eq_getElem_cons hlt, ← rd_get hlt]
      by_cases e : rd l (j : Int) = y
      · have hv := hV j hlt
        rw [if_pos (by rw [e]; exact List.mem_cons_self)]
        rw [e] at hv
        exact Ev.succ (g := fun _ => some (valW (famOf l) n.toNat y : Int)) (fun k => by simp only [spec_woFrom.l0]; rw [if_pos (by omega), if_pos (by omega), if_pos (by omega), if_pos e, if_pos (by omega), hv]) (Ev.const rfl)
      · have hiff : (y ∈ rd l (j : Int) :: l.drop (j + 1)) ↔ y ∈ l.drop (j + 1) := by
          rw [List.mem_cons]
          exact ⟨fun h => h.elim (fun h2 => absurd h2.symm e) id, .inr⟩
        have := ih (j + 1) (by omega) (by omega)
        by_cases hm : y ∈ l.drop (j + 1)
        · rw [if_pos hm] at this
          rw [if_pos (hiff.2 hm)]
          exact Ev.succ (fun k => by simp only [spec_woFrom.l0]; rw [if_pos (by omega), if_pos (by omega), if_pos (by omega), if_neg e, hws]) this
        · rw [if_neg hm] at this
          rw [if_neg (fun h => hm (hiff.1 h))]
          exact Ev.succ (fun k => by simp only [spec_woFrom.l0]; rw [if_pos (by omega), if_pos (by omega), if_pos (by omega), if_neg e, hws]) this
  have := loop l.length 0 rfl (Nat.zero_le _)
  rw [List.drop_zero] at this
  exact this
end
theorem getD_left {A B : List (List Int)} {i : Nat} (h : i < A.length) : (A ++ B).getD i [] = A.getD i [] := by
  rw [List.getD_eq_getElem?_getD, List.getD_eq_getElem?_getD, List.getElem?_append_left h]
theorem getD_right {A B : List (List Int)} {i : Nat} (h : A.length ≤ i) : (A ++ B).getD i [] = B.getD (i - A.length) [] := by
  rw [List.getD_eq_getElem?_getD, List.getD_eq_getElem?_getD, List.getElem?_append_right h]
/-- The reference's walk to the word with a rank. -/
theorem wwS {n : Int} {l : List Int} (hS : isSpaceB n l = true) {T : List Int} (hT : T.length = l.length) (hV : ∀ j : Nat, j < l.length → rd T (j : Int) = (valW (famOf l) n.toNat (rd l (j : Int)) : Int)) : ∀ (d m x : Nat) (out : List Int) (rank : Nat), m + d = n.toNat → GInv n.toNat (famOf l) x m → out.length = m → rank < cntW (famOf l) d x → Ev (fun k => spec_WordWith.l0 k (rank : Int) T out x n l) ((allW (famOf l) d x out).getD rank [], true)
  | 0, m, x, out, rank, hd, hG, ho, hr => by
    have h0 : rank = 0 := by
      have : rank < 1 := hr
      omega
    subst h0
    exact Ev.succ (g := fun _ => some (out, true)) (fun k => by simp only [spec_WordWith.l0]; rw [if_neg (by omega)]) (Ev.const rfl)
  | d + 1, m, x, out, rank, hd, hG, ho, hr => by
    obtain ⟨n1, n7, _⟩ := isSpaceB_parts hS
    have hlen := isSpaceB_len hS
    have hx128 := hG.x128 (n := n.toNat) (by omega)
    have HALL := fun (x' : Nat) (out' : List Int) (rank' : Nat) (h1 : GInv n.toNat (famOf l) x' (m + 1)) (h2 : out'.length = m + 1) (h3 : rank' < cntW (famOf l) d x') => wwS hS hT hV d (m + 1) x' out' rank' (by omega) h1 h2 h3
    have ho2 : out.length < 17592186044416 := by omega
    have hd7 : d ≤ 7 := by omega
    have loop : ∀ (di i : Nat) (rank : Nat), i + di = n.toNat → rank < (((List.range' i di).filter fun i => (outerF (famOf l) x).testBit i).flatMap fun (i : Nat) => allW (famOf l) d (x ||| 2 ^ i) (out ++ [(i : Int)])).length → rank < 10000000 → Ev (fun k => spec_WordWith.l1 k (rank : Int) T out x (i : Int) n l) ((((List.range' i di).filter fun i => (outerF (famOf l) x).testBit i).flatMap fun (i : Nat) => allW (famOf l) d (x ||| 2 ^ i) (out ++ [(i : Int)])).getD rank [], true) := by
      intro di
      induction di with
      | zero =>
        intro i rank hi hr hb
        exact absurd hr (Nat.not_lt_zero _)
      | succ di ih =>
        intro i rank hi hr hb
        have hin : i < n.toNat := by omega
        have hi7 : i < 7 := by omega
        have hz1 : (i : Int) < n := by omega
        have hz2 : (0 : Int) ≤ (i : Int) := by omega
        have hi2 : i + 1 + di = n.toNat := by omega
        have h2i : 2 ^ i < 128 := two_lt128 hi7
        have hor : x ||| 2 ^ i < 128 := Nat.or_lt_two_pow (n := 7) hx128 h2i
        have HWS : Aside0 (wrap64 ((i : Int) + 1) = ((i + 1 : Nat) : Int)) := ⟨by rw [wrap_succ (by omega) (by omega)]; push_cast; rfl⟩
        have HBITS : Aside0 (Go.bits .or .i64 (x : Int) (shl .i64 1 (i : Int)) = ((x ||| 2 ^ i : Nat) : Int)) := ⟨by rw [shl_one i (by omega), bits_or x (2 ^ i) (by omega) (by omega)]⟩
        rw [List.range'_succ, List.filter_cons] at hr ⊢
        cases hb1 : x.testBit i with
        | true =>
          have hno : ¬ (outerF (famOf l) x).testBit i = true := by
            unfold outerF
            rw [maskOf_bit _ _ hi7, hb1]
            simp
          rw [if_neg hno] at hr ⊢
          refine Ev.succ (fun k => by simp only [spec_WordWith.l1]; rw [if_pos hz1]) ?_
          refine Ev.bindc (spIn_ok x i (by omega)) ?_
          exact Ev.to (fun k => by rw [hb1, if_pos rfl, HWS.out]) (ih (i + 1) rank hi2 hr hb)
        | false =>
          refine Ev.succ (fun k => by simp only [spec_WordWith.l1]; rw [if_pos hz1]) ?_
          refine Ev.bindc (spIn_ok x i (by omega)) ?_
          refine Ev.to (fun k => by rw [hb1, if_neg (by decide), if_pos hz2, HBITS.out]) ?_
          refine Ev.bind (woFrom_ok hS hT hV ((x ||| 2 ^ i : Nat) : Int)) ?_
          by_cases hob : (outerF (famOf l) x).testBit i = true
          · obtain ⟨_, _, hG2⟩ := outer_next hS hG hob
            rw [if_pos hob] at hr ⊢
            rw [List.flatMap_cons, List.length_append, allW_len] at hr
            rw [List.flatMap_cons]
            have hval : valW (famOf l) n.toNat ((x ||| 2 ^ i : Nat) : Int) = cntW (famOf l) d (x ||| 2 ^ i) := by
              unfold valW
              rw [Int.toNat_natCast, hG2.cnt, show n.toNat - (m + 1) = d by omega]
            rw [if_pos (fam_mem hG2.mem), hval]
            obtain ⟨v, hv⟩ : ∃ v, v = cntW (famOf l) d (x ||| 2 ^ i) := ⟨_, rfl⟩
            have hvs : v ≤ 823543 := by rw [hv]; exact cntW_small _ hd7 _
            have hAl : (allW (famOf l) d (x ||| 2 ^ i) (out ++ [(i : Int)])).length = v := by rw [allW_len, hv]
            have HREC := HALL (x ||| 2 ^ i) (out ++ [(i : Int)]) rank hG2 (by rw [List.length_append, List.length_singleton, ho])
            rw [← hv] at hr HREC ⊢
            clear hv
            by_cases hc : rank < v
            · rw [getD_left (by rw [hAl]; exact hc)]
              exact Ev.to (fun k => by rw [if_pos (Int.ofNat_lt.2 hc), if_pos ho2]) (HREC hc)
            · rw [getD_right (by rw [hAl]; omega), hAl]
              have HW : Aside0 (wrap64 ((rank : Int) - (v : Int)) = ((rank - v : Nat) : Int)) := ⟨by rw [wrap_in (by omega) (by omega)]; omega⟩
              exact Ev.to (fun k => by rw [if_neg (fun h => hc (Int.ofNat_lt.1 h)), HW.out, HWS.out]) (ih (i + 1) (rank - v) hi2 (by omega) (by omega))
          · have hnm : ((x ||| 2 ^ i : Nat) : Int) ∉ l := by
              intro hm
              refine hob ?_
              unfold outerF
              rw [maskOf_bit _ _ hi7, hb1, mem_fam_nat hm hor]
              rfl
            rw [if_neg hob] at hr ⊢
            rw [if_neg hnm]
            have HW : Aside0 (wrap64 ((rank : Int) - ((0 : Nat) : Int)) = (rank : Int)) := ⟨by rw [wrap_in (by omega) (by omega)]; omega⟩
            exact Ev.to (fun k => by rw [if_neg (by omega), HW.out, HWS.out]) (ih (i + 1) rank hi2 hr hb)
    have hitems : ((List.range' 0 n.toNat).filter fun i => (outerF (famOf l) x).testBit i) = itemsN (outerF (famOf l) x) := by
      unfold itemsN
      rw [show [0, 1, 2, 3, 4, 5, 6] = List.range' 0 7 from rfl, show (7 : Nat) = n.toNat + (7 - n.toNat) by omega, ← List.range'_append_1, List.filter_append]
      rw [show ((List.range' (0 + n.toNat) (7 - n.toNat)).filter fun i => (outerF (famOf l) x).testBit i) = [] from List.filter_eq_nil_iff.2 (fun j hj hb => by
        have h1 := (outer_next hS hG hb).1
        have h2 := List.mem_range'_1.1 hj
        omega), List.append_nil]
    have hsm := cntW_small (famOf l) (d := d + 1) (by omega) x
    have key := loop n.toNat 0 rank (by omega) (by rw [hitems]; exact (allW_len (famOf l) (d + 1) x out).symm ▸ hr) (by omega)
    rw [hitems] at key
    have key : Ev (fun k => spec_WordWith.l1 k (rank : Int) T out x 0 n l) ((allW (famOf l) (d + 1) x out).getD rank [], true) := key
    exact Ev.succ (fun k => by simp only [spec_WordWith.l0]; rw [if_pos (by omega)]) key
theorem setOf_nil {n : Int} {l : List Int} (hS : isSpaceB n l = true) : Ev (fun k => impl_Space_setOf.f k n l []) (0, true) := by
  unfold impl_Space_setOf.f
  refine Ev.bindc (family_f hS) ?_
  exact Ev.succ (g := fun _ => some (0, true)) (fun k => by simp only [impl_Space_setOf.l0]; rw [if_neg (by simp)]) (Ev.const rfl)
theorem wordWith_both (n : Int) (l : List Int) (rank : Int) (hlen : l.length < 1048577) : ∃ r, Ev (fun k => spec_WordWith.f k n l rank) r ∧ Ev (fun k => impl_WordWith.f k n l rank) r ∧ r.1.length ≤ 1048577 := by
  unfold spec_WordWith.f impl_WordWith.f
  cases hS : isSpaceB n l with
  | false =>
    refine ⟨([], false), ?_, ?_, by show (0 : Nat) ≤ _; omega⟩
    · refine Ev.bind (spGood_ok n l (by omega)) ?_
      exact Ev.to (fun k => by rw [hS, if_neg (by decide)]) (Ev.const rfl)
    · refine Ev.bindc (show impl_IsSpace.f n l = some false from congrArg some hS) ?_
      exact Ev.to (fun k => by rw [if_neg (by decide)]) (Ev.const rfl)
  | true =>
    obtain ⟨n1, n7, _⟩ := isSpaceB_parts hS
    have hll := isSpaceB_len hS
    have hr := risingB_rise (isSpaceB_parts hS).2.2.2.1
    have hG0 : GInv n.toNat (famOf l) 0 0 := GInv.start hS
    obtain ⟨hlast, hl0⟩ := all_last hS
    have h00 : rd l ((0 : Nat) : Int) = 0 := by
      have hm : (0 : Int) ∈ l := by
        have := fam_mem hG0.mem
        exact_mod_cast this
      obtain ⟨q, hq, e⟩ := List.mem_iff_getElem.1 hm
      have h1 := (isSpaceB_128 hS _ (rd_mem (l := l) (i := ((0 : Nat) : Int)) (by omega) (by omega))).1
      rcases Nat.eq_zero_or_pos q with rfl | hp
      · rw [rd_get hq]
        exact e
      · have h2 := hr 0 q hp hq
        rw [rd_get hq, e] at h2
        omega
    obtain ⟨T, hT1, hT2, hT3⟩ := woWays_ok hS
    obtain ⟨V, hV⟩ : ∃ V, V = cntW (famOf l) n.toNat 0 := ⟨_, rfl⟩
    have hVs : V ≤ 823543 := by rw [hV]; exact cntW_small _ (by omega) _
    have hT0 : rd T 0 = (V : Int) := by
      have h1 := hT3 0 hl0
      rw [h00] at h1
      have h2 : valW (famOf l) n.toNat 0 = V := by
        rw [hV]
        unfold valW
        have h3 : cntN (Int.toNat 0) = 0 := hG0.cnt
        rw [h3]
        rfl
      rw [h2] at h1
      exact h1
    have hwV : wrap64 ((V : Int) - 1) = (V : Int) - 1 := wrap_in (by omega) (by omega)
    obtain ⟨c, hways⟩ := ways_ok hS n.toNat 0 0 (by omega) hG0
    have hw2 : Ev (fun k => impl_Space_ways.f k n l 0) (V : Int) := by
      unfold impl_Space_ways.f
      refine Ev.bindc (all_ok n l (by omega) n7) ?_
      refine Ev.bindc (family_f hS) ?_
      rw [hV]
      exact Ev.bind hways (Ev.const rfl)
    have spec_in : ∀ R, Ev (fun k => if decide (0 ≤ rank ∧ rank ≤ (V : Int) - 1) = true then spec_WordWith.l0 k rank T [] 0 n l else some ([], false)) R → Ev (fun k => (spec_spGood.f k n l).bind fun t102 => (if t102 = true then ((spec_woWays.f k n l).bind fun t103 => (if 0 < (t103.length : Int) then ((spec_l1In.f rank 0 (wrap64 ((rd t103 0) - 1))).bind fun t107 => (if t107 = true then (spec_WordWith.l0 k rank t103 ([] : List Int) 0 n l) else (some (([] : List Int), false)))) else (none))) else (some (([] : List Int), false)))) R := by
      intro R hR
      refine Ev.bind (spGood_ok n l (by omega)) ?_
      refine Ev.to (fun k => by rw [hS, if_pos rfl]) ?_
      refine Ev.bind hT1 ?_
      refine Ev.to (fun k => by rw [if_pos (by rw [hT2]; omega), hT0, hwV]) ?_
      refine Ev.bindc (show spec_l1In.f rank 0 ((V : Int) - 1) = some (decide (0 ≤ rank ∧ rank ≤ (V : Int) - 1)) from ?_) hR
      unfold spec_l1In.f
      by_cases h : 0 ≤ rank <;> simp [h]
    have impl_in : ∀ R, Ev (fun k => if decide (0 ≤ rank ∧ rank ≤ (V : Int) - 1) = true then ((impl_Space_words.run k n l (rankD rank) ([], 0)).bind fun s => some (s.1, true)) else some ([], false)) R → Ev (fun k => (impl_IsSpace.f n l).bind fun b => if b = true then ((impl_Space_ways.f k n l 0).bind fun m => (impl_within.f rank 0 (wrap64 (m - 1))).bind fun ok => if ok = true then ((impl_Space_words.run k n l (rankD rank) ([], 0)).bind fun s => some (s.1, true)) else some ([], false)) else some ([], false)) R := by
      intro R hR
      refine Ev.bindc (show impl_IsSpace.f n l = some true from congrArg some hS) ?_
      refine Ev.to (fun k => by rw [if_pos rfl]) ?_
      refine Ev.bind hw2 ?_
      refine Ev.to (fun k => by rw [hwV]) ?_
      refine Ev.bindc (show impl_within.f rank 0 ((V : Int) - 1) = some (decide (0 ≤ rank ∧ rank ≤ (V : Int) - 1)) from ?_) hR
      unfold impl_within.f
      by_cases h : 0 ≤ rank <;> simp [h]
    by_cases hin : 0 ≤ rank ∧ rank ≤ (V : Int) - 1
    · obtain ⟨q, rfl⟩ := Int.eq_ofNat_of_zero_le hin.1
      have hq : q < V := by omega
      have hL : (allW (famOf l) n.toNat 0 []).length = V := by rw [allW_len, hV]
      have hword : ((allW (famOf l) n.toNat 0 []).getD q []).length ≤ 7 := by
        have hm : (allW (famOf l) n.toNat 0 []).getD q [] ∈ allW (famOf l) n.toNat 0 [] := by
          rw [List.getD_eq_getElem?_getD, List.getElem?_eq_getElem (by omega)]
          exact List.getElem_mem _
        have := allW_mem _ _ _ _ _ hm
        rw [this, List.length_nil]
        omega
      refine ⟨((allW (famOf l) n.toNat 0 []).getD q [], true), spec_in _ ?_, impl_in _ ?_, by show ((allW (famOf l) n.toNat 0 []).getD q []).length ≤ _; omega⟩
      · refine Ev.to (fun k => by rw [if_pos (decide_eq_true hin)]) ?_
        have := wwS hS hT2 hT3 n.toNat 0 0 [] q (by omega) hG0 rfl (by rw [← hV]; exact hq)
        exact this
      · refine Ev.to (fun k => by rw [if_pos (decide_eq_true hin)]) ?_
        have hfold := rank_fold (q : Int) (allW (famOf l) n.toNat 0 []) [] 0 (Int.le_refl _) (by omega) (by rw [hL]; omega) (by omega) (fun w hw => by
          have := allW_mem _ _ _ _ _ hw
          rw [this, List.length_nil]
          omega)
        rw [Int.sub_zero, Int.toNat_natCast] at hfold
        have hrun := ww_fold hS (rankD (q : Int)) n.toNat 0 0 [] ([], 0) _ (by omega) hG0 rfl hfold
        refine Ev.bind (show Ev (fun k => impl_Space_words.run k n l (rankD (q : Int)) ([], 0)) ((allW (famOf l) n.toNat 0 []).getD q [], (q : Int) + 1) from ?_) (Ev.const rfl)
        unfold impl_Space_words.run
        refine Ev.bindc (all_ok n l (by omega) n7) ?_
        refine Ev.bindc (family_f hS) ?_
        refine Ev.bindc (clone_ok (by simp)) ?_
        refine Ev.bind (setOf_nil hS) ?_
        exact Ev.bind hrun (Ev.const rfl)
    · refine ⟨([], false), spec_in _ ?_, impl_in _ ?_, by show (0 : Nat) ≤ _; omega⟩
      · exact Ev.to (fun k => by rw [if_neg (by rw [decide_eq_false hin]; decide)]) (Ev.const rfl)
      · exact Ev.to (fun k => by rw [if_neg (by rw [decide_eq_false hin]; decide)]) (Ev.const rfl)
theorem FnExactWordWith : PureFnExactWordWith := by
  intro n0 l0 a1 _ _ hl0 _
  refine Ev.rounds ?_
  unfold laws_FnExactWordWith.f
  by_cases hb0 : (1048576 : Int) < l0.length
  · refine Ev.bindc (szSpace_over n0 l0 _ (by omega) hl0 hb0 (by omega)) ?_
    exact Ev.to (fun k => by rw [if_pos (by decide)]) (Ev.const rfl)
  · refine Ev.bindc (szSpace_fits n0 l0 _ (by omega) (by omega)) ?_
    refine Ev.to (fun k => by rw [if_neg (by omega)]) ?_
    obtain ⟨⟨r0, r1⟩, h1, h2, z0⟩ := wordWith_both n0 l0 a1 (by omega)
    replace z0 : r0.length ≤ 1048577 := z0
    have a0_ := toSpace_ok n0 l0 (by omega)
    have e0_ := eqSpace_refl n0 l0 (by omega)
    have m0_ := markSpace_ok n0 l0 (1) (by omega) (by omega)
    have g0_ := eqIntS_refl r0 (by omega)
    have p0_ := markIntS_ok r0 (1) (by omega) (by omega)
    have d0_ := heldIntS_ok (1) r0.length (by omega) (by omega)
    repeat (first | exact Ev.const rfl | (with_reducible refine Ev.bind h1 ?_) | (with_reducible refine Ev.bind h2 ?_) | (with_reducible refine Ev.bind a0_ ?_) | (with_reducible refine Ev.bind e0_ ?_) | (with_reducible refine Ev.bind m0_ ?_) | (with_reducible refine Ev.bind g0_ ?_) | (with_reducible refine Ev.bind p0_ ?_) | (with_reducible refine Ev.bind d0_ ?_) | refine Ev.to (fun k => by rw [if_pos rfl]) ?_ | refine Ev.to (fun k => by rw [if_neg (by omega)]) ?_ | refine Ev.to (fun k => by rw [if_neg (by simp)]) ?_ | refine Ev.succ (fun k => by simp only [laws_FnExactWordWith.j0]; rw [if_neg (by simp)]) ?_ | refine Ev.succ (fun k => by simp only [laws_FnExactWordWith.j1]; rw [if_neg (by simp)]) ?_ | refine Ev.succ (fun k => by simp only [laws_FnExactWordWith.j2]; rw [if_neg (by simp)]) ?_ | refine Ev.succ (fun k => by simp only [laws_FnExactWordWith.j3]; rw [if_neg (by simp)]) ?_)


end Go.Proofs.Ytkepeflplmkcmaa.Q
