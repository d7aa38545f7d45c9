/- Contracts of functions that the laws reach: a call returns what the plain Lean function of the same name tells. Conditions: those of each theorem. Made by gen.py, a program of this session, over the print of the translation. -/
import Derived.Test.YtkepeflplmkcmaaPx0
import Derived.Test.YtkepeflplmkcmaaPx1
import Derived.Test.YtkepeflplmkcmaaPx2
import Derived.Test.YtkepeflplmkcmaaPx3
import Derived.Test.YtkepeflplmkcmaaPx4
import Derived.Test.YtkepeflplmkcmaaPx5
namespace Go.Proofs.Ytkepeflplmkcmaa.Q
open Go.RowKit Go.Proofs.YtkepeflplmkcmaaW.PrintWords Go.Proofs.YtkepeflplmkcmaaW.PrintLast Go.Proofs.YtkepeflplmkcmaaW.PrintMore
attribute [local go_sem] max2_int min2_int max_two min_two max_three min_three max_four min_four   -- for this text's walks alone
set_option linter.unusedVariables false
set_option linter.unusedSimpArgs false

-- HAND with spec.woWays+spec.spCount
theorem cnt_one_ : ∀ (z : Fin 128), cntN z.val = 1 → ∃ i : Fin 7, z.val = 2 ^ i.val := by decide +kernel
theorem or_facts : ∀ (x : Fin 128) (i : Fin 7), x.val.testBit i.val = false → nd x.val (x.val ||| 2 ^ i.val) = 0 ∧ cntN (nd (x.val ||| 2 ^ i.val) x.val) = 1 ∧ x.val ||| 2 ^ i.val = x.val + 2 ^ i.val := by decide +kernel
/-- Has a set just one item more? -/
def coverB (x y : Nat) : Bool := decide (nd x y = 0) && decide (cntN (nd y x) = 1)
theorem cover_iff {F : List Bool} {x y : Nat} (hx : x < 128) (hy : y < 128) (hF : F.getD y false = true) : coverB x y = true ↔ ∃ i, (outerF F x).testBit i = true ∧ i < 7 ∧ y = x ||| 2 ^ i := by
 unfold coverB
 rw [Bool.and_eq_true, decide_eq_true_eq, decide_eq_true_eq]
 constructor
 ·
  rintro ⟨h1, h2⟩
  have hz : nd y x < 128 := Nat.lt_of_le_of_lt (nd_le y x) hy
  obtain ⟨i, hi⟩ := cnt_one_ ⟨nd y x, hz⟩ h2
  have hi : nd y x = 2 ^ i.val := hi
  have hb := nd_testBit y x i.val
  rw [hi, Nat.testBit_two_pow_self] at hb
  have hb2 : y.testBit i.val = true ∧ x.testBit i.val = false := by
   cases h3 : y.testBit i.val <;> cases h4 : x.testBit i.val <;> rw [h3, h4] at hb <;> first | (exact ⟨rfl, rfl⟩) | (cases hb)
  have hs := sub_of_nd h1
  have e : y = x ||| 2 ^ i.val := by
   apply Nat.eq_of_testBit_eq
   intro j
   rw [Nat.testBit_or]
   have h5 := nd_testBit y x j
   rw [hi] at h5
   cases h6 : x.testBit j with
   | true => rw [hs j h6]; rfl
   | false =>
    rw [h6] at h5
    rw [h5]
    simp
  refine ⟨i.val, ?_, i.isLt, e⟩
  unfold outerF
  rw [maskOf_bit _ _ i.isLt, hb2.2, ← e, hF]
  rfl
 ·
  rintro ⟨i, h1, h2, rfl⟩
  unfold outerF at h1
  rw [maskOf_bit _ _ h2, Bool.and_eq_true, Bool.not_eq_true'] at h1
  obtain ⟨f1, f2, _⟩ := or_facts ⟨x, hx⟩ ⟨i, h2⟩ h1.1
  exact ⟨f1, f2⟩
theorem sorted_ext : ∀ {A B : List Int}, A.Pairwise (· < ·) → B.Pairwise (· < ·) → (∀ x, x ∈ A ↔ x ∈ B) → A = B
 | [], [], _, _, _ => rfl
 | [], b :: B, _, _, h => by have := (h b).2 List.mem_cons_self; cases this
 | a :: A, [], _, _, h => by have := (h a).1 List.mem_cons_self; cases this
 | a :: A, b :: B, hA, hB, h => by
  obtain ⟨a1, a2⟩ := List.pairwise_cons.1 hA
  obtain ⟨b1, b2⟩ := List.pairwise_cons.1 hB
  have hab : a = b := by
   rcases List.mem_cons.1 ((h a).1 List.mem_cons_self) with e | e
   ·
    exact e
   ·
    rcases List.mem_cons.1 ((h b).2 List.mem_cons_self) with e2 | e2
    ·
     exact e2.symm
    ·
     have h1 := b1 a e
     have h2 := a1 b e2
     omega
  subst hab
  rw [sorted_ext a2 b2 (fun x => ?_)]
  constructor
  ·
   intro hx
   have h1 := a1 x hx
   rcases List.mem_cons.1 ((h x).1 (List.mem_cons_of_mem _ hx)) with e | e
   ·
    omega
   ·
    exact e
  ·
   intro hx
   have h1 := b1 x hx
   rcases List.mem_cons.1 ((h x).2 (List.mem_cons_of_mem _ hx)) with e | e
   ·
    omega
   ·
    exact e
theorem cover_list {l : List Int} (hr : Rise l) (hM : ∀ x ∈ l, 0 ≤ x ∧ x < 128) {k0 x : Nat} (hk : k0 < l.length) (hx : rd l (k0 : Int) = (x : Int)) : ((l.drop (k0 + 1)).filter fun y => coverB x y.toNat) = (itemsN (outerF (famOf l) x)).map fun (i : Nat) => ((x ||| 2 ^ i : Nat) : Int) := by
 have hxm := rd_mem (l := l) (i := (k0 : Int)) (by omega) (by omega)
 have hx128 : x < 128 := by have := (hM _ hxm).2; omega
 refine sorted_ext (((pairwise_of_rise hr).sublist (List.drop_sublist _ _)).filter _) ?_ (fun y => ?_)
 ·
  rw [List.pairwise_map]
  have hp : (itemsN (outerF (famOf l) x)).Pairwise (· < ·) := List.Pairwise.filter _ (by decide)
  refine List.Pairwise.imp_of_mem ?_ hp
  intro i j hi hj hij
  obtain ⟨i1, i2⟩ := (itemsN_mem _ _).1 hi
  obtain ⟨j1, j2⟩ := (itemsN_mem _ _).1 hj
  unfold outerF at i2 j2
  rw [maskOf_bit _ _ i1, Bool.and_eq_true, Bool.not_eq_true'] at i2
  rw [maskOf_bit _ _ j1, Bool.and_eq_true, Bool.not_eq_true'] at j2
  have e1 := (or_facts ⟨x, hx128⟩ ⟨i, i1⟩ i2.1).2.2
  have e2 := (or_facts ⟨x, hx128⟩ ⟨j, j1⟩ j2.1).2.2
  have e1 : x ||| 2 ^ i = x + 2 ^ i := e1
  have e2 : x ||| 2 ^ j = x + 2 ^ j := e2
  have h3 : 2 ^ i < 2 ^ j := Nat.pow_lt_pow_right (by decide) hij
  rw [e1, e2]
  exact Int.ofNat_lt.2 (by omega)
 ·
  rw [List.mem_filter, List.mem_map]
  constructor
  ·
   rintro ⟨h1, h2⟩
   have hyl := List.mem_of_mem_drop h1
   obtain ⟨y0, y1⟩ := hM y hyl
   obtain ⟨i, i1, i2, i3⟩ := (cover_iff hx128 (by omega) (mem_fam hyl y0 y1)).1 h2
   exact ⟨i, (itemsN_mem _ _).2 ⟨i2, i1⟩, by rw [← i3]; omega⟩
  ·
   rintro ⟨i, hi, rfl⟩
   obtain ⟨i1, i2⟩ := (itemsN_mem _ _).1 hi
   have i3 := i2
   unfold outerF at i3
   rw [maskOf_bit _ _ i1, Bool.and_eq_true, Bool.not_eq_true'] at i3
   have hor : x ||| 2 ^ i < 128 := Nat.or_lt_two_pow (n := 7) hx128 (two_lt128 i1)
   refine ⟨drop_far hr hk (fam_mem i3.2) ?_, ?_⟩
   ·
    rw [hx]
    exact Int.ofNat_lt.2 (or_greater i3.1)
   ·
    rw [Int.toNat_natCast]
    exact (cover_iff hx128 hor i3.2).2 ⟨i, i2, i1, rfl⟩
/-- What the table tells of a set. -/
def valW (F : List Bool) (n : Nat) (y : Int) : Nat := cntW F (n - cntN y.toNat) y.toNat
/-- What the sets of a list with one item more tell, summed. -/
def sumV (F : List Bool) (n x : Nat) (L : List Int) : Nat := (L.filter fun y => coverB x y.toNat).foldl (fun s y => s + valW F n y) 0
theorem sumV_cons (F : List Bool) (n x : Nat) (y : Int) (L : List Int) : sumV F n x (y :: L) = (if coverB x y.toNat = true then valW F n y else 0) + sumV F n x L := by
 have from_ : ∀ (M : List Int) (s : Nat), M.foldl (fun s y => s + valW F n y) s = s + M.foldl (fun s y => s + valW F n y) 0 := by
  intro M
  induction M with
  | nil => intro s; rfl
  | cons z M ih =>
   intro s
   rw [List.foldl_cons, List.foldl_cons, ih, ih (0 + valW F n z)]
   omega
 unfold sumV
 rw [List.filter_cons]
 by_cases h : coverB x y.toNat = true
 ·
  rw [if_pos h, if_pos h, List.foldl_cons, from_, Nat.zero_add]
 ·
  rw [if_neg h, if_neg h, Nat.zero_add]
section
variable {n : Int} {l : List Int} (hS : isSpaceB n l = true)
include hS
theorem valW_small (y : Int) : valW (famOf l) n.toNat y ≤ 823543 := by
 obtain ⟨n1, n7, _⟩ := isSpaceB_parts hS
 exact cntW_small _ (by omega) _
theorem wo_l1 {k0 x : Nat} (hk : k0 < l.length) (hxk : rd l (k0 : Int) = (x : Int)) {X : List Int} (hX : X.length = l.length) (hT : ∀ j : Nat, k0 < j → j < l.length → rd X (j : Int) = (valW (famOf l) n.toNat (rd l (j : Int)) : Int)) (r : List Int) : ∀ (dd j s : Nat), l.length - j = dd → k0 < j → j ≤ l.length → s ≤ 823543 * j → Ev (fun k => spec_woWays.l0 k (X.set k0 ((s + sumV (famOf l) n.toNat x (l.drop j) : Nat) : Int)) ((k0 : Int) - 1) n l) r → Ev (fun k => spec_woWays.l1 k (X.set k0 (s : Int)) k0 (j : Int) n l) r := by
 have hlen := isSpaceB_len hS
 have hM := isSpaceB_128 hS
 have hx128 : x < 128 := by
  have := (hM _ (rd_mem (l := l) (i := (k0 : Int)) (by omega) (by omega))).2
  omega
 intro dd
 induction dd with
 | zero =>
  intro j s hd hkj hj hs h
  rw [List.drop_of_length_le (by omega)] at h
  have h : Ev (fun k => spec_woWays.l0 k (X.set k0 (s : Int)) ((k0 : Int) - 1) n l) r := h
  exact Ev.succ (fun k => by simp only [spec_woWays.l1]; rw [if_neg (by rw [List.length_set]; omega), wrap_in (by omega) (by omega)]) h
 | succ dd ih =>
  intro j s hd hkj hj hs h
  have hlt : j < l.length := by omega
  have hd1 : l.length - (j + 1) = dd := by omega
  have hd2 : k0 < j + 1 := by omega
  have hd3 : j + 1 ≤ l.length := by omega
  have hs2 : s ≤ 823543 * (j + 1) := by omega
  have hz1 : (j : Int) < ((X.set k0 (s : Int)).length : Int) := by rw [List.length_set]; omega
  have hz2 : (0 : Int) ≤ (j : Int) := by omega
  have hz3 : (j : Int) < (l.length : Int) := by omega
  have hz4 : (0 : Int) ≤ (k0 : Int) := by omega
  have hz5 : (k0 : Int) < (l.length : Int) := by omega
  have hz6 : (k0 : Int) < ((X.set k0 (s : Int)).length : Int) := by rw [List.length_set]; omega
  have hkX : k0 < X.length := by omega
  have hne : ¬ k0 = j := by omega
  have HWS : Aside0 (wrap64 ((j : Int) + 1) = ((j + 1 : Nat) : Int)) := ⟨by rw [wrap_succ (by omega) (by omega)]; push_cast; rfl⟩
  have hmem := rd_mem (l := l) hz2 hz3
  obtain ⟨y0, y1⟩ := hM _ hmem
  obtain ⟨y, hy⟩ := Int.eq_ofNat_of_zero_le y0
  have hy128 : y < 128 := by rw [hy] at y1; exact Int.ofNat_lt.1 y1
  have hz : nd y x < 128 := Nat.lt_of_le_of_lt (nd_le y x) hy128
  obtain ⟨v, hv⟩ : ∃ v, v = valW (famOf l) n.toNat (y : Int) := ⟨_, rfl⟩
  have hval : v ≤ 823543 := by rw [hv]; exact valW_small hS (y : Int)
  have hs3 : s + v ≤ 823543 * (j + 1) := by omega
  have HW : Aside0 (wrap64 ((s : Int) + (v : Int)) = ((s + v : Nat) : Int)) := ⟨by rw [wrap_in (by omega) (by omega)]; push_cast; rfl⟩
  have HR2 : Aside0 (rd (X.set k0 (s : Int)) (j : Int) = (v : Int)) := ⟨by rw [rd_set X hkX, if_neg hne, hT j hkj hlt, hy, hv]⟩
  have HR1 : Aside0 (rd (X.set k0 (s : Int)) (k0 : Int) = (s : Int)) := ⟨by rw [rd_set X hkX, if_pos rfl]⟩
  have HB1 : Aside0 (Go.bits .andNot .i64 (x : Int) (y : Int) = ((nd x y : Nat) : Int)) := ⟨bits_nd x y (by omega) (by omega)⟩
  have HB2 : Aside0 (Go.bits .andNot .i64 (y : Int) (x : Int) = ((nd y x : Nat) : Int)) := ⟨bits_nd y x (by omega) (by omega)⟩
  rw [List.drop_eq_getElem_cons hlt, ← rd_get hlt, hy, sumV_cons, Int.toNat_natCast, ← hv] at h
  have pre : ∀ {g : Nat → Option (List Int)}, (∀ k, (if ((nd x y : Nat) : Int) = 0 then ((spec_spCount.f k ((nd y x : Nat) : Int)).bind fun t110 => (if t110 = 1 then (if (k0 : Int) < ((X.set k0 (s : Int)).length : Int) then (spec_woWays.l1 k ((X.set k0 (s : Int)).set (k0 : Int).toNat (wrap64 ((rd (X.set k0 (s : Int)) (k0 : Int)) + (rd (X.set k0 (s : Int)) (j : Int))))) k0 (wrap64 ((j : Int) + 1)) n l) else none) else (spec_woWays.l1 k (X.set k0 (s : Int)) k0 (wrap64 ((j : Int) + 1)) n l))) else (spec_woWays.l1 k (X.set k0 (s : Int)) k0 (wrap64 ((j : Int) + 1)) n l)) = g k) → Ev g r → Ev (fun k => spec_woWays.l1 k (X.set k0 (s : Int)) k0 (j : Int) n l) r := by
   intro g hg hgr
   refine Ev.succ (fun k => ?_) hgr
   rw [← hg k]
   simp only [spec_woWays.l1]
   rw [if_pos hz1, if_pos hz2, if_pos hz3, if_pos hz4, if_pos hz5, hxk, hy, HB1.out, HB2.out]
  by_cases c1 : nd x y = 0
  ·
   refine pre (fun k => by rw [if_pos (by rw [c1]; rfl)]) ?_
   refine Ev.bind (spCount_ok _ hz) ?_
   by_cases c2 : cntN (nd y x) = 1
   ·
    have hcov : coverB x y = true := by unfold coverB; rw [decide_eq_true c1, decide_eq_true c2]; rfl
    rw [if_pos hcov, ← Nat.add_assoc] at h
    refine Ev.to (fun k => by rw [if_pos (by rw [c2]; rfl), if_pos hz6, HR1.out, HR2.out, HW.out, HWS.out, Int.toNat_natCast, List.set_set]) ?_
    exact ih (j + 1) _ hd1 hd2 hd3 hs3 h
   ·
    have hcov : ¬ coverB x y = true := by unfold coverB; rw [decide_eq_false c2, Bool.and_false]; decide
    rw [if_neg hcov, Nat.zero_add] at h
    have c2' : ¬ ((cntN (nd y x) : Nat) : Int) = 1 := fun e => c2 (Int.ofNat.inj e)
    exact Ev.to (fun k => by rw [if_neg c2', HWS.out]) (ih (j + 1) s hd1 hd2 hd3 hs2 h)
  ·
   have hcov : ¬ coverB x y = true := by unfold coverB; rw [decide_eq_false c1, Bool.false_and]; decide
   rw [if_neg hcov, Nat.zero_add] at h
   have c1' : ¬ ((nd x y : Nat) : Int) = 0 := fun e => c1 (Int.ofNat.inj e)
   exact pre (fun k => by rw [if_neg c1', HWS.out]) (ih (j + 1) s hd1 hd2 hd3 hs2 h)
theorem sumV_val {k0 x : Nat} (hk : k0 < l.length) (hxk : rd l (k0 : Int) = (x : Int)) (hne : k0 + 1 < l.length) : sumV (famOf l) n.toNat x (l.drop (k0 + 1)) = valW (famOf l) n.toNat (x : Int) := by
 obtain ⟨n1, n7, _⟩ := isSpaceB_parts hS
 have hM := isSpaceB_128 hS
 have hr := risingB_rise (isSpaceB_parts hS).2.2.2.1
 have hmem := rd_mem (l := l) (i := (k0 : Int)) (by omega) (by omega)
 rw [hxk] at hmem
 have hx128 : x < 128 := by have := (hM _ hmem).2; omega
 have hlt2 : x < 2 ^ n.toNat := by
  have := (isSpaceB_mem hS _ hmem).2
  exact_mod_cast this
 have hG : GInv n.toNat (famOf l) x (cntN x) := ⟨mem_fam_nat hmem hx128, hlt2, rfl⟩
 have hle := cnt_most (n := n.toNat) (by omega) hlt2
 have hnf : cntN x ≠ n.toNat := by
  intro e
  have h1 := (hG.full (by omega)).2 e
  have h2 := hr k0 (k0 + 1) (by omega) hne
  have h3 := (isSpaceB_mem hS _ (rd_mem (l := l) (i := ((k0 + 1 : Nat) : Int)) (by omega) (by omega))).2
  rw [hxk, all_nat.2 h1] at h2
  omega
 obtain ⟨d, hd⟩ : ∃ d, cntN x + (d + 1) = n.toNat := ⟨n.toNat - cntN x - 1, by omega⟩
 unfold sumV
 rw [cover_list hr hM hk hxk, List.foldl_map]
 unfold valW
 rw [Int.toNat_natCast, show n.toNat - cntN x = d + 1 by omega]
 show _ = (itemsN (outerF (famOf l) x)).foldl (addV (cntW (famOf l) d) x) 0
 have key : ∀ (I : List Nat) (s : Nat), (∀ i ∈ I, (outerF (famOf l) x).testBit i = true) → I.foldl (fun s i => s + cntW (famOf l) (n.toNat - cntN (((x ||| 2 ^ i : Nat) : Int)).toNat) (((x ||| 2 ^ i : Nat) : Int)).toNat) s = I.foldl (addV (cntW (famOf l) d) x) s := by
  intro I
  induction I with
  | nil => exact fun s _ => rfl
  | cons i I ih =>
   intro s hI
   obtain ⟨_, _, hG2⟩ := outer_next hS hG (hI i List.mem_cons_self)
   rw [List.foldl_cons, List.foldl_cons, ih _ (fun j hj => hI j (List.mem_cons_of_mem _ hj)), Int.toNat_natCast, hG2.cnt, show n.toNat - (cntN x + 1) = d by omega]
   rfl
 exact key _ 0 (fun i hi => itemsN_bit hi)
theorem wo_l0 : ∀ (kk : Nat) (X : List Int), kk < l.length → X.length = l.length → (∀ j : Nat, kk ≤ j → j < l.length → rd X (j : Int) = (valW (famOf l) n.toNat (rd l (j : Int)) : Int)) → (∀ j : Nat, j < kk → rd X (j : Int) = 0) → ∃ T, Ev (fun k => spec_woWays.l0 k X ((kk : Int) - 1) n l) T ∧ T.length = l.length ∧ ∀ j : Nat, j < l.length → rd T (j : Int) = (valW (famOf l) n.toNat (rd l (j : Int)) : Int)
 | 0, X, hk, hX, hT, _ => ⟨X, Ev.succ (fun k => by simp only [spec_woWays.l0]; rw [if_neg (by omega)]) (Ev.const rfl), hX, fun j hj => hT j (Nat.zero_le _) hj⟩
 | kk + 1, X, hk, hX, hT, h0 => by
  have hlen := isSpaceB_len hS
  have hM := isSpaceB_128 hS
  have hmem := rd_mem (l := l) (i := (kk : Int)) (by omega) (by omega)
  obtain ⟨x, hx⟩ := Int.eq_ofNat_of_zero_le (hM _ hmem).1
  have hset : X.set kk ((0 : Nat) : Int) = X := by
   have e : ((0 : Nat) : Int) = X[kk]'(by omega) := by rw [← rd_get (by omega), h0 kk (by omega)]; rfl
   rw [e]
   exact List.set_getElem_self _
  obtain ⟨T, h1, h2, h3⟩ := wo_l0 kk (X.set kk ((0 + sumV (famOf l) n.toNat x (l.drop (kk + 1)) : Nat) : Int)) (by omega) (by rw [List.length_set]; exact hX) (fun j hj hjl => by
   rw [rd_set X (by omega)]
   by_cases e : kk = j
   ·
    subst e
    rw [if_pos rfl, Nat.zero_add, sumV_val hS (by omega) hx hk, hx]
   ·
    rw [if_neg e]
    exact hT j (by omega) hjl) (fun j hj => by
   rw [rd_set X (by omega), if_neg (by omega)]
   exact h0 j (by omega))
  have key := wo_l1 hS (k0 := kk) (by omega) hx hX (fun j hj hjl => hT j (by omega) hjl) T (l.length - (kk + 1)) (kk + 1) 0 rfl (by omega) (by omega) (Nat.zero_le _) h1
  rw [hset] at key
  have hkk : (((kk + 1 : Nat) : Int) - 1) = (kk : Int) := by push_cast; omega
  have hws : wrap64 ((kk : Int) + 1) = ((kk + 1 : Nat) : Int) := by rw [wrap_succ (by omega) (by omega)]; push_cast; rfl
  exact ⟨T, Ev.succ (fun k => by simp only [spec_woWays.l0]; rw [hkk, if_pos (by omega), hws]) key, h2, h3⟩
theorem all_last : rd l ((l.length - 1 : Nat) : Int) = 2 ^ n.toNat - 1 ∧ 0 < l.length := by
 obtain ⟨n1, n7, _, _, _, hall, _⟩ := isSpaceB_parts hS
 have hr := risingB_rise (isSpaceB_parts hS).2.2.2.1
 rw [getD_pow l n1 n7, decide_eq_true_eq] at hall
 obtain ⟨q, hq, e⟩ := List.mem_iff_getElem.1 hall
 have hmem := rd_mem (l := l) (i := ((l.length - 1 : Nat) : Int)) (by omega) (by omega)
 have h3 := (isSpaceB_mem hS _ hmem).2
 refine ⟨?_, by omega⟩
 rcases Nat.lt_or_ge q (l.length - 1) with h | h
 ·
  have := hr q (l.length - 1) h (by omega)
  rw [rd_get hq, e] at this
  omega
 ·
  obtain rfl : q = l.length - 1 := by omega
  rw [rd_get hq, e]
theorem woWays_ok : ∃ T, Ev (fun k => spec_woWays.f k n l) T ∧ T.length = l.length ∧ ∀ j : Nat, j < l.length → rd T (j : Int) = (valW (famOf l) n.toNat (rd l (j : Int)) : Int) := by
 obtain ⟨n1, n7, _⟩ := isSpaceB_parts hS
 have hlen := isSpaceB_len hS
 obtain ⟨hlast, hl0⟩ := all_last hS
 obtain ⟨T, h1, h2, h3⟩ := wo_l0 hS (l.length - 1) ((List.replicate l.length (0 : Int)).set (l.length - 1) 1) (by omega) (by rw [List.length_set, List.length_replicate]) (fun j hj hjl => by
  obtain rfl : j = l.length - 1 := by omega
  rw [rd_set _ (by rw [List.length_replicate]; omega), if_pos rfl, hlast]
  unfold valW
  have e : ((2 : Int) ^ n.toNat - 1).toNat = 2 ^ n.toNat - 1 := (toNat_pow (n := n) rfl).symm
  have hp := pow128 (n := n) (by omega) n7
  have hG : GInv n.toNat (famOf l) (2 ^ n.toNat - 1) (cntN (2 ^ n.toNat - 1)) := by
   have h3 : 0 < 2 ^ n.toNat := Nat.pow_pos (by decide)
   have hm := rd_mem (l := l) (i := ((l.length - 1 : Nat) : Int)) (by omega) (by omega)
   rw [hlast] at hm
   have := mem_fam hm (isSpaceB_128 hS _ hm).1 (isSpaceB_128 hS _ hm).2
   rw [e] at this
   exact ⟨this, by omega, rfl⟩
  rw [e, (hG.full (by omega)).1 rfl, Nat.sub_self]
  rfl) (fun j hj => by
  rw [rd_set _ (by rw [List.length_replicate]; omega), if_neg (by omega), rd_get (by rw [List.length_replicate]; omega), List.getElem_replicate])
 refine ⟨T, ?_, h2, h3⟩
 unfold spec_woWays.f
 have w1 : wrap64 ((l.length : Int) - 1) = ((l.length - 1 : Nat) : Int) := by rw [wrap_in (by omega) (by omega)]; omega
 have w2 : wrap64 ((l.length : Int) - 2) = ((l.length - 1 : Nat) : Int) - 1 := by rw [wrap_in (by omega) (by omega)]; omega
 refine Ev.to (fun k => by rw [if_pos (by omega), if_pos (by omega), Int.toNat_natCast]) ?_
 refine Ev.bindc rfl ?_
 refine Ev.to (fun k => by rw [List.length_replicate, w1, w2, if_pos (by omega), if_pos (by omega), Int.toNat_natCast]) ?_
 exact h1
end

/-! ### spec_l1Own: function 113 -/
def spec_l1Own.f (l0 : List Int) : Option (List Int) := (some (([] : List Int) : List Int)).bind fun y101 => (if y101.length + l0.length < 17592186044416 then (some (y101 ++ l0)) else (none))
set_option maxHeartbeats 8000000 in
set_option maxRecDepth 100000 in
theorem spec_l1Own.calls (A0 : Option Addr) (c0 : Nat) (l0 : List Int) (r : List Int) (w : World) (hr0 : Kd.C (Kd.int .i64) w A0 l0.length l0) (hc0 : l0.length ≤ c0) (h : spec_l1Own.f l0 = some r) :
    Calls Try.prog 113 #[.slice A0 l0.length c0] w fun e w' => ∃ v0_ : Value, e = .returned (v0_) ∧ Kd.R (Kd.int .i64) 3 w' w.heap.size (fun _ => True) v0_ r ∧ Below w.heap.size w w' := by
  have HR0 := Aside0.mk hr0
  have HC0 := Aside0.mk hc0
  clear hr0 hc0
  have HB := Aside0.mk (Below.refl w.heap.size w)
  have H : ((some (([] : List Int) : List Int)).bind fun y101 => (if y101.length + l0.length < 17592186044416 then (some (y101 ++ l0)) else (none))) = some r := h
  clear h
  obtain ⟨y101, hy101⟩ : ∃ y_ : List Int, y_ = (([] : List Int)) := ⟨_, rfl⟩
  replace H : (if y101.length + l0.length < 17592186044416 then (some (y101 ++ l0)) else (none)) = some r := by first | (rw [hy101]; with_reducible exact H) | (have H2_ := (Option.bind_some _ _).symm.trans H; rw [hy101]; with_reducible exact H2_) | (have H2_ := (Option.bind_some _ _).symm.trans H; with_reducible exact H2_) | with_reducible exact H | (rw [hy101]; exact H) | exact H
  have Ny101 := Aside0.mk hy101
  clear hy101
  by_cases c2 : y101.length + l0.length < 17592186044416
  · rw [if_pos c2] at H
    have LMc2 := Aside0.mk c2
    clear c2
    obtain ⟨y104, hy104⟩ : ∃ y_ : List Int, y_ = (y101 ++ l0) := ⟨_, rfl⟩
    replace H : (some y104) = some r := by first | (rw [hy104]; with_reducible exact H) | (have H2_ := (Option.bind_some _ _).symm.trans H; rw [hy104]; with_reducible exact H2_) | (have H2_ := (Option.bind_some _ _).symm.trans H; with_reducible exact H2_) | with_reducible exact H | (rw [hy104]; exact H) | exact H
    have Ny104 := Aside0.mk hy104
    clear hy104
    obtain rfl := Option.some.inj H
    go_enter Try.func113, Try.ntmps113
    go_wp2_with (first | ((with_reducible refine gate_dst (N := 3) rfl ?_); refine Kd.R_lit (Kd.int .i64) _ 3 ?hg (N := 3) ?hd (xs := ([] : List Int)) (inner := []) (ok := fun _ => True) (okp := fun _ => True) ?hr ?hp (fun _ hk => hk) trivial (Below.refl _ _) (Nat.le_refl _) (by simp) ?_; (case hd => rfl); (case hg => rfl); (case hr => first | (go_simp; done) | (go_simp; rfl)); (case hp => exact (Reps.none _ _)); intro v102 w3 ho4 hb hg_ hnew_; clear hg_ hnew_; (first | rw [← Ny101.out] at ho4 | (simp only [Int.reduceToNat] at ho4; rw [← Ny101.out] at ho4)); have n0_ := Aside0.mk (Kd.R_lower ho4 (below_size (by repeat (first | (with_reducible first | exact HB.out | apply below_alloc | apply pw_below_drewN | apply below_drew1) | exact HB.out)))); have n1_ := Aside0.mk (below_step (by repeat (first | (with_reducible first | exact HB.out | apply below_alloc | apply pw_below_drewN | apply below_drew1) | exact HB.out)) hb); clear HB; have HO103 := n0_; have HB := n1_; clear n0_ n1_; clear hb ho4) | ((with_reducible refine gate_builtin (b := .append) (xs := #[.tmp 3, .tmp 4]) rfl ?_); at_builtin; refine Kd.R_append_rows (Kd.int .i64) (w0 := w) w.heap.size rfl (.tmp 3) (.tmp 4) 22 3 (.int .i64 0) 8 rfl Try.underlying22 info3 rfl (by decide) (by omega) v102 y101 l0 _ _ _ (fun _ => True) (fun _ => False) rfl rfl ?aO ?aR (fun _ _ h => h) (fun _ h => h.elim) ?aF ?aB ?aS ?aL ?_; (case aR => repeat (first | exact (Kd.C_below HR0.out HB.out) | (with_reducible refine Kd.C_alloc ?_ _) | (with_reducible refine Kd.C_drewN ?_ _) | (with_reducible refine Kd.C_drew ?_))); (case aB => exact (by repeat (first | (with_reducible first | exact HB.out | apply below_alloc | apply pw_below_drewN | apply below_drew1) | exact HB.out))); (case aF => exact (fun _ _ => trivial)); (case aO => exact (by (with_reducible repeat (first | apply Kd.R_alloc | apply Kd.R_drewN | apply Kd.R_drew)); exact HO103.out)); (case aS => exact (below_size (by repeat (first | (with_reducible first | exact HB.out | apply below_alloc | apply pw_below_drewN | apply below_drew1) | exact HB.out)))); (case aL => have := LMc2.out; omega); intro v105 w5 ho hb hg hat; rw [← Ny104.out] at ho; have n0_ := Aside0.mk (hb); have n1_ := Aside0.mk (ho); clear HB; clear HO103; have HB := n0_; have HO106 := n1_; clear n0_ n1_; clear ho hb hg hat))
    go_ret
    exact ⟨_, by first | rfl | (simp [errW_none, errW_some] <;> rfl) | (simp [*, errW_none, errW_some] <;> rfl), by (with_reducible repeat (first | apply Kd.R_alloc | apply Kd.R_drewN | apply Kd.R_drew)); exact HO106.out, by repeat (first | (with_reducible first | exact HB.out | apply below_alloc | apply pw_below_drewN | apply below_drew1) | exact HB.out)⟩
  · rw [if_neg c2] at H
    exact absurd H (by simp)

/-! ### spec_spOuter: function 114 -/
def spec_spOuter.l0 : Nat → Int → Int → Int → Int → List Int → Option (Int)
 | 0, _, _, _, _, _ => none
 | k + 1, x1, x5, x6, x102000, x102001 => if x6 < x102000 then ((spec_spIn.f x1 x6).bind fun t102 => (if t102 = true then (spec_spOuter.l0 k x1 x5 (wrap64 (x6 + 1)) x102000 x102001) else (if 0 ≤ x6 then ((spec_spHas.f k x102001 (Go.bits .or .i64 x1 (shl .i64 1 x6))).bind fun t103 => (if t103 = true then (spec_spOuter.l0 k x1 (Go.bits .or .i64 x5 (shl .i64 1 x6)) (wrap64 (x6 + 1)) x102000 x102001) else (spec_spOuter.l0 k x1 x5 (wrap64 (x6 + 1)) x102000 x102001))) else (none)))) else (some x5)
def spec_spOuter.f (k : Nat) (a0_0 : Int) (l0_1 : List Int) (a1 : Int) : Option (Int) := spec_spOuter.l0 k a1 0 0 a0_0 l0_1
theorem spec_spOuter.mono_l : ∀ k, (∀ y0 y1 y2 y3 y4, LeO (spec_spOuter.l0 k y0 y1 y2 y3 y4) (spec_spOuter.l0 (k + 1) y0 y1 y2 y3 y4))
 | 0 => fun _ _ _ _ _ r h => by simp [spec_spOuter.l0] at h
 | k + 1 => by
  have ih0 := spec_spOuter.mono_l k
  ·
   intro y0 y1 y2 y3 y4
   unfold spec_spOuter.l0
   repeat' first
   | (with_reducible exact ih0 _ _ _ _ _)
   | (with_reducible exact spec_spHas.mono _ _ _)
   | (with_reducible exact LeO.refl _)
   | (with_reducible exact LeO.none _)
   | (with_reducible refine LeO.ite ?_ ?_)
   | (with_reducible refine LeO.bind ?_ (fun _ => ?_))
   | exact ih0 _ _ _ _ _
   | exact spec_spHas.mono _ _ _
   | exact LeO.none _
   | refine LeO.ite ?_ ?_
   | refine LeO.bind ?_ (fun _ => ?_)
theorem spec_spOuter.mono : ∀ a0 a1 a2 k, LeO (spec_spOuter.f k a0 a1 a2) (spec_spOuter.f (k + 1) a0 a1 a2) := by
 intro a0 a1 a2 k
 have ih0 := spec_spOuter.mono_l k
 unfold spec_spOuter.f
 repeat' first
   | (with_reducible exact ih0 _ _ _ _ _)
   | (with_reducible exact spec_spHas.mono _ _ _)
   | (with_reducible exact LeO.refl _)
   | (with_reducible exact LeO.none _)
   | (with_reducible refine LeO.ite ?_ ?_)
   | (with_reducible refine LeO.bind ?_ (fun _ => ?_))
   | exact ih0 _ _ _ _ _
   | exact spec_spHas.mono _ _ _
   | exact LeO.none _
   | refine LeO.ite ?_ ?_
   | refine LeO.bind ?_ (fun _ => ?_)
set_option maxHeartbeats 8000000 in
set_option maxRecDepth 100000 in
theorem spec_spOuter.calls (k : Nat) (a0_0 : Int) (A0_1 : Option Addr) (c0_1 : Nat) (l0_1 : List Int) (a1 : Int) (r : Int) (w : World) (hr0_1 : Kd.C (Kd.int .i64) w A0_1 l0_1.length l0_1) (hc0_1 : l0_1.length ≤ c0_1) (h : spec_spOuter.f k a0_0 l0_1 a1 = some r) :
  Calls Try.prog 114 #[.agg #[.int .i64 a0_0, .slice A0_1 l0_1.length c0_1], .int .i64 a1] w fun e w' => e = .returned (.int .i64 r) ∧ Below w.heap.size w w' := by
 have hu28 := Try.underlying28
 have HR0_1 := asd hr0_1
 have HC0_1 := asd hc0_1
 clear hr0_1 hc0_1
 have HB := asd (Below.refl w.heap.size w)
 have H : (spec_spOuter.l0 k a1 0 0 a0_0 l0_1) = some r := h
 clear h
 have H' := asd H
 clear H
 go_enter Try.func114, Try.ntmps114
 go_wp2_with (first | ((with_reducible refine gate_dst (N := 2) rfl ?_); refine box_event ?hg (N := 2) ?hd (cs := #[.int .i64 a0_0, .slice A0_1 l0_1.length c0_1]) (t := 28) ?hr ?_; (case hd => rfl); (case hg => rfl); (case hr => first | (go_simp; done) | (go_simp; rfl)); intro gb101 hg w3 hbox hb; have n0_ := asd (below_step (by repeat (first | (with_reducible first | exact HB.out | apply below_alloc | apply pw_below_drewN | apply below_drew1) | exact HB.out)) hb); have n1_ := asd (hbox); have n2_ := asd ((by rw [hg]; exact (below_size (by repeat (first | (with_reducible first | exact HB.out | apply below_alloc | apply pw_below_drewN | apply below_drew1) | exact HB.out))) : w.heap.size ≤ gb101)); have n3_ := asd ((by rw [hg]; exact (below_size (by repeat (first | (with_reducible first | exact HB.out | apply below_alloc | apply pw_below_drewN | apply below_drew1) | exact HB.out))) : w.heap.size ≤ gb101)); clear HB; have HB := n0_; have BK101 := n1_; have GW101 := n2_; have GE101 := n3_; clear n0_ n1_ n2_ n3_; clear hb hbox hg))
 repeat (go_quiet (first | ((with_reducible refine gate_dst (N := 2) rfl ?_); refine box_event ?hg (N := 2) ?hd (cs := #[.int .i64 a0_0, .slice A0_1 l0_1.length c0_1]) (t := 28) ?hr ?_; (case hd => rfl); (case hg => rfl); (case hr => first | (go_simp; done) | (go_simp; rfl)); intro gb101 hg w3 hbox hb; have n0_ := asd (below_step (by repeat (first | (with_reducible first | exact HB.out | apply below_alloc | apply pw_below_drewN | apply below_drew1) | exact HB.out)) hb); have n1_ := asd (hbox); have n2_ := asd ((by rw [hg]; exact (below_size (by repeat (first | (with_reducible first | exact HB.out | apply below_alloc | apply pw_below_drewN | apply below_drew1) | exact HB.out))) : w.heap.size ≤ gb101)); have n3_ := asd ((by rw [hg]; exact (below_size (by repeat (first | (with_reducible first | exact HB.out | apply below_alloc | apply pw_below_drewN | apply below_drew1) | exact HB.out))) : w.heap.size ≤ gb101)); clear HB; have HB := n0_; have BK101 := n1_; have GW101 := n2_; have GE101 := n3_; clear n0_ n1_ n2_ n3_; clear hb hbox hg)); try go_wp2_with (first | ((with_reducible refine gate_dst (N := 2) rfl ?_); refine box_event ?hg (N := 2) ?hd (cs := #[.int .i64 a0_0, .slice A0_1 l0_1.length c0_1]) (t := 28) ?hr ?_; (case hd => rfl); (case hg => rfl); (case hr => first | (go_simp; done) | (go_simp; rfl)); intro gb101 hg w3 hbox hb; have n0_ := asd (below_step (by repeat (first | (with_reducible first | exact HB.out | apply below_alloc | apply pw_below_drewN | apply below_drew1) | exact HB.out)) hb); have n1_ := asd (hbox); have n2_ := asd ((by rw [hg]; exact (below_size (by repeat (first | (with_reducible first | exact HB.out | apply below_alloc | apply pw_below_drewN | apply below_drew1) | exact HB.out))) : w.heap.size ≤ gb101)); have n3_ := asd ((by rw [hg]; exact (below_size (by repeat (first | (with_reducible first | exact HB.out | apply below_alloc | apply pw_below_drewN | apply below_drew1) | exact HB.out))) : w.heap.size ≤ gb101)); clear HB; have HB := n0_; have BK101 := n1_; have GW101 := n2_; have GE101 := n3_; clear n0_ n1_ n2_ n3_; clear hb hbox hg)))
 go_loopg [5, 6] k (fun kq v5 v6 w' => ∃ (x5_1 : Int) (x6_1 : Int), v5 = .int .i64 x5_1 ∧ v6 = .int .i64 x6_1 ∧ Aside0 (spec_spOuter.l0 kq a1 x5_1 x6_1 a0_0 l0_1 = some r) ∧ Aside0 (kq ≤ k) ∧ Aside0 (w'.heap[gb101]? = some (.cells #[.int .i64 a0_0, (.slice A0_1 l0_1.length c0_1)] 28 (0, 0))) ∧ Aside0 (Below w.heap.size w w'))
 case atStart => exact ⟨(0), (0), (by first | rfl | (simp; done) | (simp [*]; done)), (by first | rfl | (simp; done) | (simp [*]; done)), H', ⟨Nat.le_refl _⟩, ⟨by (with_reducible repeat (first | refine blk_drewN ?_ _ | refine blk_drew ?_ | refine blk_alloc ?_ _)); exact BK101.out⟩, ⟨by repeat (first | (with_reducible first | exact HB.out | apply below_alloc | apply pw_below_drewN | apply below_drew1 | refine below_set ?_ GE101.out) | exact HB.out)⟩⟩
 case round =>
  clear H'
  try clear c1
  try clear p2
  skip
  obtain ⟨x5_1, x6_1, rfl, rfl, HA, HK1, BK101, HB⟩ := hrel
  cases gk with
  | zero => exact absurd HA.out (by simp [spec_spOuter.l0])
  | succ k1 =>
   have H := HA.out
   clear HA
   simp only [spec_spOuter.l0] at H
   by_cases c4 : x6_1 < a0_0
   ·
    rw [if_pos c4] at H
    have c4b0 : decide (x6_1 < a0_0) = true := decide_eq_true c4
    clear c4
    replace H := Option.bind_eq_some_iff.mp H
    obtain ⟨t102, A50, H⟩ := H
    replace H : (if t102 = true then (spec_spOuter.l0 k1 a1 x5_1 (wrap64 (x6_1 + 1)) a0_0 l0_1) else (if 0 ≤ x6_1 then ((spec_spHas.f k1 l0_1 (Go.bits .or .i64 a1 (shl .i64 1 x6_1))).bind fun t103 => (if t103 = true then (spec_spOuter.l0 k1 a1 (Go.bits .or .i64 x5_1 (shl .i64 1 x6_1)) (wrap64 (x6_1 + 1)) a0_0 l0_1) else (spec_spOuter.l0 k1 a1 x5_1 (wrap64 (x6_1 + 1)) a0_0 l0_1))) else (none))) = some r := H
    have A5 := asd A50
    clear A50
    by_cases c6 : t102 = true
    ·
     subst c6
     have H1 : (spec_spOuter.l0 k1 a1 x5_1 (wrap64 (x6_1 + 1)) a0_0 l0_1) = some r := by rw [if_pos rfl] at H; exact H
     clear H
     have H := H1
     clear H1
     have H' := asd H
     clear H
     have hcz7_0 : wr.cell? ⟨gb101, 0, none⟩ = some (.int .i64 a0_0) := (blk_cell BK101.out 0).trans rfl
     have hcz7_1 : wr.cell? ⟨gb101, 1, none⟩ = some (.slice A0_1 l0_1.length c0_1) := (blk_cell BK101.out 1).trans rfl
     have hfz7_0 := blk_frozen BK101.out 0
     have hfz7_1 := blk_frozen BK101.out 1
     go_wp2_with (first | (go_at_call 59; (with_reducible refine (spec_spIn.calls a1 x6_1 true _ A5.out).mono ?_); rintro e w' ⟨rfl, ⟨nd, rfl⟩⟩; (try first | exact ⟨rfl, _, World.drewN_drewN _ _ _⟩ | exact ⟨rfl, _, Eq.trans (World.drewN_drewN _ _ _) (congrArg (World.drewN _) (Nat.add_assoc _ _ _))⟩)))
     repeat (go_quiet (first | (go_at_call 59; (with_reducible refine (spec_spIn.calls a1 x6_1 true _ A5.out).mono ?_); rintro e w' ⟨rfl, ⟨nd, rfl⟩⟩; (try first | exact ⟨rfl, _, World.drewN_drewN _ _ _⟩ | exact ⟨rfl, _, Eq.trans (World.drewN_drewN _ _ _) (congrArg (World.drewN _) (Nat.add_assoc _ _ _))⟩))); try go_wp2_with (first | (go_at_call 59; (with_reducible refine (spec_spIn.calls a1 x6_1 true _ A5.out).mono ?_); rintro e w' ⟨rfl, ⟨nd, rfl⟩⟩; (try first | exact ⟨rfl, _, World.drewN_drewN _ _ _⟩ | exact ⟨rfl, _, Eq.trans (World.drewN_drewN _ _ _) (congrArg (World.drewN _) (Nat.add_assoc _ _ _))⟩))))
     go_roundg k1
     case measure => have := HK1.out; omega
     case rel => exact ⟨(x5_1), (wrap64 (x6_1 + 1)), (by first | rfl | (simp; done) | (simp [*]; done)), (by first | rfl | (simp; done) | (simp [*]; done)), H', ⟨by have := HK1.out; omega⟩, ⟨by (with_reducible repeat (first | refine blk_drewN ?_ _ | refine blk_drew ?_ | refine blk_alloc ?_ _)); exact BK101.out⟩, ⟨by repeat (first | (with_reducible first | exact HB.out | apply below_alloc | apply pw_below_drewN | apply below_drew1 | refine below_set ?_ GE101.out) | exact HB.out)⟩⟩
    ·
     replace c6 := Bool.eq_false_iff.mpr c6
     subst c6
     have H1 : (if 0 ≤ x6_1 then ((spec_spHas.f k1 l0_1 (Go.bits .or .i64 a1 (shl .i64 1 x6_1))).bind fun t103 => (if t103 = true then (spec_spOuter.l0 k1 a1 (Go.bits .or .i64 x5_1 (shl .i64 1 x6_1)) (wrap64 (x6_1 + 1)) a0_0 l0_1) else (spec_spOuter.l0 k1 a1 x5_1 (wrap64 (x6_1 + 1)) a0_0 l0_1))) else (none)) = some r := by rw [if_neg (show ¬ (false = true) by decide)] at H; exact H
     clear H
     have H := H1
     clear H1
     by_cases c8 : 0 ≤ x6_1
     ·
      rw [if_pos c8] at H
      have c8b0 := eq_true c8
      have c8b1 : decide (0 ≤ x6_1) = true := decide_eq_true c8
      clear c8
      obtain ⟨ji9, hji9⟩ : ∃ j_ : Int, (shl .i64 1 x6_1) = j_ := ⟨_, rfl⟩
      replace H : ((spec_spHas.f k1 l0_1 (Go.bits .or .i64 a1 (ji9))).bind fun t103 => (if t103 = true then (spec_spOuter.l0 k1 a1 (Go.bits .or .i64 x5_1 (ji9)) (wrap64 (x6_1 + 1)) a0_0 l0_1) else (spec_spOuter.l0 k1 a1 x5_1 (wrap64 (x6_1 + 1)) a0_0 l0_1))) = some r := by first | (rw [hji9] at H; exact H) | (simp only [hji9] at H ⊢; exact H)
      (try rw [hji9] at A5)
      have hji9_ : (IntKind.i64.wrap (1 * 2 ^ min x6_1.toNat 64)) = ji9 := hji9
      have hji9z : x6_1 ≤ 64 → (IntKind.i64.wrap (1 * 2 ^ x6_1.toNat)) = ji9 := shl_small hji9
      have hji9u : (IntKind.i64.wrap (2 ^ min x6_1.toNat 64)) = ji9 := by have h_ := hji9_; rw [Int.one_mul] at h_; exact h_
      have hji9v : x6_1 ≤ 64 → (IntKind.i64.wrap (2 ^ x6_1.toNat)) = ji9 := fun hle_ => by have h_ := hji9z hle_; rw [Int.one_mul] at h_; exact h_
      have hji9y : (wrap64 (1 * 2 ^ min x6_1.toNat 64)) = ji9 := (i64_w _).symm.trans hji9_
      have hji9x : x6_1 ≤ 64 → (wrap64 (1 * 2 ^ x6_1.toNat)) = ji9 := fun h_ => (i64_w _).symm.trans (hji9z h_)
      replace H := Option.bind_eq_some_iff.mp H
      obtain ⟨t103, A100, H⟩ := H
      replace H : (if t103 = true then (spec_spOuter.l0 k1 a1 (Go.bits .or .i64 x5_1 (ji9)) (wrap64 (x6_1 + 1)) a0_0 l0_1) else (spec_spOuter.l0 k1 a1 x5_1 (wrap64 (x6_1 + 1)) a0_0 l0_1)) = some r := H
      have A10 := asd A100
      clear A100
      by_cases c11 : t103 = true
      ·
       subst c11
       have H1 : (spec_spOuter.l0 k1 a1 (Go.bits .or .i64 x5_1 (ji9)) (wrap64 (x6_1 + 1)) a0_0 l0_1) = some r := by rw [if_pos rfl] at H; exact H
       clear H
       have H := H1
       clear H1
       have c12b0 := eq_true (of_decide_eq_true (by first | (with_reducible assumption) | assumption) : 0 ≤ x6_1)
       have H' := asd H
       clear H
       have hcz13_0 : wr.cell? ⟨gb101, 0, none⟩ = some (.int .i64 a0_0) := (blk_cell BK101.out 0).trans rfl
       have hcz13_1 : wr.cell? ⟨gb101, 1, none⟩ = some (.slice A0_1 l0_1.length c0_1) := (blk_cell BK101.out 1).trans rfl
       have hfz13_0 := blk_frozen BK101.out 0
       have hfz13_1 := blk_frozen BK101.out 1
       go_wp2_with (first | (go_at_call 59; (with_reducible refine (spec_spIn.calls a1 x6_1 false _ A5.out).mono ?_); rintro e w' ⟨rfl, ⟨nd, rfl⟩⟩; (try first | exact ⟨rfl, _, World.drewN_drewN _ _ _⟩ | exact ⟨rfl, _, Eq.trans (World.drewN_drewN _ _ _) (congrArg (World.drewN _) (Nat.add_assoc _ _ _))⟩)) | (go_at_call 95; (with_reducible refine (spec_spHas.calls k1 _ _ l0_1 (Go.bits .or .i64 a1 (ji9)) true _ ?side1 ?side2 A10.out).mono ?_); (case side1 => repeat (first | exact (Kd.C_below HR0_1.out (by repeat (first | (with_reducible first | exact HB.out | apply below_alloc | apply pw_below_drewN | apply below_drew1 | refine below_set ?_ GE101.out) | exact HB.out))) | (with_reducible refine Kd.C_alloc ?_ _) | (with_reducible refine Kd.C_drewN ?_ _) | (with_reducible refine Kd.C_drew ?_))); (case side2 => exact HC0_1.out); rintro e w' ⟨rfl, ⟨nd, rfl⟩⟩; (try first | exact ⟨rfl, _, World.drewN_drewN _ _ _⟩ | exact ⟨rfl, _, Eq.trans (World.drewN_drewN _ _ _) (congrArg (World.drewN _) (Nat.add_assoc _ _ _))⟩)))
       repeat (go_quiet (first | (go_at_call 59; (with_reducible refine (spec_spIn.calls a1 x6_1 false _ A5.out).mono ?_); rintro e w' ⟨rfl, ⟨nd, rfl⟩⟩; (try first | exact ⟨rfl, _, World.drewN_drewN _ _ _⟩ | exact ⟨rfl, _, Eq.trans (World.drewN_drewN _ _ _) (congrArg (World.drewN _) (Nat.add_assoc _ _ _))⟩)) | (go_at_call 95; (with_reducible refine (spec_spHas.calls k1 _ _ l0_1 (Go.bits .or .i64 a1 (ji9)) true _ ?side1 ?side2 A10.out).mono ?_); (case side1 => repeat (first | exact (Kd.C_below HR0_1.out (by repeat (first | (with_reducible first | exact HB.out | apply below_alloc | apply pw_below_drewN | apply below_drew1 | refine below_set ?_ GE101.out) | exact HB.out))) | (with_reducible refine Kd.C_alloc ?_ _) | (with_reducible refine Kd.C_drewN ?_ _) | (with_reducible refine Kd.C_drew ?_))); (case side2 => exact HC0_1.out); rintro e w' ⟨rfl, ⟨nd, rfl⟩⟩; (try first | exact ⟨rfl, _, World.drewN_drewN _ _ _⟩ | exact ⟨rfl, _, Eq.trans (World.drewN_drewN _ _ _) (congrArg (World.drewN _) (Nat.add_assoc _ _ _))⟩))); try go_wp2_with (first | (go_at_call 59; (with_reducible refine (spec_spIn.calls a1 x6_1 false _ A5.out).mono ?_); rintro e w' ⟨rfl, ⟨nd, rfl⟩⟩; (try first | exact ⟨rfl, _, World.drewN_drewN _ _ _⟩ | exact ⟨rfl, _, Eq.trans (World.drewN_drewN _ _ _) (congrArg (World.drewN _) (Nat.add_assoc _ _ _))⟩)) | (go_at_call 95; (with_reducible refine (spec_spHas.calls k1 _ _ l0_1 (Go.bits .or .i64 a1 (ji9)) true _ ?side1 ?side2 A10.out).mono ?_); (case side1 => repeat (first | exact (Kd.C_below HR0_1.out (by repeat (first | (with_reducible first | exact HB.out | apply below_alloc | apply pw_below_drewN | apply below_drew1 | refine below_set ?_ GE101.out) | exact HB.out))) | (with_reducible refine Kd.C_alloc ?_ _) | (with_reducible refine Kd.C_drewN ?_ _) | (with_reducible refine Kd.C_drew ?_))); (case side2 => exact HC0_1.out); rintro e w' ⟨rfl, ⟨nd, rfl⟩⟩; (try first | exact ⟨rfl, _, World.drewN_drewN _ _ _⟩ | exact ⟨rfl, _, Eq.trans (World.drewN_drewN _ _ _) (congrArg (World.drewN _) (Nat.add_assoc _ _ _))⟩))))
       go_roundg k1
       case measure => have := HK1.out; omega
       case rel => exact ⟨(Go.bits .or .i64 x5_1 (ji9)), (wrap64 (x6_1 + 1)), (by first | rfl | (simp; done) | (simp only [← hji9] <;> (first | rfl | simp)) | (simp [*]; done)), (by first | rfl | (simp; done) | (simp [*]; done)), H', ⟨by have := HK1.out; omega⟩, ⟨by (with_reducible repeat (first | refine blk_drewN ?_ _ | refine blk_drew ?_ | refine blk_alloc ?_ _)); exact BK101.out⟩, ⟨by repeat (first | (with_reducible first | exact HB.out | apply below_alloc | apply pw_below_drewN | apply below_drew1 | refine below_set ?_ GE101.out) | exact HB.out)⟩⟩
      ·
       replace c11 := Bool.eq_false_iff.mpr c11
       subst c11
       have H1 : (spec_spOuter.l0 k1 a1 x5_1 (wrap64 (x6_1 + 1)) a0_0 l0_1) = some r := by rw [if_neg (show ¬ (false = true) by decide)] at H; exact H
       clear H
       have H := H1
       clear H1
       have H' := asd H
       clear H
       have hcz14_0 : wr.cell? ⟨gb101, 0, none⟩ = some (.int .i64 a0_0) := (blk_cell BK101.out 0).trans rfl
       have hcz14_1 : wr.cell? ⟨gb101, 1, none⟩ = some (.slice A0_1 l0_1.length c0_1) := (blk_cell BK101.out 1).trans rfl
       have hfz14_0 := blk_frozen BK101.out 0
       have hfz14_1 := blk_frozen BK101.out 1
       go_wp2_with (first | (go_at_call 59; (with_reducible refine (spec_spIn.calls a1 x6_1 false _ A5.out).mono ?_); rintro e w' ⟨rfl, ⟨nd, rfl⟩⟩; (try first | exact ⟨rfl, _, World.drewN_drewN _ _ _⟩ | exact ⟨rfl, _, Eq.trans (World.drewN_drewN _ _ _) (congrArg (World.drewN _) (Nat.add_assoc _ _ _))⟩)) | (go_at_call 95; (with_reducible refine (spec_spHas.calls k1 _ _ l0_1 (Go.bits .or .i64 a1 (ji9)) false _ ?side1 ?side2 A10.out).mono ?_); (case side1 => repeat (first | exact (Kd.C_below HR0_1.out (by repeat (first | (with_reducible first | exact HB.out | apply below_alloc | apply pw_below_drewN | apply below_drew1 | refine below_set ?_ GE101.out) | exact HB.out))) | (with_reducible refine Kd.C_alloc ?_ _) | (with_reducible refine Kd.C_drewN ?_ _) | (with_reducible refine Kd.C_drew ?_))); (case side2 => exact HC0_1.out); rintro e w' ⟨rfl, ⟨nd, rfl⟩⟩; (try first | exact ⟨rfl, _, World.drewN_drewN _ _ _⟩ | exact ⟨rfl, _, Eq.trans (World.drewN_drewN _ _ _) (congrArg (World.drewN _) (Nat.add_assoc _ _ _))⟩)))
       repeat (go_quiet (first | (go_at_call 59; (with_reducible refine (spec_spIn.calls a1 x6_1 false _ A5.out).mono ?_); rintro e w' ⟨rfl, ⟨nd, rfl⟩⟩; (try first | exact ⟨rfl, _, World.drewN_drewN _ _ _⟩ | exact ⟨rfl, _, Eq.trans (World.drewN_drewN _ _ _) (congrArg (World.drewN _) (Nat.add_assoc _ _ _))⟩)) | (go_at_call 95; (with_reducible refine (spec_spHas.calls k1 _ _ l0_1 (Go.bits .or .i64 a1 (ji9)) false _ ?side1 ?side2 A10.out).mono ?_); (case side1 => repeat (first | exact (Kd.C_below HR0_1.out (by repeat (first | (with_reducible first | exact HB.out | apply below_alloc | apply pw_below_drewN | apply below_drew1 | refine below_set ?_ GE101.out) | exact HB.out))) | (with_reducible refine Kd.C_alloc ?_ _) | (with_reducible refine Kd.C_drewN ?_ _) | (with_reducible refine Kd.C_drew ?_))); (case side2 => exact HC0_1.out); rintro e w' ⟨rfl, ⟨nd, rfl⟩⟩; (try first | exact ⟨rfl, _, World.drewN_drewN _ _ _⟩ | exact ⟨rfl, _, Eq.trans (World.drewN_drewN _ _ _) (congrArg (World.drewN _) (Nat.add_assoc _ _ _))⟩))); try go_wp2_with (first | (go_at_call 59; (with_reducible refine (spec_spIn.calls a1 x6_1 false _ A5.out).mono ?_); rintro e w' ⟨rfl, ⟨nd, rfl⟩⟩; (try first | exact ⟨rfl, _, World.drewN_drewN _ _ _⟩ | exact ⟨rfl, _, Eq.trans (World.drewN_drewN _ _ _) (congrArg (World.drewN _) (Nat.add_assoc _ _ _))⟩)) | (go_at_call 95; (with_reducible refine (spec_spHas.calls k1 _ _ l0_1 (Go.bits .or .i64 a1 (ji9)) false _ ?side1 ?side2 A10.out).mono ?_); (case side1 => repeat (first | exact (Kd.C_below HR0_1.out (by repeat (first | (with_reducible first | exact HB.out | apply below_alloc | apply pw_below_drewN | apply below_drew1 | refine below_set ?_ GE101.out) | exact HB.out))) | (with_reducible refine Kd.C_alloc ?_ _) | (with_reducible refine Kd.C_drewN ?_ _) | (with_reducible refine Kd.C_drew ?_))); (case side2 => exact HC0_1.out); rintro e w' ⟨rfl, ⟨nd, rfl⟩⟩; (try first | exact ⟨rfl, _, World.drewN_drewN _ _ _⟩ | exact ⟨rfl, _, Eq.trans (World.drewN_drewN _ _ _) (congrArg (World.drewN _) (Nat.add_assoc _ _ _))⟩))))
       go_roundg k1
       case measure => have := HK1.out; omega
       case rel => exact ⟨(x5_1), (wrap64 (x6_1 + 1)), (by first | rfl | (simp; done) | (simp [*]; done)), (by first | rfl | (simp; done) | (simp [*]; done)), H', ⟨by have := HK1.out; omega⟩, ⟨by (with_reducible repeat (first | refine blk_drewN ?_ _ | refine blk_drew ?_ | refine blk_alloc ?_ _)); exact BK101.out⟩, ⟨by repeat (first | (with_reducible first | exact HB.out | apply below_alloc | apply pw_below_drewN | apply below_drew1 | refine below_set ?_ GE101.out) | exact HB.out)⟩⟩
     ·
      rw [if_neg c8] at H
      exact absurd H (by simp)
   ·
    rw [if_neg c4] at H
    have c4b0 : decide (x6_1 < a0_0) = false := decide_eq_false c4
    clear c4
    obtain rfl := Option.some.inj H
    have hcz15_0 : wr.cell? ⟨gb101, 0, none⟩ = some (.int .i64 a0_0) := (blk_cell BK101.out 0).trans rfl
    have hcz15_1 : wr.cell? ⟨gb101, 1, none⟩ = some (.slice A0_1 l0_1.length c0_1) := (blk_cell BK101.out 1).trans rfl
    have hfz15_0 := blk_frozen BK101.out 0
    have hfz15_1 := blk_frozen BK101.out 1
    go_wp2
    repeat (go_quiet (fail); try go_wp2)
    go_ret
    exact ⟨by first | rfl | (simp [errW_none, errW_some] <;> rfl) | (simp [*, errW_none, errW_some] <;> rfl), by repeat (first | (with_reducible first | exact HB.out | apply below_alloc | apply pw_below_drewN | apply below_drew1 | refine below_set ?_ GE101.out) | exact HB.out)⟩

-- HAND with spec.spOuter
theorem spOuter_loop {n : Int} {l : List Int} (h0 : 0 ≤ n) (h7 : n ≤ 7) (hr : Rise l) (hM : ∀ x ∈ l, 0 ≤ x ∧ x < 2 ^ n.toNat) (hlen : l.length < 4611686018427387904) (x : Nat) (hx : x < 128) : ∀ (d i : Nat), n.toNat - i = d → i ≤ n.toNat → Ev (fun k => spec_spOuter.l0 k x (outK (famOf l) x i : Nat) i n l) (outK (famOf l) x n.toNat : Nat) := by
  intro d
  induction d with
  | zero =>
    intro i hd hi
    obtain rfl : i = n.toNat := by omega
    exact Ev.succ (fun k => by simp only [spec_spOuter.l0]; rw [if_neg (by omega)]) (Ev.const rfl)
  | succ d ih =>
    intro i hd hi
    have hi7 : i < 7 := by omega
    have hs := outK_succ (famOf l) x i
    have hlt := outK_lt (famOf l) x i (by omega)
    have := ih (i + 1) (by omega) (by omega)
    rw [hs] at this
    push_cast at this
    refine Ev.succ (fun k => by simp only [spec_spOuter.l0]; rw [if_pos (by omega)]) ?_
    refine Ev.bindc (spIn_ok x i (by omega)) ?_
    cases hb : x.testBit i with
    | true =>
      rw [hb] at this
      refine Ev.to (fun k => by rw [if_pos rfl, wrap_succ (by omega) (by omega)]) ?_
      simpa using this
    | false =>
      rw [hb] at this
      have hy : x ||| 2 ^ i < 128 := Nat.or_lt_two_pow (n := 7) hx (two_lt128 hi7)
      refine Ev.to (fun k => by rw [if_neg (by decide), if_pos (by omega), shl_one i (by omega), bits_or x (2 ^ i) (lt63 hx) (lt63 (two_lt128 hi7)), wrap_succ (by omega) (by omega), bits_or _ (2 ^ i) (lt63 hlt) (lt63 (two_lt128 hi7))]) ?_
      refine Ev.bind (spHas_ok hr hlen _) ?_
      rw [← famOf_getD l _ hy]
      cases hf : (famOf l).getD (x ||| 2 ^ i) false with
      | true =>
        rw [hf] at this
        simpa using this
      | false =>
        rw [hf] at this
        simpa using this
theorem spOuter_ok {n : Int} {l : List Int} (h : isSpaceB n l = true) (hlen : l.length < 4611686018427387904) (x : Int) (x0 : 0 ≤ x) (x1 : x < 128) : Ev (fun k => spec_spOuter.f k n l x) (outerF (famOf l) x.toNat : Nat) := by
  obtain ⟨x, rfl⟩ := Int.eq_ofNat_of_zero_le x0
  obtain ⟨n1, n7, _, hR, _⟩ := isSpaceB_parts h
  have hM := isSpaceB_mem h
  have := spOuter_loop (n := n) (by omega) n7 (risingB_rise hR) hM hlen x (by omega) n.toNat 0 (by omega) (by omega)
  refine Ev.val this ?_
  rw [Int.toNat_natCast, ← outK_7]
  have hstop := outK_stop (F := famOf l) (x := x) (n := n.toNat) (fun i hi hi7 => famOf_out (n := n) (by omega) n7 hM hi (by simp [Nat.testBit_or, Nat.testBit_two_pow])) (7 - n.toNat) (by omega)
  rw [show n.toNat + (7 - n.toNat) = 7 by omega] at hstop
  rw [hstop]

/-! ### spec_woAll: function 66 -/
mutual
def spec_woAll.l0 : Nat → List Int → Int → List (List Int) → Int → Int → Int → List Int → Option ((List (List Int)))
 | 0, _, _, _, _, _, _, _ => none
 | k + 1, x1, x2, x7, x8, x9, x102000, x102001 => if x9 < x102000 then ((spec_spIn.f x8 x9).bind fun t109 => (if t109 = true then ((spec_l1Own.f x1).bind fun t110 => ((some (([x9] : List Int) : List Int)).bind fun y113 => (if t110.length + y113.length < 17592186044416 then (if 0 ≤ x9 then ((spec_woAll.f k x102000 x102001 (t110 ++ y113) (Go.bits .or .i64 x2 (shl .i64 1 x9))).bind fun t119 => (if x7.length + t119.length < 5864062014805 then (spec_woAll.l0 k x1 x2 (x7 ++ t119) x8 (wrap64 (x9 + 1)) x102000 x102001) else (none))) else (none)) else (none)))) else (spec_woAll.l0 k x1 x2 x7 x8 (wrap64 (x9 + 1)) x102000 x102001))) else (some x7)
def spec_woAll.f : Nat → Int → List Int → List Int → Int → Option ((List (List Int)))
 | 0, _, _, _, _ => none
 | k + 1, a0_0, l0_1, l1, a2 => if (l1.length : Int) = a0_0 then ((spec_l1Own.f l1).bind fun t102 => (some (([t102] : List (List Int))))) else ((spec_spOuter.f k a0_0 l0_1 a2).bind fun t108 => (spec_woAll.l0 k l1 a2 ([] : List (List Int)) t108 0 a0_0 l0_1))
end
theorem spec_woAll.mono_l : ∀ k, (∀ y0 y1 y2 y3, LeO (spec_woAll.f k y0 y1 y2 y3) (spec_woAll.f (k + 1) y0 y1 y2 y3)) ∧ (∀ y0 y1 y2 y3 y4 y5 y6, LeO (spec_woAll.l0 k y0 y1 y2 y3 y4 y5 y6) (spec_woAll.l0 (k + 1) y0 y1 y2 y3 y4 y5 y6))
 | 0 => ⟨fun _ _ _ _ r h => by simp [spec_woAll.f] at h, fun _ _ _ _ _ _ _ r h => by simp [spec_woAll.l0] at h⟩
 | k + 1 => by
  obtain ⟨ih0, ih1⟩ := spec_woAll.mono_l k
  refine ⟨?_, ?_⟩
  ·
   intro y0 y1 y2 y3
   unfold spec_woAll.f
   repeat' first
   | (with_reducible exact ih0 _ _ _ _)
   | (with_reducible exact ih1 _ _ _ _ _ _ _)
   | (with_reducible exact spec_spOuter.mono _ _ _ _)
   | (with_reducible exact LeO.refl _)
   | (with_reducible exact LeO.none _)
   | (with_reducible refine LeO.ite ?_ ?_)
   | (with_reducible refine LeO.bind ?_ (fun _ => ?_))
   | exact ih0 _ _ _ _
   | exact ih1 _ _ _ _ _ _ _
   | exact spec_spOuter.mono _ _ _ _
   | exact LeO.none _
   | refine LeO.ite ?_ ?_
   | refine LeO.bind ?_ (fun _ => ?_)
  ·
   intro y0 y1 y2 y3 y4 y5 y6
   unfold spec_woAll.l0
   repeat' first
   | (with_reducible exact ih0 _ _ _ _)
   | (with_reducible exact ih1 _ _ _ _ _ _ _)
   | (with_reducible exact spec_spOuter.mono _ _ _ _)
   | (with_reducible exact LeO.refl _)
   | (with_reducible exact LeO.none _)
   | (with_reducible refine LeO.ite ?_ ?_)
   | (with_reducible refine LeO.bind ?_ (fun _ => ?_))
   | exact ih0 _ _ _ _
   | exact ih1 _ _ _ _ _ _ _
   | exact spec_spOuter.mono _ _ _ _
   | exact LeO.none _
   | refine LeO.ite ?_ ?_
   | refine LeO.bind ?_ (fun _ => ?_)
theorem spec_woAll.mono : ∀ a0 a1 a2 a3 k, LeO (spec_woAll.f k a0 a1 a2 a3) (spec_woAll.f (k + 1) a0 a1 a2 a3) := by
 intro a0 a1 a2 a3 k
 obtain ⟨ih0, ih1⟩ := spec_woAll.mono_l k
 exact ih0 a0 a1 a2 a3
def spec_woAll.T9 : Bool × List (List Nat × List Nat) := (true, [([], []), ([], []), ([], []), ([2], [2]), ([], []), ([4], [4]), ([3, 5, 3], [3, 5]), ([], []), ([], []), ([8], [8]), ([7, 9], [7, 9]), ([1, 6, 10, 6], [1, 6, 10]), ([0, 11, 11], [0, 11]), ([12, 12, 0, 1, 2, 3, 4, 5, 6, 7, 8, 9, 10, 11, 12], [0, 12])])
def spec_woAll.B9 : List Nat := [0, 0, 0, 4, 0, 16, 60, 0, 0, 256, 896, 2046, 4095, 8191]
theorem spec_woAll.tab9 : rtab .any (opsOf Try.f66 9) = spec_woAll.T9 := by kernel_rfl
theorem spec_woAll.bits9 : waitsOk spec_woAll.T9.2 spec_woAll.B9 = true := by kernel_rfl
set_option maxHeartbeats 8000000 in
set_option maxRecDepth 100000 in
theorem spec_woAll.calls (k : Nat) : ∀ (a0_0 : Int) (A0_1 : Option Addr) (c0_1 : Nat) (l0_1 : List Int) (A1 : Option Addr) (c1 : Nat) (l1 : List Int) (a2 : Int) (r : List (List Int)) (w : World) (hr0_1 : Kd.C (Kd.int .i64) w A0_1 l0_1.length l0_1) (hc0_1 : l0_1.length ≤ c0_1) (hr1 : Kd.C (Kd.int .i64) w A1 l1.length l1) (hc1 : l1.length ≤ c1) (h : spec_woAll.f k a0_0 l0_1 l1 a2 = some r),
  Calls Try.prog 66 #[.agg #[.int .i64 a0_0, .slice A0_1 l0_1.length c0_1], .slice A1 l1.length c1, .int .i64 a2] w fun e w' => ∃ v0_ : Value, e = .returned (v0_) ∧ Kd.N (Kd.slice 3 (Kd.int .i64)) 22 w' w.heap.size (fun k_ => (w.heap.size ≤ k_)) v0_ r ∧ Below w.heap.size w w' := by
 induction k using Nat.strongRecOn with
 | _ k ih =>
 intro a0_0 A0_1 c0_1 l0_1 A1 c1 l1 a2 r w hr0_1 hc0_1 hr1 hc1 h
 cases k with
 | zero => exact absurd h (by simp [spec_woAll.f])
 | succ k =>
 simp only [spec_woAll.f] at h
 have hu28 := Try.underlying28
 have HR0_1 := asd hr0_1
 have HC0_1 := asd hc0_1
 clear hr0_1 hc0_1
 have HR1 := asd hr1
 have HC1 := asd hc1
 clear hr1 hc1
 have HB := asd (Below.refl w.heap.size w)
 have H : (if (l1.length : Int) = a0_0 then ((spec_l1Own.f l1).bind fun t102 => (some (([t102] : List (List Int))))) else ((spec_spOuter.f k a0_0 l0_1 a2).bind fun t108 => (spec_woAll.l0 k l1 a2 ([] : List (List Int)) t108 0 a0_0 l0_1))) = some r := h
 clear h
 by_cases c4 : (l1.length : Int) = a0_0
 ·
  rw [if_pos c4] at H
  have c4b0 : ((l1.length : Int) == a0_0) = true := beq_iff_eq.mpr c4
  have c4b1 : ((l1.length : Int) != a0_0) = false := bne_eq_false_iff_eq.mpr c4
  clear c4
  replace H := Option.bind_eq_some_iff.mp H
  obtain ⟨t102, A50, H⟩ := H
  replace H : (some (([t102] : List (List Int)))) = some r := H
  have A5 := asd A50
  clear A50
  obtain ⟨y105, hy105⟩ : ∃ y_ : List (List Int), y_ = (([t102] : List (List Int))) := ⟨_, rfl⟩
  replace H : (some y105) = some r := by first | (rw [hy105]; with_reducible exact H) | (have H2_ := (Option.bind_some _ _).symm.trans H; rw [hy105]; with_reducible exact H2_) | (have H2_ := (Option.bind_some _ _).symm.trans H; with_reducible exact H2_) | with_reducible exact H | (rw [hy105]; exact H) | exact H
  have Ny105 := asd hy105
  clear hy105
  obtain rfl := Option.some.inj H
  go_enter Try.func66, Try.ntmps66
  go_wp2_with (first | ((with_reducible refine gate_dst (N := 3) rfl ?_); refine box_event ?hg (N := 3) ?hd (cs := #[.int .i64 a0_0, .slice A0_1 l0_1.length c0_1]) (t := 28) ?hr ?_; (case hd => rfl); (case hg => rfl); (case hr => first | (go_simp; done) | (go_simp; rfl)); intro gb101 hg w6 hbox hb; have n0_ := asd (below_step (by repeat (first | (with_reducible first | exact HB.out | apply below_alloc | apply pw_below_drewN | apply below_drew1) | exact HB.out)) hb); have n1_ := asd (hbox); have n2_ := asd ((by rw [hg]; exact (below_size (by repeat (first | (with_reducible first | exact HB.out | apply below_alloc | apply pw_below_drewN | apply below_drew1) | exact HB.out))) : w.heap.size ≤ gb101)); have n3_ := asd ((by rw [hg]; exact (below_size (by repeat (first | (with_reducible first | exact HB.out | apply below_alloc | apply pw_below_drewN | apply below_drew1) | exact HB.out))) : w.heap.size ≤ gb101)); clear HB; have HB := n0_; have BK101 := n1_; have GW101 := n2_; have GE101 := n3_; clear n0_ n1_ n2_ n3_; clear hb hbox hg; have hcz7_0 : w6.cell? ⟨gb101, 0, none⟩ = some (.int .i64 a0_0) := (blk_cell BK101.out 0).trans rfl; have hcz7_1 : w6.cell? ⟨gb101, 1, none⟩ = some (.slice A0_1 l0_1.length c0_1) := (blk_cell BK101.out 1).trans rfl; have hfz7_0 := blk_frozen BK101.out 0; have hfz7_1 := blk_frozen BK101.out 1) | ((with_reducible refine gate_callee (f := 113) rfl ?_); refine goesL_ (some 16) rfl rfl Try.func113 (by kernel_rfl) rfl #[.slice A1 l1.length c1] rfl (by (try simp only [List.map_toArray, List.map_cons, List.map_nil]); first | done | rfl | (simp only [List.length_drop, List.length_take]; rfl)) ?_; (with_reducible refine (spec_l1Own.calls _ _ l1 t102 _ ?side1 ?side2 A5.out).mono ?_); (case side1 => repeat (first | exact (Kd.C_below HR1.out HB.out) | (with_reducible refine Kd.C_alloc ?_ _) | (with_reducible refine Kd.C_drewN ?_ _) | (with_reducible refine Kd.C_drew ?_))); (case side2 => exact HC1.out); rintro e w8 ⟨v103, rfl, ho0, hb⟩; refine ⟨_, rfl, ?_⟩; have n0_ := asd (Kd.R_lower (Kd.R_newM (M := fun k_ => (w.heap.size ≤ k_)) ho0 (below_size (by repeat (first | (with_reducible first | exact HB.out | apply below_alloc | apply pw_below_drewN | apply below_drew1 | refine below_set ?_ GE101.out) | exact HB.out))) (fun k_ h_ => h_)) (below_size (by repeat (first | (with_reducible first | exact HB.out | apply below_alloc | apply pw_below_drewN | apply below_drew1 | refine below_set ?_ GE101.out) | exact HB.out)))); have n1_ := asd (blk_below (upB BK101.out) hb); have n2_ := asd (below_step (by repeat (first | (with_reducible first | exact HB.out | apply below_alloc | apply pw_below_drewN | apply below_drew1 | refine below_set ?_ GE101.out) | exact HB.out)) hb); clear BK101; clear HB; have HO104 := n0_; have BK101 := n1_; have HB := n2_; clear n0_ n1_ n2_; (try clear hb); (try clear hb2); (try clear hk); (try clear hi); (try clear ho0); obtain ⟨Ao9, co9, eo9⟩ := Kd.R_slice HO104.out; subst eo9) | ((with_reducible refine gate_dst (N := 17) rfl ?_); refine Kd.N_lit (Kd.slice 3 (Kd.int .i64)) _ 22 ?hg (N' := 17) ?hd (xs := ([t102] : List (List Int))) (inner := [.slice Ao9 t102.length co9]) (ok := (fun k_ => (w.heap.size ≤ k_) ∧ k_ ≠ gb101)) (okp := (fun k_ => (w.heap.size ≤ k_) ∧ k_ ≠ gb101)) ?hr ?hp (fun _ hk => hk) ((show ∀ k_, w8.heap.size ≤ k_ → (fun k_ => (w.heap.size ≤ k_) ∧ k_ ≠ gb101) k_ from fun k_ hk => ⟨(Nat.le_trans (below_size (by repeat (first | (with_reducible first | exact HB.out | apply below_alloc | apply pw_below_drewN | apply below_drew1 | refine below_set ?_ GE101.out) | exact HB.out))) hk), Kd.freshB (upB BK101.out) k_ hk⟩) _ (Nat.le_refl _)) (Below.refl _ _) (Nat.le_refl _) (by simp) ?_; (case hd => rfl); (case hg => rfl); (case hr => first | (go_simp; done) | (go_simp; rfl)); (case hp => exact (Reps.one (show Kd.FK (Kd.slice 3 (Kd.int .i64)) _ _ t102 [.slice Ao9 t102.length co9] from (Kd.FK_slice_mk (Kd.R_reads' (Kd.R_mono (ok' := (fun k_ => (w.heap.size ≤ k_) ∧ k_ ≠ gb101)) (Kd.R_types (HO104.out) BK101.out (by decide)) (fun k_ hk => ⟨hk.1.1, hk.2⟩))).2.1 (Kd.R_F (Kd.R_mono (ok' := (fun k_ => (w.heap.size ≤ k_) ∧ k_ ≠ gb101)) (Kd.R_types (HO104.out) BK101.out (by decide)) (fun k_ hk => ⟨hk.1.1, hk.2⟩))))) (Reps.none _ _))); intro v106 w10 ho11 hb hg_ hnew_; clear hg_ hnew_; (first | rw [← Ny105.out] at ho11 | (simp only [Int.reduceToNat] at ho11; rw [← Ny105.out] at ho11)); have n0_ := asd (Kd.N_lower ho11 (below_size (by repeat (first | (with_reducible first | exact HB.out | apply below_alloc | apply pw_below_drewN | apply below_drew1 | refine below_set ?_ GE101.out) | exact HB.out)))); have n1_ := asd (blk_below (upB BK101.out) hb); have n2_ := asd (below_step (by repeat (first | (with_reducible first | exact HB.out | apply below_alloc | apply pw_below_drewN | apply below_drew1 | refine below_set ?_ GE101.out) | exact HB.out)) hb); clear BK101; clear HB; clear HO104; have HO107 := n0_; have BK101 := n1_; have HB := n2_; clear n0_ n1_ n2_; clear hb ho11))
  go_ret
  exact ⟨_, by first | rfl | (simp [errW_none, errW_some] <;> rfl) | (simp [*, errW_none, errW_some] <;> rfl), by (with_reducible repeat (first | apply Kd.N_alloc | apply Kd.N_drewN | apply Kd.N_drew)); exact Kd.N_mono HO107.out (fun _ hk => hk.1), by repeat (first | (with_reducible first | exact HB.out | apply below_alloc | apply pw_below_drewN | apply below_drew1 | refine below_set ?_ GE101.out) | exact HB.out)⟩
 ·
  rw [if_neg c4] at H
  have c4b0 : ((l1.length : Int) == a0_0) = false := beq_eq_false_iff_ne.mpr c4
  have c4b1 : ((l1.length : Int) != a0_0) = true := bne_iff_ne.mpr c4
  replace H := Option.bind_eq_some_iff.mp H
  obtain ⟨t108, A120, H⟩ := H
  replace H : (spec_woAll.l0 k l1 a2 ([] : List (List Int)) t108 0 a0_0 l0_1) = some r := H
  have A12 := asd A120
  clear A120
  have H' := asd H
  clear H
  go_enter Try.func66, Try.ntmps66
  go_wp2_with (first | ((with_reducible refine gate_dst (N := 3) rfl ?_); refine box_event ?hg (N := 3) ?hd (cs := #[.int .i64 a0_0, .slice A0_1 l0_1.length c0_1]) (t := 28) ?hr ?_; (case hd => rfl); (case hg => rfl); (case hr => first | (go_simp; done) | (go_simp; rfl)); intro gb101 hg w13 hbox hb; have n0_ := asd (below_step (by repeat (first | (with_reducible first | exact HB.out | apply below_alloc | apply pw_below_drewN | apply below_drew1) | exact HB.out)) hb); have n1_ := asd (hbox); have n2_ := asd ((by rw [hg]; exact (below_size (by repeat (first | (with_reducible first | exact HB.out | apply below_alloc | apply pw_below_drewN | apply below_drew1) | exact HB.out))) : w.heap.size ≤ gb101)); have n3_ := asd ((by rw [hg]; exact (below_size (by repeat (first | (with_reducible first | exact HB.out | apply below_alloc | apply pw_below_drewN | apply below_drew1) | exact HB.out))) : w.heap.size ≤ gb101)); clear HB; have HB := n0_; have BK101 := n1_; have GW101 := n2_; have GE101 := n3_; clear n0_ n1_ n2_ n3_; clear hb hbox hg; have hcz14_0 : w13.cell? ⟨gb101, 0, none⟩ = some (.int .i64 a0_0) := (blk_cell BK101.out 0).trans rfl; have hcz14_1 : w13.cell? ⟨gb101, 1, none⟩ = some (.slice A0_1 l0_1.length c0_1) := (blk_cell BK101.out 1).trans rfl; have hfz14_0 := blk_frozen BK101.out 0; have hfz14_1 := blk_frozen BK101.out 1) | ((with_reducible refine gate_callee (f := 114) rfl ?_); refine goesL_ (some 20) rfl rfl Try.func114 (by kernel_rfl) rfl #[.agg #[.int .i64 a0_0, .slice A0_1 l0_1.length c0_1], .int .i64 a2] rfl (by (try simp only [List.map_toArray, List.map_cons, List.map_nil]); first | done | rfl | (simp only [List.length_drop, List.length_take]; rfl)) ?_; (with_reducible refine (spec_spOuter.calls k a0_0 _ _ l0_1 a2 t108 _ ?side1 ?side2 A12.out).mono ?_); (case side1 => repeat (first | exact (Kd.C_below HR0_1.out HB.out) | (with_reducible refine Kd.C_alloc ?_ _) | (with_reducible refine Kd.C_drewN ?_ _) | (with_reducible refine Kd.C_drew ?_))); (case side2 => exact HC0_1.out); rintro e w15 ⟨rfl, hb⟩; refine ⟨_, rfl, ?_⟩; have n0_ := asd (blk_below (upB BK101.out) hb); have n1_ := asd (below_step (by repeat (first | (with_reducible first | exact HB.out | apply below_alloc | apply pw_below_drewN | apply below_drew1 | refine below_set ?_ GE101.out) | exact HB.out)) hb); clear BK101; clear HB; have BK101 := n0_; have HB := n1_; clear n0_ n1_; (try clear hb); (try clear hb2); (try clear hk); (try clear hi)))
  go_loopg [7, 9] k (fun kq v7 v9 w' => ∃ (x7_1 : List (List Int)) (x9_1 : Int), v9 = .int .i64 x9_1 ∧ Aside0 (spec_woAll.l0 kq l1 a2 x7_1 t108 x9_1 a0_0 l0_1 = some r) ∧ Aside0 (kq ≤ k) ∧ Aside0 (Kd.N (Kd.slice 3 (Kd.int .i64)) 22 w' w.heap.size (fun k_ => (w.heap.size ≤ k_) ∧ k_ ≠ gb101) v7 x7_1) ∧ Aside0 (w'.heap[gb101]? = some (.cells #[.int .i64 a0_0, (.slice A0_1 l0_1.length c0_1)] 28 (0, 0))) ∧ Aside0 (Below w.heap.size w w'))
  case atStart => exact ⟨(([] : List (List Int))), (0), (by first | rfl | (simp; done) | (simp [*]; done)), H', ⟨Nat.le_refl _⟩, ⟨by first | exact Kd.S_nil _ _ _ _ _ | exact Kd.N_nil _ _ _ _ _ | exact Kd.V_nil _ _ _ _ _ | exact Kd.Q_nil _ _ _ _ _ | exact Kd.R_nil _ _ _ _ _⟩, ⟨by (with_reducible repeat (first | refine blk_drewN ?_ _ | refine blk_drew ?_ | refine blk_alloc ?_ _)); exact BK101.out⟩, ⟨by repeat (first | (with_reducible first | exact HB.out | apply below_alloc | apply pw_below_drewN | apply below_drew1 | refine below_set ?_ GE101.out) | exact HB.out)⟩⟩
  case round =>
   clear H'
   try clear c1
   try clear p2
   try clear c4
   try clear c4b0
   try clear c4b1
   try clear c6
   try clear c11
   try clear hcz14_0
   try clear hcz14_1
   try clear hcz7_0
   try clear hcz7_1
   try clear hfz14_0
   try clear hfz14_1
   try clear hfz7_0
   try clear hfz7_1
   try clear HO_7; skip
   obtain ⟨x7_1, x9_1, rfl, HA, HK1, HO_7, BK101, HB⟩ := hrel
   cases gk with
   | zero => exact absurd HA.out (by simp [spec_woAll.l0])
   | succ k1 =>
    have H := HA.out
    clear HA
    simp only [spec_woAll.l0] at H
    by_cases c16 : x9_1 < a0_0
    ·
     rw [if_pos c16] at H
     have c16b0 : decide (x9_1 < a0_0) = true := decide_eq_true c16
     clear c16
     replace H := Option.bind_eq_some_iff.mp H
     obtain ⟨t109, A170, H⟩ := H
     replace H : (if t109 = true then ((spec_l1Own.f l1).bind fun t110 => ((some (([x9_1] : List Int) : List Int)).bind fun y113 => (if t110.length + y113.length < 17592186044416 then (if 0 ≤ x9_1 then ((spec_woAll.f k1 a0_0 l0_1 (t110 ++ y113) (Go.bits .or .i64 a2 (shl .i64 1 x9_1))).bind fun t119 => (if x7_1.length + t119.length < 5864062014805 then (spec_woAll.l0 k1 l1 a2 (x7_1 ++ t119) t108 (wrap64 (x9_1 + 1)) a0_0 l0_1) else (none))) else (none)) else (none)))) else (spec_woAll.l0 k1 l1 a2 x7_1 t108 (wrap64 (x9_1 + 1)) a0_0 l0_1)) = some r := H
     have A17 := asd A170
     clear A170
     by_cases c18 : t109 = true
     ·
      subst c18
      have H1 : ((spec_l1Own.f l1).bind fun t110 => ((some (([x9_1] : List Int) : List Int)).bind fun y113 => (if t110.length + y113.length < 17592186044416 then (if 0 ≤ x9_1 then ((spec_woAll.f k1 a0_0 l0_1 (t110 ++ y113) (Go.bits .or .i64 a2 (shl .i64 1 x9_1))).bind fun t119 => (if x7_1.length + t119.length < 5864062014805 then (spec_woAll.l0 k1 l1 a2 (x7_1 ++ t119) t108 (wrap64 (x9_1 + 1)) a0_0 l0_1) else (none))) else (none)) else (none)))) = some r := by rw [if_pos rfl] at H; exact H
      clear H
      have H := H1
      clear H1
      replace H := Option.bind_eq_some_iff.mp H
      obtain ⟨t110, A190, H⟩ := H
      replace H : ((some (([x9_1] : List Int) : List Int)).bind fun y113 => (if t110.length + y113.length < 17592186044416 then (if 0 ≤ x9_1 then ((spec_woAll.f k1 a0_0 l0_1 (t110 ++ y113) (Go.bits .or .i64 a2 (shl .i64 1 x9_1))).bind fun t119 => (if x7_1.length + t119.length < 5864062014805 then (spec_woAll.l0 k1 l1 a2 (x7_1 ++ t119) t108 (wrap64 (x9_1 + 1)) a0_0 l0_1) else (none))) else (none)) else (none))) = some r := H
      have A19 := asd A190
      clear A190
      obtain ⟨y113, hy113⟩ : ∃ y_ : List Int, y_ = (([x9_1] : List Int)) := ⟨_, rfl⟩
      replace H : (if t110.length + y113.length < 17592186044416 then (if 0 ≤ x9_1 then ((spec_woAll.f k1 a0_0 l0_1 (t110 ++ y113) (Go.bits .or .i64 a2 (shl .i64 1 x9_1))).bind fun t119 => (if x7_1.length + t119.length < 5864062014805 then (spec_woAll.l0 k1 l1 a2 (x7_1 ++ t119) t108 (wrap64 (x9_1 + 1)) a0_0 l0_1) else (none))) else (none)) else (none)) = some r := by first | (rw [hy113]; with_reducible exact H) | (have H2_ := (Option.bind_some _ _).symm.trans H; rw [hy113]; with_reducible exact H2_) | (have H2_ := (Option.bind_some _ _).symm.trans H; with_reducible exact H2_) | with_reducible exact H | (rw [hy113]; exact H) | exact H
      have Ny113 := asd hy113
      clear hy113
      by_cases c20 : t110.length + y113.length < 17592186044416
      ·
       rw [if_pos c20] at H
       have LMc20 := asd c20
       clear c20
       obtain ⟨y116, hy116⟩ : ∃ y_ : List Int, y_ = (t110 ++ y113) := ⟨_, rfl⟩
       replace H : (if 0 ≤ x9_1 then ((spec_woAll.f k1 a0_0 l0_1 y116 (Go.bits .or .i64 a2 (shl .i64 1 x9_1))).bind fun t119 => (if x7_1.length + t119.length < 5864062014805 then (spec_woAll.l0 k1 l1 a2 (x7_1 ++ t119) t108 (wrap64 (x9_1 + 1)) a0_0 l0_1) else (none))) else (none)) = some r := by first | (rw [hy116]; with_reducible exact H) | (have H2_ := (Option.bind_some _ _).symm.trans H; rw [hy116]; with_reducible exact H2_) | (have H2_ := (Option.bind_some _ _).symm.trans H; with_reducible exact H2_) | with_reducible exact H | (rw [hy116]; exact H) | exact H
       have Ny116 := asd hy116
       clear hy116
       by_cases c21 : 0 ≤ x9_1
       ·
        rw [if_pos c21] at H
        have c21b0 := eq_true c21
        have c21b1 : decide (0 ≤ x9_1) = true := decide_eq_true c21
        clear c21
        obtain ⟨ji22, hji22⟩ : ∃ j_ : Int, (shl .i64 1 x9_1) = j_ := ⟨_, rfl⟩
        replace H : ((spec_woAll.f k1 a0_0 l0_1 y116 (Go.bits .or .i64 a2 (ji22))).bind fun t119 => (if x7_1.length + t119.length < 5864062014805 then (spec_woAll.l0 k1 l1 a2 (x7_1 ++ t119) t108 (wrap64 (x9_1 + 1)) a0_0 l0_1) else (none))) = some r := by first | (rw [hji22] at H; exact H) | (simp only [hji22] at H ⊢; exact H)
        (try rw [hji22] at A17)
        (try rw [hji22] at A19)
        have hji22_ : (IntKind.i64.wrap (1 * 2 ^ min x9_1.toNat 64)) = ji22 := hji22
        have hji22z : x9_1 ≤ 64 → (IntKind.i64.wrap (1 * 2 ^ x9_1.toNat)) = ji22 := shl_small hji22
        have hji22u : (IntKind.i64.wrap (2 ^ min x9_1.toNat 64)) = ji22 := by have h_ := hji22_; rw [Int.one_mul] at h_; exact h_
        have hji22v : x9_1 ≤ 64 → (IntKind.i64.wrap (2 ^ x9_1.toNat)) = ji22 := fun hle_ => by have h_ := hji22z hle_; rw [Int.one_mul] at h_; exact h_
        have hji22y : (wrap64 (1 * 2 ^ min x9_1.toNat 64)) = ji22 := (i64_w _).symm.trans hji22_
        have hji22x : x9_1 ≤ 64 → (wrap64 (1 * 2 ^ x9_1.toNat)) = ji22 := fun h_ => (i64_w _).symm.trans (hji22z h_)
        replace H := Option.bind_eq_some_iff.mp H
        obtain ⟨t119, A230, H⟩ := H
        replace H : (if x7_1.length + t119.length < 5864062014805 then (spec_woAll.l0 k1 l1 a2 (x7_1 ++ t119) t108 (wrap64 (x9_1 + 1)) a0_0 l0_1) else (none)) = some r := H
        have A23 := asd A230
        clear A230
        by_cases c24 : x7_1.length + t119.length < 5864062014805
        ·
         rw [if_pos c24] at H
         have LMc24 := asd c24
         clear c24
         obtain ⟨y122, hy122⟩ : ∃ y_ : List (List Int), y_ = (x7_1 ++ t119) := ⟨_, rfl⟩
         replace H : (spec_woAll.l0 k1 l1 a2 y122 t108 (wrap64 (x9_1 + 1)) a0_0 l0_1) = some r := by first | (rw [hy122]; with_reducible exact H) | (have H2_ := (Option.bind_some _ _).symm.trans H; rw [hy122]; with_reducible exact H2_) | (have H2_ := (Option.bind_some _ _).symm.trans H; with_reducible exact H2_) | with_reducible exact H | (rw [hy122]; exact H) | exact H
         have Ny122 := asd hy122
         clear hy122
         have H' := asd H
         clear H
         have hcz25_0 : wr.cell? ⟨gb101, 0, none⟩ = some (.int .i64 a0_0) := (blk_cell BK101.out 0).trans rfl
         have hcz25_1 : wr.cell? ⟨gb101, 1, none⟩ = some (.slice A0_1 l0_1.length c0_1) := (blk_cell BK101.out 1).trans rfl
         have hfz25_0 := blk_frozen BK101.out 0
         have hfz25_1 := blk_frozen BK101.out 1
         try go_wp2_with (first | ((with_reducible refine gate_callee (f := 59) rfl ?_); refine goesL_ (some 29) rfl rfl Try.func59 (by kernel_rfl) rfl #[.int .i64 t108, .int .i64 x9_1] rfl (by (try simp only [List.map_toArray, List.map_cons, List.map_nil]); first | done | rfl | (simp only [List.length_drop, List.length_take]; rfl)) ?_; (with_reducible refine (spec_spIn.calls t108 x9_1 true _ A17.out).mono ?_); rintro e w' ⟨rfl, ⟨nd, rfl⟩⟩; refine ⟨_, rfl, ?_⟩; obtain ⟨Ao26, co26, eo26⟩ := Kd.N_slice HO_7.out; subst eo26))
         (try (rw [drewN_self wr]; generalize hq_ : World.drewN wr _ = wr; have n0_ : Aside0 (Kd.N (Kd.slice 3 (Kd.int .i64)) 22 wr w.heap.size (fun k_ => (w.heap.size ≤ k_) ∧ k_ ≠ gb101) (.slice Ao26 x7_1.length co26) x7_1) := ⟨by rw [← hq_]; exact (by (with_reducible repeat (first | apply Kd.N_alloc | apply Kd.N_drewN | apply Kd.N_drew)); exact HO_7.out)⟩; have n1_ : Aside0 (wr.heap[gb101]? = some (.cells #[.int .i64 a0_0, .slice A0_1 l0_1.length c0_1] 28 (0, 0))) := ⟨by rw [← hq_]; exact (upB BK101.out)⟩; have n2_ : Aside0 (Below w.heap.size w wr) := ⟨by rw [← hq_]; exact (by repeat (first | (with_reducible first | exact HB.out | apply below_alloc | apply pw_below_drewN | apply below_drew1 | refine below_set ?_ GE101.out) | exact HB.out))⟩; clear HO_7 BK101 HB hq_; have HO_7 := n0_; have BK101 := n1_; have HB := n2_; clear n0_ n1_ n2_))
         have n0_ := asd (Kd.N_drew HO_7.out)
         have n1_ := asd (blk_drew BK101.out)
         have n2_ := asd (below_drew1 HB.out)
         clear HO_7
         clear BK101
         clear HB
         have HO_7 := n0_
         have BK101 := n1_
         have HB := n2_
         clear n0_ n1_ n2_
         refine start_ (n := 14) (S := fun w' => w'.cell? ⟨gb101, 0, none⟩ = some (.int .i64 a0_0) ∧ w'.cell? ⟨gb101, 1, none⟩ = some (.slice A0_1 l0_1.length c0_1)) (ds := []) #[false, false, false, false, false, false, false, false, false, false, false, false, false, false] (by kernel_rfl) rfl rfl ⟨(blk_cell BK101.out 0).trans rfl, (blk_cell BK101.out 1).trans rfl⟩ (fun hHeld => ?_); refine with_tabW spec_woAll.tab9 spec_woAll.bits9 (fun HT_ HW_ => ?_)
         generalize wr.drew = w27 at HO_7 BK101 HB hHeld ⊢
         refine pure_ (i := 0) (N := some 30) (v := ?_) (a' := ?_) #[true, false, false, false, false, false, false, false, false, false, false, false, false, false] rfl rfl (any_of HT_.out (by kernel_rfl)) (fun _ _ _ h => h) (Or.inl ⟨by rfl, ?_⟩) ?_ ?_
         rotate_left
         ·
          intro w'
          go_simp
          with_reducible rfl
         rotate_left
         ·
          simp only [Act.put, List.setIfInBounds_toArray, List.set_cons_zero, List.set_cons_succ, i64_w, i32_w]
          rfl
         refine pure_ (i := 2) (N := some 32) (v := ?_) (a' := ?_) #[true, false, true, false, false, false, false, false, false, false, false, false, false, false] rfl rfl (any_of HT_.out (by kernel_rfl)) (fun _ _ _ h => h) (Or.inl ⟨by rfl, ?_⟩) ?_ ?_
         rotate_left
         ·
          intro w'
          go_simp
          with_reducible rfl
         rotate_left
         ·
          simp only [Act.put, List.setIfInBounds_toArray, List.set_cons_zero, List.set_cons_succ, i64_w, i32_w]
          rfl
         refine pure_ (i := 4) (N := some 34) (v := ?_) (a' := ?_) #[true, false, true, false, true, false, false, false, false, false, false, false, false, false] rfl rfl (any_of HT_.out (by kernel_rfl)) (fun _ _ _ h => h) (Or.inl ⟨by rfl, ?_⟩) ?_ ?_
         rotate_left
         ·
          intro w'
          go_simp
          with_reducible rfl
         rotate_left
         ·
          simp only [Act.put, List.setIfInBounds_toArray, List.set_cons_zero, List.set_cons_succ, i64_w, i32_w]
          rfl
         refine pure_ (i := 7) (N := some 37) (v := ?_) (a' := ?_) #[true, false, true, false, true, false, false, true, false, false, false, false, false, false] rfl rfl (any_of HT_.out (by kernel_rfl)) (fun _ _ _ h => h) (Or.inl ⟨by rfl, ?_⟩) ?_ ?_
         rotate_left
         ·
          intro w'
          go_simp
          with_reducible rfl
         rotate_left
         ·
          simp only [Act.put, List.setIfInBounds_toArray, List.set_cons_zero, List.set_cons_succ, i64_w, i32_w]
          rfl
         refine pure_ (i := 8) (N := some 38) (v := ?_) (a' := ?_) #[true, false, true, false, true, false, false, true, true, false, false, false, false, false] rfl rfl (any_of HT_.out (by kernel_rfl)) (fun _ _ _ h => h) (Or.inl ⟨by rfl, ?_⟩) ?_ ?_
         rotate_left
         ·
          intro w'
          go_simp
          with_reducible rfl
         rotate_left
         ·
          simp only [Act.put, List.setIfInBounds_toArray, List.set_cons_zero, List.set_cons_succ, i64_w, i32_w]
          rfl
         refine pure_ (i := 9) (N := some 39) (v := ?_) (a' := ?_) #[true, false, true, false, true, false, false, true, true, true, false, false, false, false] rfl rfl (any_of HT_.out (by kernel_rfl)) (fun _ _ _ h => h) (Or.inl ⟨by rfl, ?_⟩) ?_ ?_
         rotate_left
         ·
          intro w'
          go_simp
          with_reducible rfl
         rotate_left
         ·
          simp only [Act.put, List.setIfInBounds_toArray, List.set_cons_zero, List.set_cons_succ, i64_w, i32_w]
          rfl
         refine pure_ (i := 10) (N := some 40) (v := ?_) (a' := ?_) #[true, false, true, false, true, false, false, true, true, true, true, false, false, false] rfl rfl (any_of HT_.out (by kernel_rfl)) (fun _ _ _ h => h) (Or.inl ⟨by rfl, ?_⟩) ?_ ?_
         rotate_left
         ·
          intro w'
          go_simp
          with_reducible rfl
         rotate_left
         ·
          simp only [Act.put, List.setIfInBounds_toArray, List.set_cons_zero, List.set_cons_succ, i64_w, i32_w]
          rfl
         refine take_ (i := 1) (N := some 31) (v := ?_) (a' := ?_) #[true, true, true, false, true, false, false, true, true, true, true, false, false, false] rfl rfl (take_ofW HT_.out HW_.out (by kernel_rfl)) (fun _ _ _ h => h) (Or.inl ⟨by rfl, ?_⟩) hHeld ?_ ?_
         rotate_left
         ·
          rintro w' ⟨s0, s1⟩
          go_simp
          with_reducible rfl
         rotate_left
         ·
          simp only [Act.put, List.setIfInBounds_toArray, List.set_cons_zero, List.set_cons_succ, i64_w, i32_w]
          rfl
         refine join_ (σ := Value × Value) 4 #[true, true, true, true, true, true, false, true, true, true, true, false, false, false] (fun s_ => [(33, s_.1), (35, s_.2)]) (fun s_ w' => (w'.cell? ⟨gb101, 0, none⟩ = some (.int .i64 a0_0) ∧ w'.cell? ⟨gb101, 1, none⟩ = some (.slice A0_1 l0_1.length c0_1)) ∧ (Kd.R (Kd.int .i64) 3 w' w.heap.size (fun k_ => (w.heap.size ≤ k_) ∧ some k_ ≠ (s_.2 : Value).ownBlock) s_.1 t110) ∧ (Kd.R (Kd.int .i64) 3 w' w.heap.size (fun k_ => (w.heap.size ≤ k_) ∧ some k_ ≠ (s_.1 : Value).ownBlock) s_.2 y113) ∧ (Kd.N (Kd.slice 3 (Kd.int .i64)) 22 w' w.heap.size (fun k_ => (w.heap.size ≤ k_) ∧ some k_ ≠ (s_.1 : Value).ownBlock ∧ some k_ ≠ (s_.2 : Value).ownBlock ∧ k_ ≠ gb101) (.slice Ao26 x7_1.length co26) x7_1) ∧ (w'.heap[gb101]? = some (.cells #[.int .i64 a0_0, .slice A0_1 l0_1.length c0_1] 28 (0, 0))) ∧ (Below w.heap.size w w')) ?_ ?_
         rotate_left
         ·
          intro hCont
          refine two_ (i := 3) (j := 5) (Ni := some 33) (Nj := some 35) #[true, true, true, true, true, false, false, true, true, true, true, false, false, false] #[true, true, true, false, true, true, false, true, true, true, true, false, false, false] rfl rfl rfl rfl (two_of HT_.out (by kernel_rfl)) (by decide) (by decide) (fun K hK => ?_) (fun K hK => ?_)
          ·
           skip
           refine goes_ Try.func113 (by kernel_rfl) rfl #[.slice A1 l1.length c1] (by rfl) rfl rfl (by (try simp only [List.map_toArray, List.map_cons, List.map_nil]); first | done | rfl | (simp only [List.length_drop, List.length_take]; rfl)) ?_
           with_reducible refine (spec_l1Own.calls _ _ l1 t110 _ ?side1 ?side2 A19.out).mono ?_
           (case side1 => repeat (first | exact (Kd.C_below HR1.out HB.out) | (with_reducible refine Kd.C_alloc ?_ _) | (with_reducible refine Kd.C_drewN ?_ _) | (with_reducible refine Kd.C_drew ?_)))
           (case side2 => exact HC1.out)
           rintro e w28 ⟨v111, rfl, ho0, hb⟩
           refine ⟨_, rfl, ?_⟩
           have n0_ := asd (Kd.N_elder' (by (with_reducible repeat (first | apply Kd.N_alloc | apply Kd.N_drewN | apply Kd.N_drew)); exact HO_7.out) (Kd.R_base ho0) hb)
           have n1_ := asd (Kd.R_lower (Kd.R_newM (M := fun k_ => (w.heap.size ≤ k_)) ho0 (below_size (by repeat (first | (with_reducible first | exact HB.out | apply below_alloc | apply pw_below_drewN | apply below_drew1 | refine below_set ?_ GE101.out) | exact HB.out))) (fun k_ h_ => h_)) (below_size (by repeat (first | (with_reducible first | exact HB.out | apply below_alloc | apply pw_below_drewN | apply below_drew1 | refine below_set ?_ GE101.out) | exact HB.out))))
           have n2_ := asd (blk_below (upB BK101.out) hb)
           have n3_ := asd (below_step (by repeat (first | (with_reducible first | exact HB.out | apply below_alloc | apply pw_below_drewN | apply below_drew1 | refine below_set ?_ GE101.out) | exact HB.out)) hb)
           clear HO_7
           clear BK101
           clear HB
           have HO_7 := n0_
           have HO112 := n1_
           have BK101 := n2_
           have HB := n3_
           clear n0_ n1_ n2_ n3_
           (try clear hb)
           (try clear hb2)
           (try clear hk)
           (try clear hi)
           (try clear ho0)
           refine hK.out _ _ ⟨(blk_cell BK101.out 0).trans rfl, (blk_cell BK101.out 1).trans rfl⟩ (fun hHeld => ?_)
           clear hK K
           refine norm_ (a' := ?_) ?_ ?_
           rotate_left
           ·
            show Act.put _ (some 33) _ = _
            simp only [Act.put, List.setIfInBounds_toArray, List.set_cons_zero, List.set_cons_succ, i64_w, i32_w]
            rfl
           refine one_ (i := 5) (N := some 35) #[true, true, true, true, true, true, false, true, true, true, true, false, false, false] rfl rfl (one_of HT_.out (by kernel_rfl)) (by decide) (fun K hK => ?_)
           refine Kd.R_lit_step (Kd.int .i64) _ 3 ?hg (N := 35) ?hd (xs := ([x9_1] : List Int)) (inner := [.int .i64 x9_1]) (ok := fun _ => True) (okp := fun _ => True) ?hr ?hp (fun _ hk => hk) trivial (Below.refl _ _) (Nat.le_refl _) (by simp) ?_; (case hd => rfl); (case hg => rfl); (case hr => first | (go_simp; done) | (go_simp; rfl)); (case hp => exact (Reps.one (show Kd.M (Kd.int .i64) _ _ _ x9_1 [.int .i64 x9_1] from rfl) (Reps.none _ _)))
           intro v114 w29 ho30 hb hg_ hnew_
           clear hg_ hnew_
           (first | rw [← Ny113.out] at ho30 | (simp only [Int.reduceToNat] at ho30; rw [← Ny113.out] at ho30))
           have n0_ := asd (Kd.N_elder' (by (with_reducible repeat (first | apply Kd.N_alloc | apply Kd.N_drewN | apply Kd.N_drew)); exact HO_7.out) (Kd.R_base ho30) hb)
           have n1_ := asd (Kd.R_elder' (upR <| HO112.out) (Kd.R_base ho30) hb)
           have n2_ := asd (Kd.R_lower (Kd.R_new' (Kd.R_newM (M := fun k_ => (w.heap.size ≤ k_)) ho30 (below_size (by repeat (first | (with_reducible first | exact HB.out | apply below_alloc | apply pw_below_drewN | apply below_drew1 | refine below_set ?_ GE101.out) | exact HB.out))) (fun k_ h_ => h_)) (Kd.R_lt (upR <| HO112.out))) (below_size (by repeat (first | (with_reducible first | exact HB.out | apply below_alloc | apply pw_below_drewN | apply below_drew1 | refine below_set ?_ GE101.out) | exact HB.out))))
           have n3_ := asd (blk_below (upB BK101.out) hb)
           have n4_ := asd (below_step (by repeat (first | (with_reducible first | exact HB.out | apply below_alloc | apply pw_below_drewN | apply below_drew1 | refine below_set ?_ GE101.out) | exact HB.out)) hb)
           clear HO_7
           clear HO112
           clear BK101
           clear HB
           have HO_7 := n0_
           have HO112 := n1_
           have HO115 := n2_
           have BK101 := n3_
           have HB := n4_
           clear n0_ n1_ n2_ n3_ n4_
           clear hb ho30
           refine hK.out _ _ ⟨(blk_cell BK101.out 0).trans rfl, (blk_cell BK101.out 1).trans rfl⟩ (fun hHeld => ?_)
           clear hK K
           refine norm_ (a' := ?_) ?_ ?_
           rotate_left
           ·
            show Act.put _ (some 35) _ = _
            simp only [Act.put, List.setIfInBounds_toArray, List.set_cons_zero, List.set_cons_succ, i64_w, i32_w]
            rfl
           exact norm_ (by simp only [putAll, Act.put, List.setIfInBounds_toArray, List.set_cons_zero, List.set_cons_succ]) (hCont (v111, v114) _ ⟨hHeld, (upR <| Kd.R_mono HO112.out (fun _ hk => ⟨hk.1.1, hk.2⟩)), (upR <| Kd.R_mono HO115.out (fun _ hk => ⟨hk.1.1, hk.2⟩)), (by (with_reducible repeat (first | apply Kd.N_alloc | apply Kd.N_drewN | apply Kd.N_drew)); exact Kd.N_mono HO_7.out (fun _ hk => ⟨hk.1.1.1, ⟨hk.1.2, ⟨hk.2, hk.1.1.2⟩⟩⟩)), (upB BK101.out), (by repeat (first | (with_reducible first | exact HB.out | apply below_alloc | apply pw_below_drewN | apply below_drew1 | refine below_set ?_ GE101.out) | exact HB.out))⟩)
          ·
           skip
           refine Kd.R_lit_step (Kd.int .i64) _ 3 ?hg (N := 35) ?hd (xs := ([x9_1] : List Int)) (inner := [.int .i64 x9_1]) (ok := fun _ => True) (okp := fun _ => True) ?hr ?hp (fun _ hk => hk) trivial (Below.refl _ _) (Nat.le_refl _) (by simp) ?_; (case hd => rfl); (case hg => rfl); (case hr => first | (go_simp; done) | (go_simp; rfl)); (case hp => exact (Reps.one (show Kd.M (Kd.int .i64) _ _ _ x9_1 [.int .i64 x9_1] from rfl) (Reps.none _ _)))
           intro v114 w28 ho29 hb hg_ hnew_
           clear hg_ hnew_
           (first | rw [← Ny113.out] at ho29 | (simp only [Int.reduceToNat] at ho29; rw [← Ny113.out] at ho29))
           have n0_ := asd (Kd.N_elder' (by (with_reducible repeat (first | apply Kd.N_alloc | apply Kd.N_drewN | apply Kd.N_drew)); exact HO_7.out) (Kd.R_base ho29) hb)
           have n1_ := asd (Kd.R_lower (Kd.R_newM (M := fun k_ => (w.heap.size ≤ k_)) ho29 (below_size (by repeat (first | (with_reducible first | exact HB.out | apply below_alloc | apply pw_below_drewN | apply below_drew1 | refine below_set ?_ GE101.out) | exact HB.out))) (fun k_ h_ => h_)) (below_size (by repeat (first | (with_reducible first | exact HB.out | apply below_alloc | apply pw_below_drewN | apply below_drew1 | refine below_set ?_ GE101.out) | exact HB.out))))
           have n2_ := asd (blk_below (upB BK101.out) hb)
           have n3_ := asd (below_step (by repeat (first | (with_reducible first | exact HB.out | apply below_alloc | apply pw_below_drewN | apply below_drew1 | refine below_set ?_ GE101.out) | exact HB.out)) hb)
           clear HO_7
           clear BK101
           clear HB
           have HO_7 := n0_
           have HO115 := n1_
           have BK101 := n2_
           have HB := n3_
           clear n0_ n1_ n2_ n3_
           clear hb ho29
           refine hK.out _ _ ⟨(blk_cell BK101.out 0).trans rfl, (blk_cell BK101.out 1).trans rfl⟩ (fun hHeld => ?_)
           clear hK K
           refine norm_ (a' := ?_) ?_ ?_
           rotate_left
           ·
            show Act.put _ (some 35) _ = _
            simp only [Act.put, List.setIfInBounds_toArray, List.set_cons_zero, List.set_cons_succ, i64_w, i32_w]
            rfl
           refine one_ (i := 3) (N := some 33) #[true, true, true, true, true, true, false, true, true, true, true, false, false, false] rfl rfl (one_of HT_.out (by kernel_rfl)) (by decide) (fun K hK => ?_)
           refine goes_ Try.func113 (by kernel_rfl) rfl #[.slice A1 l1.length c1] (by rfl) rfl rfl (by (try simp only [List.map_toArray, List.map_cons, List.map_nil]); first | done | rfl | (simp only [List.length_drop, List.length_take]; rfl)) ?_
           with_reducible refine (spec_l1Own.calls _ _ l1 t110 _ ?side1 ?side2 A19.out).mono ?_
           (case side1 => repeat (first | exact (Kd.C_below HR1.out HB.out) | (with_reducible refine Kd.C_alloc ?_ _) | (with_reducible refine Kd.C_drewN ?_ _) | (with_reducible refine Kd.C_drew ?_)))
           (case side2 => exact HC1.out)
           rintro e w30 ⟨v111, rfl, ho0, hb⟩
           refine ⟨_, rfl, ?_⟩
           have n0_ := asd (Kd.N_elder' (by (with_reducible repeat (first | apply Kd.N_alloc | apply Kd.N_drewN | apply Kd.N_drew)); exact HO_7.out) (Kd.R_base ho0) hb)
           have n1_ := asd (Kd.R_elder' (upR <| HO115.out) (Kd.R_base ho0) hb)
           have n2_ := asd (Kd.R_lower (Kd.R_new' (Kd.R_newM (M := fun k_ => (w.heap.size ≤ k_)) ho0 (below_size (by repeat (first | (with_reducible first | exact HB.out | apply below_alloc | apply pw_below_drewN | apply below_drew1 | refine below_set ?_ GE101.out) | exact HB.out))) (fun k_ h_ => h_)) (Kd.R_lt (upR <| HO115.out))) (below_size (by repeat (first | (with_reducible first | exact HB.out | apply below_alloc | apply pw_below_drewN | apply below_drew1 | refine below_set ?_ GE101.out) | exact HB.out))))
           have n3_ := asd (blk_below (upB BK101.out) hb)
           have n4_ := asd (below_step (by repeat (first | (with_reducible first | exact HB.out | apply below_alloc | apply pw_below_drewN | apply below_drew1 | refine below_set ?_ GE101.out) | exact HB.out)) hb)
           clear HO_7
           clear HO115
           clear BK101
           clear HB
           have HO_7 := n0_
           have HO115 := n1_
           have HO112 := n2_
           have BK101 := n3_
           have HB := n4_
           clear n0_ n1_ n2_ n3_ n4_
           (try clear hb)
           (try clear hb2)
           (try clear hk)
           (try clear hi)
           (try clear ho0)
           refine hK.out _ _ ⟨(blk_cell BK101.out 0).trans rfl, (blk_cell BK101.out 1).trans rfl⟩ (fun hHeld => ?_)
           clear hK K
           refine norm_ (a' := ?_) ?_ ?_
           rotate_left
           ·
            show Act.put _ (some 33) _ = _
            simp only [Act.put, List.setIfInBounds_toArray, List.set_cons_zero, List.set_cons_succ, i64_w, i32_w]
            rfl
           exact norm_ (by simp only [putAll, Act.put, List.setIfInBounds_toArray, List.set_cons_zero, List.set_cons_succ]) (hCont (v111, v114) _ ⟨hHeld, (upR <| Kd.R_mono HO112.out (fun _ hk => ⟨hk.1.1, hk.2⟩)), (upR <| Kd.R_mono HO115.out (fun _ hk => ⟨hk.1.1, hk.2⟩)), (by (with_reducible repeat (first | apply Kd.N_alloc | apply Kd.N_drewN | apply Kd.N_drew)); exact Kd.N_mono HO_7.out (fun _ hk => ⟨hk.1.1.1, ⟨hk.2, ⟨hk.1.2, hk.1.1.2⟩⟩⟩)), (upB BK101.out), (by repeat (first | (with_reducible first | exact HB.out | apply below_alloc | apply pw_below_drewN | apply below_drew1 | refine below_set ?_ GE101.out) | exact HB.out))⟩)
         rintro ⟨v111, v114⟩ w31 ⟨hS_, h0_, h1_, h2_, h3_, h4_⟩
         have n0_ : Aside0 (Kd.R (Kd.int .i64) 3 w31 w.heap.size (fun k_ => (w.heap.size ≤ k_) ∧ some k_ ≠ (v114 : Value).ownBlock) v111 t110) := ⟨h0_⟩
         have n1_ : Aside0 (Kd.R (Kd.int .i64) 3 w31 w.heap.size (fun k_ => (w.heap.size ≤ k_) ∧ some k_ ≠ (v111 : Value).ownBlock) v114 y113) := ⟨h1_⟩
         have n2_ : Aside0 (Kd.N (Kd.slice 3 (Kd.int .i64)) 22 w31 w.heap.size (fun k_ => (w.heap.size ≤ k_) ∧ some k_ ≠ (v111 : Value).ownBlock ∧ some k_ ≠ (v114 : Value).ownBlock ∧ k_ ≠ gb101) (.slice Ao26 x7_1.length co26) x7_1) := ⟨h2_⟩
         have n3_ : Aside0 (w31.heap[gb101]? = some (.cells #[.int .i64 a0_0, .slice A0_1 l0_1.length c0_1] 28 (0, 0))) := ⟨h3_⟩
         have n4_ : Aside0 (Below w.heap.size w w31) := ⟨h4_⟩
         clear HO_7
         clear BK101
         clear HB
         clear h0_ h1_ h2_ h3_ h4_
         have HO112 := n0_
         have HO115 := n1_
         have HO_7 := n2_
         have BK101 := n3_
         have HB := n4_
         clear n0_ n1_ n2_ n3_ n4_
         have hHeld : w31.cell? ⟨gb101, 0, none⟩ = some (.int .i64 a0_0) ∧ w31.cell? ⟨gb101, 1, none⟩ = some (.slice A0_1 l0_1.length c0_1) := hS_
         obtain ⟨Ao33, co33, eo33⟩ := Kd.R_slice HO115.out
         (first | subst eo33 | (injection eo33 with f1_ f2_ f3_; have f4_ := f1_.symm; have f5_ := f3_.symm; clear f1_ f2_ f3_; subst f4_; subst f5_))
         refine norm_ (a' := ?_) ?_ ?_
         rotate_left
         ·
          simp only [putAll, Act.put, List.setIfInBounds_toArray, List.set_cons_zero, List.set_cons_succ]
          rfl
         refine one_ (i := 6) (N := some 36) #[true, true, true, true, true, true, true, true, true, true, true, false, false, false] rfl rfl (one_of HT_.out (by kernel_rfl)) (by decide) (fun K hK => ?_)
         refine Kd.R_append_rows_step (Kd.int .i64) (w0 := w) w.heap.size (by rfl) (.tmp 33) (.tmp 35) 22 3 (.int .i64 0) 8 rfl Try.underlying22 info3 rfl (by decide) (by omega) v111 t110 y113 _ _ _ (fun k_ => (w.heap.size ≤ k_) ∧ some k_ ≠ (.slice Ao33 y113.length co33 : Value).ownBlock) (fun _ => False) rfl rfl ?aO ?aR (fun _ _ h => h) (fun _ h => h.elim) ?aF ?aB ?aS ?aL ?_
         (case aR => repeat (first | exact (Kd.R_reads' HO115.out).2.2 | (with_reducible refine Kd.C_alloc ?_ _) | (with_reducible refine Kd.C_drewN ?_ _) | (with_reducible refine Kd.C_drew ?_)))
         (case aB => exact (by repeat (first | (with_reducible first | exact HB.out | apply below_alloc | apply pw_below_drewN | apply below_drew1 | refine below_set ?_ GE101.out) | exact HB.out)))
         (case aF => exact (fun k_ hk => ⟨(Nat.le_trans (below_size (by repeat (first | (with_reducible first | exact HB.out | apply below_alloc | apply pw_below_drewN | apply below_drew1 | refine below_set ?_ GE101.out) | exact HB.out))) hk), Kd.fresh' (Kd.R_lt (upR <| HO115.out)) k_ hk⟩))
         (case aO => exact (upR <| HO112.out))
         (case aS => exact (below_size (by repeat (first | (with_reducible first | exact HB.out | apply below_alloc | apply pw_below_drewN | apply below_drew1 | refine below_set ?_ GE101.out) | exact HB.out))))
         (case aL => have := LMc20.out; omega)
         intro v117 w32 ho hb hg hat
         rw [← Ny116.out] at ho
         have n0_ := asd (Kd.N_afterv (ok := (fun k_ => (w.heap.size ≤ k_) ∧ some k_ ≠ (.slice Ao33 y113.length co33 : Value).ownBlock ∧ k_ ≠ gb101)) (by (with_reducible repeat (first | apply Kd.N_alloc | apply Kd.N_drewN | apply Kd.N_drew)); exact Kd.N_mono HO_7.out (fun _ hk => ⟨⟨hk.1, ⟨hk.2.2.1, hk.2.2.2⟩⟩, hk.2.1⟩)) hg hat)
         have n1_ := asd (blk_grown (upB BK101.out) hg (Kd.R_ne HO112.out BK101.out (by decide)))
         have n2_ := asd (Kd.R_after (ok := (fun k_ => (w.heap.size ≤ k_))) (upR <| HO115.out) hg hat)
         have n3_ := asd (hb)
         have n4_ := asd (ho)
         clear HO_7
         clear BK101
         clear HO115
         clear HB
         clear HO112
         have HO_7 := n0_
         have BK101 := n1_
         have HO115 := n2_
         have HB := n3_
         have HO118 := n4_
         clear n0_ n1_ n2_ n3_ n4_
         clear ho hb hg hat
         obtain ⟨Ao34, co34, eo34⟩ := Kd.R_slice HO118.out
         (first | subst eo34 | (injection eo34 with f1_ f2_ f3_; have f4_ := f1_.symm; have f5_ := f3_.symm; clear f1_ f2_ f3_; subst f4_; subst f5_))
         refine hK.out _ _ ⟨(blk_cell BK101.out 0).trans rfl, (blk_cell BK101.out 1).trans rfl⟩ (fun hHeld => ?_)
         clear hK K
         refine norm_ (a' := ?_) ?_ ?_
         rotate_left
         ·
          show Act.put _ (some 36) _ = _
          simp only [Act.put, List.setIfInBounds_toArray, List.set_cons_zero, List.set_cons_succ, i64_w, i32_w]
          rfl
         refine one_ (i := 11) (N := some 41) #[true, true, true, true, true, true, true, true, true, true, true, true, false, false] rfl rfl (one_of HT_.out (by kernel_rfl)) (by decide) (fun K hK => ?_)
         refine goes_ Try.func66 (by kernel_rfl) rfl #[.agg #[.int .i64 a0_0, .slice A0_1 l0_1.length c0_1], .slice Ao34 y116.length co34, .int .i64 (Go.bits .or .i64 a2 (ji22))] (by rfl) rfl rfl (by (try simp only [List.map_toArray, List.map_cons, List.map_nil]); first | done | (simp only [hji22]; rfl) | rfl | (simp only [List.length_drop, List.length_take]; rfl)) ?_
         with_reducible refine (ih k1 (by have := HK1.out; omega) a0_0 _ _ l0_1 _ _ y116 (Go.bits .or .i64 a2 (ji22)) t119 _ ?side1 ?side2 ?side3 ?side4 A23.out).mono ?_
         (case side1 => repeat (first | exact (Kd.C_below HR0_1.out HB.out) | (with_reducible refine Kd.C_alloc ?_ _) | (with_reducible refine Kd.C_drewN ?_ _) | (with_reducible refine Kd.C_drew ?_)))
         (case side2 => exact HC0_1.out)
         (case side3 => repeat (first | exact (Kd.R_reads' HO118.out).2.2 | (with_reducible refine Kd.C_alloc ?_ _) | (with_reducible refine Kd.C_drewN ?_ _) | (with_reducible refine Kd.C_drew ?_)))
         (case side4 => exact (Kd.R_reads' HO118.out).2.1)
         rintro e w35 ⟨v120, rfl, ho0, hb⟩
         refine ⟨_, rfl, ?_⟩
         have n0_ := asd (Kd.N_elder' (by (with_reducible repeat (first | apply Kd.N_alloc | apply Kd.N_drewN | apply Kd.N_drew)); exact HO_7.out) (Kd.N_base ho0) hb)
         have n1_ := asd (Kd.R_below (upR <| HO115.out) hb)
         have n2_ := asd (Kd.R_below (upR <| HO118.out) hb)
         have n3_ := asd (Kd.N_lower (Kd.N_mono (ok' := fun k_ => (w.heap.size ≤ k_) ∧ some k_ ≠ (.slice Ao26 x7_1.length co26 : Value).ownBlock ∧ some k_ ≠ (.slice Ao33 y113.length co33 : Value).ownBlock ∧ some k_ ≠ (.slice Ao34 y116.length co34 : Value).ownBlock ∧ k_ ≠ gb101) ho0 (fun k_ hk_ => ⟨(Nat.le_trans (below_size (by repeat (first | (with_reducible first | exact HB.out | apply below_alloc | apply pw_below_drewN | apply below_drew1 | refine below_set ?_ GE101.out) | exact HB.out))) hk_), (Kd.fresh' (Kd.N_lt (by (with_reducible repeat (first | apply Kd.N_alloc | apply Kd.N_drewN | apply Kd.N_drew)); exact HO_7.out)) k_ hk_), (Kd.fresh' (Kd.R_lt (upR <| HO115.out)) k_ hk_), (Kd.fresh' (Kd.R_lt (upR <| HO118.out)) k_ hk_), (Kd.freshB (upB BK101.out) k_ hk_)⟩)) (below_size (by repeat (first | (with_reducible first | exact HB.out | apply below_alloc | apply pw_below_drewN | apply below_drew1 | refine below_set ?_ GE101.out) | exact HB.out))))
         have n4_ := asd (blk_below (upB BK101.out) hb)
         have n5_ := asd (below_step (by repeat (first | (with_reducible first | exact HB.out | apply below_alloc | apply pw_below_drewN | apply below_drew1 | refine below_set ?_ GE101.out) | exact HB.out)) hb)
         clear HO_7
         clear HO115
         clear HO118
         clear BK101
         clear HB
         have HO_7 := n0_
         have HO115 := n1_
         have HO118 := n2_
         have HO121 := n3_
         have BK101 := n4_
         have HB := n5_
         clear n0_ n1_ n2_ n3_ n4_ n5_
         (try clear hb)
         (try clear hb2)
         (try clear hk)
         (try clear hi)
         (try clear ho0)
         obtain ⟨Ao37, co37, eo37⟩ := Kd.N_slice HO121.out
         (first | subst eo37 | (injection eo37 with f1_ f2_ f3_; have f4_ := f1_.symm; have f5_ := f3_.symm; clear f1_ f2_ f3_; subst f4_; subst f5_))
         refine hK.out _ _ ⟨(blk_cell BK101.out 0).trans rfl, (blk_cell BK101.out 1).trans rfl⟩ (fun hHeld => ?_)
         clear hK K
         refine norm_ (a' := ?_) ?_ ?_
         rotate_left
         ·
          show Act.put _ (some 41) _ = _
          simp only [Act.put, List.setIfInBounds_toArray, List.set_cons_zero, List.set_cons_succ, i64_w, i32_w]
          rfl
         refine one_ (i := 12) (N := some 42) #[true, true, true, true, true, true, true, true, true, true, true, true, true, false] rfl rfl (one_of HT_.out (by kernel_rfl)) (by decide) (fun K hK => ?_)
         refine Kd.N_append_rows_step (Kd.slice 3 (Kd.int .i64)) (w0 := w) w.heap.size (by rfl) (.tmp 30) (.tmp 41) 40 22 (.slice none 0 0) 24 rfl Try.underlying40 info22 rfl (by decide) (by omega) (.slice Ao26 x7_1.length co26) x7_1 t119 _ _ _ (fun k_ => (w.heap.size ≤ k_) ∧ some k_ ≠ (.slice Ao33 y113.length co33 : Value).ownBlock ∧ some k_ ≠ (.slice Ao34 y116.length co34 : Value).ownBlock ∧ k_ ≠ gb101) (fun k_ => ((fun k_ => (w.heap.size ≤ k_) ∧ some k_ ≠ (.slice Ao33 y113.length co33 : Value).ownBlock ∧ some k_ ≠ (.slice Ao34 y116.length co34 : Value).ownBlock ∧ k_ ≠ gb101)) k_ ∧ some k_ ≠ (.slice Ao26 x7_1.length co26 : Value).ownBlock) rfl rfl ?aO ?aR (fun _ hk => hk) ?aF ?aB ?aS ?aL ?_
         (case aR => exact (by skip; exact Kd.N_F (Kd.N_mono (ok' := (fun k_ => ((fun k_ => (w.heap.size ≤ k_) ∧ some k_ ≠ (.slice Ao33 y113.length co33 : Value).ownBlock ∧ some k_ ≠ (.slice Ao34 y116.length co34 : Value).ownBlock ∧ k_ ≠ gb101)) k_ ∧ some k_ ≠ (.slice Ao26 x7_1.length co26 : Value).ownBlock)) (HO121.out) (fun k_ hk => ⟨⟨hk.1, ⟨hk.2.2.1, ⟨hk.2.2.2.1, hk.2.2.2.2⟩⟩⟩, hk.2.1⟩))))
         (case aB => exact (by repeat (first | (with_reducible first | exact HB.out | apply below_alloc | apply pw_below_drewN | apply below_drew1 | refine below_set ?_ GE101.out) | exact HB.out)))
         (case aF => exact (fun k_ hk => ⟨(Nat.le_trans (below_size (by repeat (first | (with_reducible first | exact HB.out | apply below_alloc | apply pw_below_drewN | apply below_drew1 | refine below_set ?_ GE101.out) | exact HB.out))) hk), Kd.fresh' (Kd.R_lt (upR <| HO115.out)) k_ hk, Kd.fresh' (Kd.R_lt (upR <| HO118.out)) k_ hk, Kd.freshB (upB BK101.out) k_ hk⟩))
         (case aO => exact (by (with_reducible repeat (first | apply Kd.N_alloc | apply Kd.N_drewN | apply Kd.N_drew)); exact Kd.N_mono HO_7.out (fun _ hk => ⟨hk.1.1.1, ⟨hk.1.1.2.1, ⟨hk.1.2, hk.1.1.2.2⟩⟩⟩)))
         (case aS => exact (below_size (by repeat (first | (with_reducible first | exact HB.out | apply below_alloc | apply pw_below_drewN | apply below_drew1 | refine below_set ?_ GE101.out) | exact HB.out))))
         (case aL => have := LMc24.out; omega)
         intro v123 w36 ho hb hg hat
         rw [← Ny122.out] at ho
         have n0_ := asd (blk_grown (upB BK101.out) hg (Kd.N_ne HO_7.out BK101.out (by decide)))
         have n1_ := asd (Kd.R_over' (upR <| HO115.out) (Kd.N_typed (by (with_reducible repeat (first | apply Kd.N_alloc | apply Kd.N_drewN | apply Kd.N_drew)); exact HO_7.out)) (by decide) hg)
         have n2_ := asd (Kd.R_over' (upR <| HO118.out) (Kd.N_typed (by (with_reducible repeat (first | apply Kd.N_alloc | apply Kd.N_drewN | apply Kd.N_drew)); exact HO_7.out)) (by decide) hg)
         have n3_ := asd (Kd.N_afterv (ok := (fun k_ => (w.heap.size ≤ k_) ∧ some k_ ≠ (.slice Ao33 y113.length co33 : Value).ownBlock ∧ some k_ ≠ (.slice Ao34 y116.length co34 : Value).ownBlock ∧ k_ ≠ gb101)) (by (with_reducible repeat (first | apply Kd.N_alloc | apply Kd.N_drewN | apply Kd.N_drew)); exact Kd.N_mono HO121.out (fun _ hk => ⟨⟨hk.1, ⟨hk.2.2.1, ⟨hk.2.2.2.1, hk.2.2.2.2⟩⟩⟩, hk.2.1⟩)) hg hat)
         have n4_ := asd (hb)
         have n5_ := asd (ho)
         clear BK101
         clear HO115
         clear HO118
         clear HO121
         clear HB
         clear HO_7
         have BK101 := n0_
         have HO115 := n1_
         have HO118 := n2_
         have HO121 := n3_
         have HB := n4_
         have HO124 := n5_
         clear n0_ n1_ n2_ n3_ n4_ n5_
         clear ho hb hg hat
         refine hK.out _ _ ⟨(blk_cell BK101.out 0).trans rfl, (blk_cell BK101.out 1).trans rfl⟩ (fun hHeld => ?_)
         clear hK K
         refine norm_ (a' := ?_) ?_ ?_
         rotate_left
         ·
          show Act.put _ (some 42) _ = _
          simp only [Act.put, List.setIfInBounds_toArray, List.set_cons_zero, List.set_cons_succ, i64_w, i32_w]
          rfl
         refine pure_ (i := 13) (N := some 7) (v := ?_) (a' := ?_) #[true, true, true, true, true, true, true, true, true, true, true, true, true, true] rfl rfl (any_of HT_.out (by kernel_rfl)) (fun _ _ _ h => h) (Or.inl ⟨by rfl, ?_⟩) ?_ ?_
         rotate_left
         ·
          intro w'
          go_simp
          with_reducible rfl
         rotate_left
         ·
          simp only [Act.put, List.setIfInBounds_toArray, List.set_cons_zero, List.set_cons_succ, i64_w, i32_w]
          rfl
         refine done_ (done_of HT_.out (by kernel_rfl)) ?_
         try go_wp2
         go_roundg k1
         case measure => have := HK1.out; omega
         case rel => exact ⟨(y122), (wrap64 (x9_1 + 1)), (by first | rfl | (simp; done) | (simp [*]; done)), H', ⟨by have := HK1.out; omega⟩, ⟨by (with_reducible repeat (first | apply Kd.N_alloc | apply Kd.N_drewN | apply Kd.N_drew)); exact Kd.N_mono HO124.out (fun _ hk => ⟨hk.1, hk.2.2.2⟩)⟩, ⟨by (with_reducible repeat (first | refine blk_drewN ?_ _ | refine blk_drew ?_ | refine blk_alloc ?_ _)); exact BK101.out⟩, ⟨by repeat (first | (with_reducible first | exact HB.out | apply below_alloc | apply pw_below_drewN | apply below_drew1 | refine below_set ?_ GE101.out) | exact HB.out)⟩⟩
        ·
         rw [if_neg c24] at H
         exact absurd H (by simp)
       ·
        rw [if_neg c21] at H
        exact absurd H (by simp)
      ·
       rw [if_neg c20] at H
       exact absurd H (by simp)
     ·
      replace c18 := Bool.eq_false_iff.mpr c18
      subst c18
      have H1 : (spec_woAll.l0 k1 l1 a2 x7_1 t108 (wrap64 (x9_1 + 1)) a0_0 l0_1) = some r := by rw [if_neg (show ¬ (false = true) by decide)] at H; exact H
      clear H
      have H := H1
      clear H1
      have H' := asd H
      clear H
      have hcz38_0 : wr.cell? ⟨gb101, 0, none⟩ = some (.int .i64 a0_0) := (blk_cell BK101.out 0).trans rfl
      have hcz38_1 : wr.cell? ⟨gb101, 1, none⟩ = some (.slice A0_1 l0_1.length c0_1) := (blk_cell BK101.out 1).trans rfl
      have hfz38_0 := blk_frozen BK101.out 0
      have hfz38_1 := blk_frozen BK101.out 1
      go_wp2_with (first | ((with_reducible refine gate_callee (f := 59) rfl ?_); refine goesL_ (some 29) rfl rfl Try.func59 (by kernel_rfl) rfl #[.int .i64 t108, .int .i64 x9_1] rfl (by (try simp only [List.map_toArray, List.map_cons, List.map_nil]); first | done | rfl | (simp only [List.length_drop, List.length_take]; rfl)) ?_; (with_reducible refine (spec_spIn.calls t108 x9_1 false _ A17.out).mono ?_); rintro e w' ⟨rfl, ⟨nd, rfl⟩⟩; refine ⟨_, rfl, ?_⟩))
      go_roundg k1
      case measure => have := HK1.out; omega
      case rel => exact ⟨(x7_1), (wrap64 (x9_1 + 1)), (by first | rfl | (simp; done) | (simp [*]; done)), H', ⟨by have := HK1.out; omega⟩, ⟨by (with_reducible repeat (first | apply Kd.N_alloc | apply Kd.N_drewN | apply Kd.N_drew)); exact HO_7.out⟩, ⟨by (with_reducible repeat (first | refine blk_drewN ?_ _ | refine blk_drew ?_ | refine blk_alloc ?_ _)); exact BK101.out⟩, ⟨by repeat (first | (with_reducible first | exact HB.out | apply below_alloc | apply pw_below_drewN | apply below_drew1 | refine below_set ?_ GE101.out) | exact HB.out)⟩⟩
    ·
     rw [if_neg c16] at H
     have c16b0 : decide (x9_1 < a0_0) = false := decide_eq_false c16
     clear c16
     obtain rfl := Option.some.inj H
     have hcz39_0 : wr.cell? ⟨gb101, 0, none⟩ = some (.int .i64 a0_0) := (blk_cell BK101.out 0).trans rfl
     have hcz39_1 : wr.cell? ⟨gb101, 1, none⟩ = some (.slice A0_1 l0_1.length c0_1) := (blk_cell BK101.out 1).trans rfl
     have hfz39_0 := blk_frozen BK101.out 0
     have hfz39_1 := blk_frozen BK101.out 1
     go_wp2
     go_ret
     exact ⟨_, by first | rfl | (simp [errW_none, errW_some] <;> rfl) | (simp [*, errW_none, errW_some] <;> rfl), by (with_reducible repeat (first | apply Kd.N_alloc | apply Kd.N_drewN | apply Kd.N_drew)); exact Kd.N_mono HO_7.out (fun _ hk => hk.1), by repeat (first | (with_reducible first | exact HB.out | apply below_alloc | apply pw_below_drewN | apply below_drew1 | refine below_set ?_ GE101.out) | exact HB.out)⟩

-- HAND with spec.woAll+spec.spOuter+spec.spIn+spec.l1Own
theorem own_ok {ws : List Int} (h : ws.length ≤ 1000) : spec_l1Own.f ws = some ws := by
  unfold spec_l1Own.f
  show (if ([] : List Int).length + ws.length < 17592186044416 then _ else _) = _
  rw [if_pos (by simp; omega)]
  rfl
/-- The reference's list of all full words. -/
theorem woAll_ok {n : Int} {l : List Int} (hS : isSpaceB n l = true) : ∀ (d m x : Nat) (ws : List Int), m + d = n.toNat → GInv n.toNat (famOf l) x m → ws.length = m → Ev (fun k => spec_woAll.f k n l ws (x : Int)) (allW (famOf l) d x ws)
  | 0, m, x, ws, hd, hG, hw => by
    obtain ⟨n1, n7, _⟩ := isSpaceB_parts hS
    refine Ev.succ (fun k => by simp only [spec_woAll.f]; rw [if_pos (by omega)]) ?_
    exact Ev.bindc (own_ok (by omega)) (Ev.const rfl)
  | d + 1, m, x, ws, hd, hG, hw => by
    obtain ⟨n1, n7, _⟩ := isSpaceB_parts hS
    have hlen := isSpaceB_len hS
    have hx128 := hG.x128 (n := n.toNat) (by omega)
    have ho : outerF (famOf l) x < 128 := maskOf_lt _
    have HREC := fun (i : Nat) (h1 : GInv n.toNat (famOf l) (x ||| 2 ^ i) (m + 1)) => woAll_ok hS d (m + 1) (x ||| 2 ^ i) (ws ++ [(i : Int)]) (by omega) h1 (by rw [List.length_append, List.length_singleton, hw])
    have hd7 : d ≤ 7 := by omega
    refine Ev.succ (fun k => by simp only [spec_woAll.f]; rw [if_neg (by omega)]) ?_
    have hsp := spOuter_ok hS (by omega) (x : Int) (by omega) (by omega)
    rw [Int.toNat_natCast] at hsp
    refine Ev.bind hsp ?_
    have loop : ∀ (di i : Nat) (acc : List (List Int)), i + di = n.toNat → acc.length ≤ 823543 * i → Ev (fun k => spec_woAll.l0 k ws (x : Int) acc ((outerF (famOf l) x : Nat) : Int) (i : Int) n l) (acc ++ ((List.range' i di).filter fun i => (outerF (famOf l) x).testBit i).flatMap fun (i : Nat) => allW (famOf l) d (x ||| 2 ^ i) (ws ++ [(i : Int)])) := by
      intro di
      induction di with
      | zero =>
        intro i acc hi ha
        refine Ev.succ (g := fun _ => some acc) (fun k => by simp only [spec_woAll.l0]; rw [if_neg (by omega)]) (Ev.const ?_)
        show some acc = some (acc ++ [])
        rw [List.append_nil]
      | succ di ih =>
        intro i acc hi ha
        have hz1 : (i : Int) < n := by omega
        have hz2 : (0 : Int) ≤ (i : Int) := by omega
        have hi2 : i + 1 + di = n.toNat := by omega
        have hi7 : i < 7 := by omega
        have h2i : 2 ^ i < 128 := two_lt128 hi7
        have HWS : Aside0 (wrap64 ((i : Int) + 1) = ((i + 1 : Nat) : Int)) := ⟨by rw [wrap_succ (by omega) (by omega)]; push_cast; rfl⟩
        have HBITS : Aside0 (Go.bits .or .i64 (x : Int) (shl .i64 1 (i : Int)) = ((x ||| 2 ^ i : Nat) : Int)) := ⟨by rw [shl_one i (by omega), bits_or x (2 ^ i) (by omega) (by omega)]⟩
        rw [List.range'_succ, List.filter_cons]
        refine Ev.succ (fun k => by simp only [spec_woAll.l0]; rw [if_pos hz1]) ?_
        refine Ev.bindc (spIn_ok (outerF (famOf l) x) i (by omega)) ?_
        by_cases hob : (outerF (famOf l) x).testBit i = true
        · obtain ⟨_, _, hG2⟩ := outer_next hS hG hob
          have hal : (allW (famOf l) d (x ||| 2 ^ i) (ws ++ [(i : Int)])).length ≤ 823543 := by rw [allW_len]; exact cntW_small _ hd7 _
          rw [if_pos hob, List.flatMap_cons, ← List.append_assoc]
          refine Ev.to (fun k => by rw [hob, if_pos rfl]) ?_
          refine Ev.bindc (own_ok (by omega)) ?_
          refine Ev.bindc rfl ?_
          refine Ev.to (fun k => by rw [if_pos (by rw [List.length_singleton]; omega), if_pos hz2, HBITS.out]) ?_
          refine Ev.bind (HREC i hG2) ?_
          refine Ev.to (fun k => by rw [if_pos (by omega), HWS.out]) ?_
          exact ih (i + 1) _ hi2 (by rw [List.length_append]; omega)
        · rw [if_neg hob]
          exact Ev.to (fun k => by rw [if_neg hob, HWS.out]) (ih (i + 1) acc hi2 (by omega))
    have key := loop n.toNat 0 [] (by omega) (Nat.zero_le _)
    have hitems : ((List.range' 0 n.toNat).filter fun i => (outerF (famOf l) x).testBit i) = itemsN (outerF (famOf l) x) := by
      unfold itemsN
      rw [show [0, 1, 2, 3, 4, 5, 6] = List.range' 0 7 from rfl, show (7 : Nat) = n.toNat + (7 - n.toNat) by omega, ← List.range'_append_1, List.filter_append]
      rw [show ((List.range' (0 + n.toNat) (7 - n.toNat)).filter fun i => (outerF (famOf l) x).testBit i) = [] from List.filter_eq_nil_iff.2 (fun j hj hb => by
        have h1 := (outer_next hS hG hb).1
        have h2 := List.mem_range'_1.1 hj
        omega), List.append_nil]
    rw [hitems] at key
    exact key

end Go.Proofs.Ytkepeflplmkcmaa.Q
