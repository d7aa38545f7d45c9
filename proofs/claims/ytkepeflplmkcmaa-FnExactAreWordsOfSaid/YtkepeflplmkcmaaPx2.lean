/- Contracts of functions that the laws reach: a call returns what the plain Lean function of the same name tells. Conditions: those of each theorem. Made by gen.py, a program of this session, over the print of the translation. -/
import Derived.Test.YtkepeflplmkcmaaPx0
import Derived.Test.YtkepeflplmkcmaaPx1
namespace Go.Proofs.Ytkepeflplmkcmaa.Q
open Go.RowKit Go.Proofs.YtkepeflplmkcmaaW.PrintWords Go.Proofs.YtkepeflplmkcmaaW.PrintLast Go.Proofs.YtkepeflplmkcmaaW.PrintMore
attribute [local go_sem] max2_int min2_int max_two min_two max_three min_three max_four min_four   -- for this text's walks alone
set_option linter.unusedVariables false
set_option linter.unusedSimpArgs false

-- HAND lib outernext
theorem outer_next {n : Int} {l : List Int} (hS : isSpaceB n l = true) {x m b : Nat} (h : GInv n.toNat (famOf l) x m) (hb : (outerF (famOf l) x).testBit b = true) : b < n.toNat ∧ x.testBit b = false ∧ GInv n.toNat (famOf l) (x ||| 2 ^ b) (m + 1) := by
  obtain ⟨n1, n7, _⟩ := isSpaceB_parts hS
  have hn7 : n.toNat ≤ 7 := by omega
  have hb7 : b < 7 := by
    apply Classical.byContradiction
    intro hc
    have ho : outerF (famOf l) x < 2 ^ 7 := maskOf_lt _
    have := Nat.testBit_lt_two_pow (Nat.lt_of_lt_of_le ho (Nat.pow_le_pow_right (by decide) (Nat.le_of_not_lt hc)))
    rw [hb] at this
    cases this
  have hb2 := hb
  unfold outerF at hb2
  rw [maskOf_bit _ _ hb7, Bool.and_eq_true, Bool.not_eq_true'] at hb2
  have hlt : b < n.toNat := by
    have hm := isSpaceB_mem hS _ (fam_mem hb2.2)
    have hlt : x ||| 2 ^ b < 2 ^ n.toNat := by exact_mod_cast hm.2
    apply Classical.byContradiction
    intro hc
    have := Nat.testBit_lt_two_pow (Nat.lt_of_lt_of_le hlt (Nat.pow_le_pow_right (by decide) (Nat.le_of_not_lt hc)))
    rw [or_on] at this
    cases this
  refine ⟨hlt, hb2.1, ⟨hb2.2, Nat.or_lt_two_pow h.lt (Nat.pow_lt_pow_right (by decide) hlt), ?_⟩⟩
  exact (cnt_or ⟨x, h.x128 hn7⟩ ⟨b, hb7⟩ hb2.1).trans (by rw [h.cnt])

-- HAND lib tzK
/-- The first item of a set. -/
def tzN (x : Nat) : Nat := (itemsN x).headD 0
/-- The paths of a space. -/
def pathsL (F : List Bool) (l : List Int) : List Int := l.filter fun x => decide (cntN (innerF F x.toNat) = 1)
/-- The end of a path. -/
def endN (F : List Bool) (x : Int) : Nat := tzN (innerF F x.toNat)
def pathsToL (F : List Bool) (l : List Int) (i : Int) : List Int := (pathsL F l).filter fun x => decide ((endN F x : Int) = i)
/-- How many items from i on are ends of more than one path. -/
def moreN (F : List Bool) (l : List Int) : Nat → Nat → Int → Int
  | 0, _, a => a
  | d + 1, i, a => moreN F l d (i + 1) (if 1 < (pathsToL F l i).length then a + 1 else a)
-- HAND lib pairs
theorem rd_set (l : List Int) {i : Nat} (h : i < l.length) (a : Int) (j : Nat) : rd (l.set i a) (j : Int) = if i = j then a else rd l j := by
 unfold rd
 rw [Int.toNat_natCast, List.getD_eq_getElem?_getD, List.getD_eq_getElem?_getD, List.getElem?_set]
 by_cases e : i = j
 ·
  rw [if_pos e, if_pos h, if_pos e]
  rfl
 ·
  rw [if_neg e, if_neg e]
/-- How many are not tried. -/
def unT (t : List Bool) : Nat := t.countP fun x => !x
/-- How many are numbers. -/
def cntP (l : List Int) : Nat := l.countP fun x => decide (0 ≤ x)
/-- What is ahead and what follows tell the same pairs. -/
structure Pair (n : Nat) (b o : List Int) : Prop where
 lb : b.length = n
 lo : o.length = n
 rb : ∀ x : Nat, x < n → -1 ≤ rd b x ∧ rd b x < n
 ro : ∀ x : Nat, x < n → -1 ≤ rd o x ∧ rd o x < n
 bo : ∀ x y : Nat, x < n → y < n → (rd b x = y ↔ rd o y = x)
 up : ∀ y : Nat, y < n → 0 ≤ rd o y → (y : Int) < rd o y
/-- Behind a search from v that found one. -/
structure Got (n v : Nat) (b o : List Int) (t : List Bool) (b' o' : List Int) : Prop where
 lb : b'.length = n
 lo : o'.length = n
 rb : ∀ x : Nat, x < n → -1 ≤ rd b' x ∧ rd b' x < n
 ro : ∀ x : Nat, x < n → -1 ≤ rd o' x ∧ rd o' x < n
 seen : ∀ y : Nat, y < n → rdOf false t y = true → rd o' y = rd o y
 keep : ∀ x : Nat, x < n → x ≠ v → (rd b x < 0 ∨ rdOf false t (rd b x) = true) → rd b' x = rd b x
 bo : ∀ x y : Nat, x < n → y < n → (y : Int) ≠ rd b v → (rd b' x = y ↔ rd o' y = x)
 stale : ∀ x : Nat, x < n → 0 ≤ rd b v → rd b' x ≠ rd b v
 up : ∀ y : Nat, y < n → 0 ≤ rd o' y → (y : Int) < rd o' y
 cb : cntP b' = cntP b + (if rd b v < 0 then 1 else 0)
 co : cntP o' = cntP o + 1
theorem nat_of {x : Int} {n : Nat} (h0 : 0 ≤ x) (h1 : x < n) : ∃ j : Nat, j < n ∧ x = j := ⟨x.toNat, by omega, by omega⟩
theorem Got.mono {n v : Nat} {b o b' o' : List Int} {t t2 : List Bool} (h : Got n v b o t2 b' o') (hP : Pair n b o) (ht : ∀ y : Nat, rdOf false t y = true → rdOf false t2 y = true) : Got n v b o t b' o' :=
 ⟨h.lb, h.lo, h.rb, h.ro, fun y hy hs => h.seen y hy (ht y hs), fun x hx hne hc => h.keep x hx hne (by
  by_cases h0 : rd b x < 0
  ·
   exact .inl h0
  ·
   obtain ⟨j, hj, e⟩ := nat_of (by omega) (hP.rb x hx).2
   have := hc.resolve_left h0
   rw [e] at this
   exact .inr (by rw [e]; exact ht j this)), h.bo, h.stale, h.up, h.cb, h.co⟩
-- HAND lib pathsup
theorem pairwise_of_rise {l : List Int} (h : Rise l) : l.Pairwise (· < ·) := by
  rw [List.pairwise_iff_getElem]
  intro i j hi hj hij
  have := h i j hij hj
  rwa [rd_get hi, rd_get hj] at this
-- HAND lib famfacts
theorem all_nat {n x : Nat} : (x : Int) = 2 ^ n - 1 ↔ x = 2 ^ n - 1 := by
  have h4 : (2 : Int) ^ n = ((2 ^ n : Nat) : Int) := by push_cast; rfl
  have h3 : 0 < 2 ^ n := Nat.pow_pos (by decide)
  rw [h4]
  generalize 2 ^ n = N at *
  omega
theorem drop_far {l : List Int} (hr : Rise l) {j : Nat} (hj : j < l.length) {v : Int} (hv : v ∈ l) (hgt : rd l (j : Int) < v) : v ∈ l.drop (j + 1) := by
  obtain ⟨q, hq, e⟩ := List.mem_iff_getElem.1 hv
  have hqj : j < q := by
    rcases Nat.lt_or_ge j q with h | h
    · exact h
    · rcases Nat.lt_or_ge q j with h2 | h2
      · have := hr q j h2 hj
        rw [rd_get hq] at this
        omega
      · obtain rfl : q = j := by omega
        rw [rd_get hq] at hgt
        omega
  refine List.mem_iff_getElem.2 ⟨q - (j + 1), by rw [List.length_drop]; omega, ?_⟩
  rw [List.getElem_drop]
  rw [← e]
  congr 1
  omega
theorem mem_fam_nat {l : List Int} {x : Nat} (h : (x : Int) ∈ l) (h1 : x < 128) : (famOf l).getD x false = true := by
  have := mem_fam h (by omega) (by omega)
  rwa [Int.toNat_natCast] at this
theorem cnt_most_ : ∀ (n : Fin 8) (x : Fin 128), x.val < 2 ^ n.val → cntN x.val ≤ n.val := by decide +kernel
theorem cnt_most {n x : Nat} (hn : n ≤ 7) (h : x < 2 ^ n) : cntN x ≤ n := by
  have e : 2 ^ n ≤ 2 ^ 7 := Nat.pow_le_pow_right (by decide) hn
  exact cnt_most_ ⟨n, by omega⟩ ⟨x, by omega⟩ h

-- HAND lib allw
/-- All full words that go on a word, in order. -/
def allW (F : List Bool) : Nat → Nat → List Int → List (List Int)
  | 0, _, ws => [ws]
  | d + 1, x, ws => (itemsN (outerF F x)).flatMap fun (i : Nat) => allW F d (x ||| 2 ^ i) (ws ++ [(i : Int)])
def addV (v : Nat → Nat) (x : Nat) (s : Nat) (i : Nat) : Nat := s + v (x ||| 2 ^ i)
/-- How many words lead from a set to all items. -/
def cntW (F : List Bool) : Nat → Nat → Nat
  | 0, _ => 1
  | d + 1, x => (itemsN (outerF F x)).foldl (addV (cntW F d) x) 0
theorem addV_zero (v : Nat → Nat) (x i : Nat) : addV v x 0 i = v (x ||| 2 ^ i) := Nat.zero_add _
theorem addV_from (v : Nat → Nat) (x : Nat) : ∀ (I : List Nat) (s : Nat), I.foldl (addV v x) s = s + I.foldl (addV v x) 0
  | [], s => rfl
  | i :: I, s => by
    rw [List.foldl_cons, List.foldl_cons, addV_from v x I (addV v x s i), addV_from v x I (addV v x 0 i)]
    unfold addV
    omega
theorem cntW_le (F : List Bool) : ∀ (d x : Nat), cntW F d x ≤ 7 ^ d
  | 0, _ => Nat.le_refl _
  | d + 1, x => by
    have hl : (itemsN (outerF F x)).length ≤ 7 := List.length_filter_le _ _
    have key : ∀ I : List Nat, I.foldl (addV (cntW F d) x) 0 ≤ I.length * 7 ^ d := by
      intro I
      induction I with
      | nil => exact Nat.zero_le _
      | cons i I ih =>
        have h1 := cntW_le F d (x ||| 2 ^ i)
        rw [List.foldl_cons, addV_from (cntW F d) x I (addV (cntW F d) x 0 i), List.length_cons, Nat.succ_mul, addV_zero]
        omega
    have h2 := key (itemsN (outerF F x))
    show (itemsN (outerF F x)).foldl (addV (cntW F d) x) 0 ≤ 7 ^ (d + 1)
    rw [Nat.pow_succ]
    have h3 := Nat.mul_le_mul_right (7 ^ d) hl
    omega
theorem cntW_small (F : List Bool) {d : Nat} (h : d ≤ 7) (x : Nat) : cntW F d x ≤ 823543 := Nat.le_trans (cntW_le F d x) (Nat.pow_le_pow_right (n := 7) (by decide) h)
/-- One word after the other is told to a visitor, while it goes on. -/
def foldS {σ : Type} (D : σ → List Int → Option (σ × Bool)) : List (List Int) → σ → Bool → Option (σ × Bool)
  | [], st, g => some (st, g)
  | w :: L, st, g => if g = true then (D st w).bind fun r => foldS D L r.1 r.2 else some (st, g)
-- HAND lib cmpw
/-- Lists of numbers, one against the other. -/
def cmpL : List Int → List Int → Int
 | [], [] => 0
 | [], _ :: _ => -1
 | _ :: _, [] => 1
 | a :: s, b :: t => if a < b then -1 else if b < a then 1 else cmpL s t
theorem cmpL_self : ∀ s : List Int, cmpL s s = 0
 | [] => rfl
 | a :: s => by
  show (if a < a then (-1 : Int) else if a < a then 1 else cmpL s s) = 0
  rw [if_neg (Int.lt_irrefl a), if_neg (Int.lt_irrefl a)]
  exact cmpL_self s
theorem cmpL_flip : ∀ s t : List Int, cmpL t s = -cmpL s t
 | [], [] => rfl
 | [], _ :: _ => rfl
 | _ :: _, [] => rfl
 | a :: s, b :: t => by
  have h := cmpL_flip s t
  show (if b < a then (-1 : Int) else if a < b then 1 else cmpL t s) = -(if a < b then (-1 : Int) else if b < a then 1 else cmpL s t)
  by_cases h1 : a < b
  ·
   rw [if_pos h1, if_neg (by omega), if_pos h1]
   rfl
  ·
   by_cases h2 : b < a
   ·
    rw [if_pos h2, if_neg h1, if_pos h2]
   ·
    rw [if_neg h2, if_neg h1, if_neg h1, if_neg h2]
    exact h
theorem cmpL_eq : ∀ s t : List Int, cmpL s t = 0 → s = t
 | [], [], _ => rfl
 | [], _ :: _, h => by cases h
 | _ :: _, [], h => by cases h
 | a :: s, b :: t, h0 => by
  have h : (if a < b then (-1 : Int) else if b < a then 1 else cmpL s t) = 0 := h0
  clear h0
  by_cases h1 : a < b
  ·
   rw [if_pos h1] at h
   cases h
  ·
   by_cases h2 : b < a
   ·
    rw [if_neg h1, if_pos h2] at h
    cases h
   ·
    rw [if_neg h1, if_neg h2] at h
    obtain rfl : a = b := by omega
    rw [cmpL_eq s t h]
theorem cmpL_trans : ∀ s t u : List Int, cmpL s t < 0 → cmpL t u < 0 → cmpL s u < 0
 | [], [], _, h, _ => by cases h
 | [], _ :: _, [], _, h => by cases h
 | [], _ :: _, _ :: _, _, _ => show (-1 : Int) < 0 by decide
 | _ :: _, [], _, h, _ => by cases h
 | _ :: _, _ :: _, [], _, h => by cases h
 | a :: s, b :: t, c :: u, g1, g2 => by
  have h1 : (if a < b then (-1 : Int) else if b < a then 1 else cmpL s t) < 0 := g1
  have h2 : (if b < c then (-1 : Int) else if c < b then 1 else cmpL t u) < 0 := g2
  clear g1 g2
  show (if a < c then (-1 : Int) else if c < a then 1 else cmpL s u) < 0
  by_cases k1 : a < b
  ·
   by_cases k2 : b < c
   ·
    rw [if_pos (by omega)]; decide
   ·
    rw [if_neg k2] at h2
    by_cases k3 : c < b
    ·
     rw [if_pos k3] at h2; exact absurd h2 (by decide)
    ·
     rw [if_pos (by omega)]; decide
  ·
   rw [if_neg k1] at h1
   by_cases k3 : b < a
   ·
    rw [if_pos k3] at h1; exact absurd h1 (by decide)
   ·
    rw [if_neg k3] at h1
    obtain rfl : a = b := by omega
    by_cases k2 : a < c
    ·
     rw [if_pos k2]; decide
    ·
     rw [if_neg k2] at h2 ⊢
     by_cases k4 : c < a
     ·
      rw [if_pos k4] at h2; exact absurd h2 (by decide)
     ·
      rw [if_neg k4] at h2 ⊢
      exact cmpL_trans s t u h1 h2
theorem cmpL_ntrans (s t u : List Int) (h1 : ¬cmpL s t < 0) (h2 : ¬cmpL t u < 0) : ¬cmpL s u < 0 := by
 intro h
 by_cases e1 : cmpL s t = 0
 ·
  rw [cmpL_eq s t e1] at h
  exact h2 h
 ·
  by_cases e2 : cmpL t u = 0
  ·
   rw [cmpL_eq t u e2] at h1
   exact h1 h
  ·
   have f1 := cmpL_flip s t
   have f2 := cmpL_flip t u
   have h3 := cmpL_trans u t s (by omega) (by omega)
   have f3 := cmpL_flip s u
   omega
/-- How often an entry is another than the one before it. -/
def adjL : List (List Int) → Nat
 | a :: b :: t => (if b = a then 0 else 1) + adjL (b :: t)
 | _ => 0
/-- Without those that are as the one before. -/
def compL : List (List Int) → List (List Int)
 | a :: b :: t => if b = a then compL (b :: t) else a :: compL (b :: t)
 | [a] => [a]
 | [] => []
theorem comp_len : ∀ L : List (List Int), L ≠ [] → (compL L).length = 1 + adjL L
 | [], h => absurd rfl h
 | [a], _ => rfl
 | a :: b :: t, _ => by
  have h := comp_len (b :: t) (by simp)
  unfold compL adjL
  by_cases e : b = a
  ·
   rw [if_pos e, if_pos e, h]
   omega
  ·
   rw [if_neg e, if_neg e, List.length_cons, h]
   omega
theorem comp_mem (x : List Int) : ∀ L : List (List Int), x ∈ compL L ↔ x ∈ L
 | [] => Iff.rfl
 | [a] => Iff.rfl
 | a :: b :: t => by
  have h := comp_mem x (b :: t)
  unfold compL
  by_cases e : b = a
  ·
   rw [if_pos e, h]
   subst e
   simp
  ·
   rw [if_neg e, List.mem_cons, List.mem_cons, h]
theorem comp_lt : ∀ L : List (List Int), L.Pairwise (fun a b => ¬cmpL b a < 0) → (compL L).Pairwise (fun a b => cmpL a b < 0)
 | [], _ => List.Pairwise.nil
 | [a], _ => List.pairwise_singleton _ _
 | a :: b :: t, h => by
  obtain ⟨h1, h2⟩ := List.pairwise_cons.1 h
  have ih := comp_lt (b :: t) h2
  unfold compL
  by_cases e : b = a
  ·
   rw [if_pos e]
   exact ih
  ·
   rw [if_neg e]
   refine List.pairwise_cons.2 ⟨fun z hz => ?_, ih⟩
   have hz' := (comp_mem z (b :: t)).1 hz
   have hb := h1 b (by simp)
   have hza := h1 z hz'
   have hzb : ¬cmpL z b < 0 := by
    rcases List.mem_cons.1 hz' with rfl | hz'
    ·
     rw [cmpL_self]; decide
    ·
     exact (List.pairwise_cons.1 h2).1 z hz'
   rcases Int.lt_trichotomy (cmpL a z) 0 with k | k | k
   ·
    exact k
   ·
    exfalso
    have hz2 := cmpL_eq a z k
    subst hz2
    have f := cmpL_flip a b
    exact e (cmpL_eq b a (by omega))
   ·
    exfalso
    have f := cmpL_flip a z
    exact hza (by omega)
theorem comp_nodup {L : List (List Int)} (h : L.Pairwise (fun a b => ¬cmpL b a < 0)) : (compL L).Nodup :=
 (comp_lt L h).imp fun {a b} hab e => by
  rw [e, cmpL_self] at hab
  exact absurd hab (by decide)
/-- Each list once, in the order of the first. -/
def distL : List (List Int) → List (List Int) → List (List Int)
 | D, [] => D
 | D, w :: ws => distL (if w ∈ D then D else D ++ [w]) ws
theorem dist_ok : ∀ (ws D : List (List Int)), D.Nodup → (distL D ws).Nodup ∧ ∀ x, x ∈ distL D ws ↔ x ∈ D ∨ x ∈ ws
 | [], D, h => ⟨h, fun x => by simp [distL]⟩
 | w :: ws, D, h => by
  unfold distL
  by_cases e : w ∈ D
  ·
   rw [if_pos e]
   obtain ⟨h1, h2⟩ := dist_ok ws D h
   refine ⟨h1, fun x => ?_⟩
   rw [h2, List.mem_cons]
   constructor
   ·
    rintro (h | h)
    ·
     exact .inl h
    ·
     exact .inr (.inr h)
   ·
    rintro (h | rfl | h)
    ·
     exact .inl h
    ·
     exact .inl e
    ·
     exact .inr h
  ·
   rw [if_neg e]
   obtain ⟨h1, h2⟩ := dist_ok ws (D ++ [w]) (List.nodup_append.2 ⟨h, by simp, fun a ha b hb hab => by
    rw [List.mem_singleton] at hb
    exact e (hb ▸ hab ▸ ha)⟩)
   refine ⟨h1, fun x => ?_⟩
   rw [h2, List.mem_append, List.mem_singleton, List.mem_cons, or_assoc]
theorem nodup_le2 {α : Type} [DecidableEq α] : ∀ (l m : List α), l.Nodup → (∀ x ∈ l, x ∈ m) → l.length ≤ m.length
 | [], m, _, _ => Nat.zero_le _
 | x :: l, m, hn, hs => by
  have hx := hs x List.mem_cons_self
  have h1 := nodup_le2 l (m.erase x) (List.nodup_cons.1 hn).2 (fun y hy => by
   have hne : y ≠ x := fun e => (List.nodup_cons.1 hn).1 (e ▸ hy)
   exact (List.mem_erase_of_ne hne).2 (hs y (List.mem_cons_of_mem _ hy)))
  rw [List.length_erase_of_mem hx] at h1
  have := List.length_pos_of_mem hx
  rw [List.length_cons]
  omega
/-- Sorted and without doubles there are as many as there are different ones. -/
theorem comp_dist {ws L : List (List Int)} (hp : ∀ x, x ∈ L ↔ x ∈ ws) (h : L.Pairwise (fun a b => ¬cmpL b a < 0)) : (compL L).length = (distL [] ws).length := by
 obtain ⟨h1, h2⟩ := dist_ok ws [] List.nodup_nil
 have h3 := comp_nodup h
 refine Nat.le_antisymm (nodup_le2 _ _ h3 fun x hx => ?_) (nodup_le2 _ _ h1 fun x hx => ?_)
 ·
  exact (h2 x).2 (.inr ((hp x).1 ((comp_mem x L).1 hx)))
 ·
  rcases (h2 x).1 hx with h | h
  ·
   cases h
  ·
   exact (comp_mem x L).2 ((hp x).2 h)
theorem adj_drop {L : List (List Int)} {j : Nat} (h : j + 1 < L.length) : adjL (L.drop j) = (if L[j + 1] = L[j] then 0 else 1) + adjL (L.drop (j + 1)) := by
 rw [List.drop_eq_getElem_cons (show j < L.length by omega), List.drop_eq_getElem_cons h]
 rfl
theorem adj_end {L : List (List Int)} {j : Nat} (h : L.length ≤ j + 1) : adjL (L.drop j) = 0 := by
 have hl : (L.drop j).length ≤ 1 := by rw [List.length_drop]; omega
 match hd : L.drop j, hl with
 | [], _ => rfl
 | [_], _ => rfl

-- HAND lib rowsw
/-- The headers of lists that lie in memory. -/
def hdW (Ad : Nat → Option Addr) (cp : Nat → Nat) (ws : List (List Int)) (i : Nat) : Value := .slice (Ad i) (ws.getD i []).length (cp i)
def KW (Ad : Nat → Option Addr) (cp : Nat → Nat) (ws : List (List Int)) : Kd Nat := Kd.scalar (hdW Ad cp ws) (fun _ => rfl)
/-- What the headers lead to. -/
def RdW (w : World) (Ad : Nat → Option Addr) (cp : Nat → Nat) (ws : List (List Int)) : Prop := ∀ i, i < ws.length → Kd.C (Kd.int .i64) w (Ad i) (ws.getD i []).length (ws.getD i []) ∧ (ws.getD i []).length ≤ cp i
theorem RdW.below {w w' : World} {Ad : Nat → Option Addr} {cp : Nat → Nat} {ws : List (List Int)} (h : RdW w Ad cp ws) (hb : Below w.heap.size w w') : RdW w' Ad cp ws := fun i hi => ⟨Kd.C_below (h i hi).1 hb, (h i hi).2⟩
theorem heads_of {w : World} {A : Option Addr} {e : Nat} {ws : List (List Int)} (h : Kd.C (Kd.slice e (Kd.int .i64)) w A ws.length ws) : ∃ (Ad : Nat → Option Addr) (cp : Nat → Nat), Kd.C (KW Ad cp ws) w A (List.range ws.length).length (List.range ws.length) ∧ RdW w Ad cp ws := by
  have h1 : ∀ i : Nat, ∃ ac : Option Addr × Nat, i < ws.length → (∃ ad, A = some ad ∧ w.cell? (ad.add i) = some (.slice ac.1 (ws.getD i []).length ac.2)) ∧ Kd.C (Kd.int .i64) w ac.1 (ws.getD i []).length (ws.getD i []) ∧ (ws.getD i []).length ≤ ac.2 := by
    intro i
    by_cases hi : i < ws.length
    · obtain ⟨ad, e1, hc⟩ := h.2.2 (by omega)
      obtain ⟨c, hs, hr, hcell⟩ := hc i _ (List.getElem?_eq_getElem hi)
      obtain ⟨A1, c1, rfl, hle, hC⟩ := hr
      have e2 : ws.getD i [] = ws[i] := by simp [List.getD, hi]
      refine ⟨(A1, c1), fun _ => ?_⟩
      rw [e2]
      refine ⟨⟨ad, e1, ?_⟩, hC, hle⟩
      have h3 := hcell 0 _ rfl
      rw [show i * (Kd.slice e (Kd.int .i64)).sz + 0 = i from Nat.mul_one i] at h3
      exact h3
    · exact ⟨(none, 0), fun h => absurd h hi⟩
  obtain ⟨f, hf⟩ := Classical.axiomOfChoice h1
  refine ⟨fun i => (f i).1, fun i => (f i).2, ⟨rfl, by rw [List.length_range]; exact Kd.C_max h, fun hp => ?_⟩, fun i hi => ⟨(hf i hi).2.1, (hf i hi).2.2⟩⟩
  rw [List.length_range] at hp
  obtain ⟨ad, e1, _⟩ := (hf 0 hp).1
  refine ⟨ad, e1, fun j p hj => ?_⟩
  have hjl : j < ws.length := by
    have := (List.getElem?_eq_some_iff.1 hj).1
    rw [List.length_range] at this
    exact this
  obtain rfl : j = p := by
    have := (List.getElem?_eq_some_iff.1 hj).2
    rw [List.getElem_range] at this
    exact this
  refine ⟨[hdW (fun i => (f i).1) (fun i => (f i).2) ws j], rfl, rfl, fun i u hu => ?_⟩
  match i, hu with
  | 0, hu =>
    obtain rfl := Option.some.inj hu
    obtain ⟨ad2, e2, hc⟩ := (hf j hjl).1
    rw [e1] at e2
    obtain rfl := Option.some.inj e2
    rw [show j * (KW (fun i => (f i).1) (fun i => (f i).2) ws).sz + 0 = j from Nat.mul_one j]
    exact hc

/-! ### laws_szIntS: function 42 -/
def laws_szIntS.f (l0 : List Int) (a1 : Int) : Option (Int) := if (wrap64 (a1 - (l0.length : Int))) < 0 then (some (-1)) else (some (wrap64 (a1 - (l0.length : Int))))
set_option maxHeartbeats 8000000 in
set_option maxRecDepth 100000 in
theorem laws_szIntS.calls (A0 : Option Addr) (c0 : Nat) (l0 : List Int) (a1 : Int) (r : Int) (w : World) (hr0 : Kd.C (Kd.int .i64) w A0 l0.length l0) (hc0 : l0.length ≤ c0) (h : laws_szIntS.f l0 a1 = some r) :
    Calls Try.prog 42 #[.slice A0 l0.length c0, .int .i64 a1] w fun e w' => e = .returned (.int .i64 r) ∧ Drawn0 w w' := by
  have HR0 := Aside0.mk hr0
  have HC0 := Aside0.mk hc0
  clear hr0 hc0
  have H : (if (wrap64 (a1 - (l0.length : Int))) < 0 then (some (-1)) else (some (wrap64 (a1 - (l0.length : Int))))) = some r := h
  clear h
  by_cases c3 : (wrap64 (a1 - (l0.length : Int))) < 0
  · rw [if_pos c3] at H
    have c3b0 : decide ((wrap64 (a1 - (l0.length : Int))) < 0) = true := decide_eq_true c3
    clear c3
    obtain rfl := Option.some.inj H
    go_enter Try.func42, Try.ntmps42
    go_wp2
    go_ret
    exact ⟨by first | rfl | (simp; done) | (simp [*]; done), by repeat (first | exact Drawn0.refl _ | apply Drawn0.step)⟩
  · rw [if_neg c3] at H
    have c3b0 : decide ((wrap64 (a1 - (l0.length : Int))) < 0) = false := decide_eq_false c3
    clear c3
    obtain rfl := Option.some.inj H
    go_enter Try.func42, Try.ntmps42
    go_wp2
    go_ret
    exact ⟨by first | rfl | (simp; done) | (simp [*]; done), by repeat (first | exact Drawn0.refl _ | apply Drawn0.step)⟩

/-! ### laws_szSpace: function 11 -/
def laws_szSpace.f (a0_0 : Int) (l0_1 : List Int) (a1 : Int) : Option (Int) := (laws_szIntS.f l0_1 a1).bind fun t102 => (if t102 < 0 then (some (-1)) else (some t102))
set_option maxHeartbeats 8000000 in
set_option maxRecDepth 100000 in
theorem laws_szSpace.calls (a0_0 : Int) (A0_1 : Option Addr) (c0_1 : Nat) (l0_1 : List Int) (a1 : Int) (r : Int) (w : World) (hr0_1 : Kd.C (Kd.int .i64) w A0_1 l0_1.length l0_1) (hc0_1 : l0_1.length ≤ c0_1) (h : laws_szSpace.f a0_0 l0_1 a1 = some r) :
    Calls Try.prog 11 #[.agg #[.int .i64 a0_0, .slice A0_1 l0_1.length c0_1], .int .i64 a1] w fun e w' => e = .returned (.int .i64 r) ∧ Below w.heap.size w w' := by
  have hu24 := Try.underlying24
  have HR0_1 := Aside0.mk hr0_1
  have HC0_1 := Aside0.mk hc0_1
  clear hr0_1 hc0_1
  have HB := Aside0.mk (Below.refl w.heap.size w)
  have H : ((laws_szIntS.f l0_1 a1).bind fun t102 => (if t102 < 0 then (some (-1)) else (some t102))) = some r := h
  clear h
  replace H := Option.bind_eq_some_iff.mp H
  obtain ⟨t102, A30, H⟩ := H
  replace H : (if t102 < 0 then (some (-1)) else (some t102)) = some r := H
  have A3 := Aside0.mk A30
  clear A30
  by_cases c4 : t102 < 0
  · rw [if_pos c4] at H
    have c4b0 : decide (t102 < 0) = true := decide_eq_true c4
    clear c4
    obtain rfl := Option.some.inj H
    go_enter Try.func11, Try.ntmps11
    go_wp2_with (first | ((with_reducible refine gate_dst (N := 2) rfl ?_); refine box_event ?hg (N := 2) ?hd (cs := #[.int .i64 a0_0, .slice A0_1 l0_1.length c0_1]) (t := 24) ?hr ?_; (case hd => rfl); (case hg => rfl); (case hr => first | (go_simp; done) | (go_simp; rfl)); intro gb101 hg w5 hbox hb; have n0_ := Aside0.mk (below_step (by repeat (first | (with_reducible first | exact HB.out | apply below_alloc | apply pw_below_drewN | apply below_drew1) | exact HB.out)) hb); have n1_ := Aside0.mk (hbox); have n2_ := Aside0.mk ((by rw [hg]; exact (below_size (by repeat (first | (with_reducible first | exact HB.out | apply below_alloc | apply pw_below_drewN | apply below_drew1) | exact HB.out))) : w.heap.size ≤ gb101)); have n3_ := Aside0.mk ((by rw [hg]; exact (below_size (by repeat (first | (with_reducible first | exact HB.out | apply below_alloc | apply pw_below_drewN | apply below_drew1) | exact HB.out))) : w.heap.size ≤ gb101)); clear HB; have HB := n0_; have BK101 := n1_; have GW101 := n2_; have GE101 := n3_; clear n0_ n1_ n2_ n3_; clear hb hbox hg; have hcz6_0 : w5.cell? ⟨gb101, 0, none⟩ = some (.int .i64 a0_0) := (blk_cell BK101.out 0).trans rfl; have hcz6_1 : w5.cell? ⟨gb101, 1, none⟩ = some (.slice A0_1 l0_1.length c0_1) := (blk_cell BK101.out 1).trans rfl; have hfz6_0 := blk_frozen BK101.out 0; have hfz6_1 := blk_frozen BK101.out 1) | ((with_reducible refine gate_callee (f := 42) rfl ?_); refine goesL_ (some 8) rfl rfl Try.func42 (by kernel_rfl) rfl #[.slice A0_1 l0_1.length c0_1, .int .i64 a1] rfl (by (try simp only [List.map_toArray, List.map_cons, List.map_nil]); first | done | rfl | (simp only [List.length_drop, List.length_take]; rfl)) ?_; (with_reducible refine (laws_szIntS.calls _ _ l0_1 a1 t102 _ ?side1 ?side2 A3.out).mono ?_); (case side1 => repeat (first | exact (Kd.C_below HR0_1.out HB.out) | (with_reducible refine Kd.C_alloc ?_ _) | (with_reducible refine Kd.C_drewN ?_ _) | (with_reducible refine Kd.C_drew ?_))); (case side2 => exact HC0_1.out); rintro e w' ⟨rfl, ⟨nd, rfl⟩⟩; refine ⟨_, rfl, ?_⟩))
    go_ret
    exact ⟨by first | rfl | (simp [errW_none, errW_some] <;> rfl) | (simp [*, errW_none, errW_some] <;> rfl), by repeat (first | (with_reducible first | exact HB.out | apply below_alloc | apply pw_below_drewN | apply below_drew1 | refine below_set ?_ GE101.out) | exact HB.out)⟩
  · rw [if_neg c4] at H
    have c4b0 : decide (t102 < 0) = false := decide_eq_false c4
    clear c4
    obtain rfl := Option.some.inj H
    go_enter Try.func11, Try.ntmps11
    go_wp2_with (first | ((with_reducible refine gate_dst (N := 2) rfl ?_); refine box_event ?hg (N := 2) ?hd (cs := #[.int .i64 a0_0, .slice A0_1 l0_1.length c0_1]) (t := 24) ?hr ?_; (case hd => rfl); (case hg => rfl); (case hr => first | (go_simp; done) | (go_simp; rfl)); intro gb101 hg w7 hbox hb; have n0_ := Aside0.mk (below_step (by repeat (first | (with_reducible first | exact HB.out | apply below_alloc | apply pw_below_drewN | apply below_drew1) | exact HB.out)) hb); have n1_ := Aside0.mk (hbox); have n2_ := Aside0.mk ((by rw [hg]; exact (below_size (by repeat (first | (with_reducible first | exact HB.out | apply below_alloc | apply pw_below_drewN | apply below_drew1) | exact HB.out))) : w.heap.size ≤ gb101)); have n3_ := Aside0.mk ((by rw [hg]; exact (below_size (by repeat (first | (with_reducible first | exact HB.out | apply below_alloc | apply pw_below_drewN | apply below_drew1) | exact HB.out))) : w.heap.size ≤ gb101)); clear HB; have HB := n0_; have BK101 := n1_; have GW101 := n2_; have GE101 := n3_; clear n0_ n1_ n2_ n3_; clear hb hbox hg; have hcz8_0 : w7.cell? ⟨gb101, 0, none⟩ = some (.int .i64 a0_0) := (blk_cell BK101.out 0).trans rfl; have hcz8_1 : w7.cell? ⟨gb101, 1, none⟩ = some (.slice A0_1 l0_1.length c0_1) := (blk_cell BK101.out 1).trans rfl; have hfz8_0 := blk_frozen BK101.out 0; have hfz8_1 := blk_frozen BK101.out 1) | ((with_reducible refine gate_callee (f := 42) rfl ?_); refine goesL_ (some 8) rfl rfl Try.func42 (by kernel_rfl) rfl #[.slice A0_1 l0_1.length c0_1, .int .i64 a1] rfl (by (try simp only [List.map_toArray, List.map_cons, List.map_nil]); first | done | rfl | (simp only [List.length_drop, List.length_take]; rfl)) ?_; (with_reducible refine (laws_szIntS.calls _ _ l0_1 a1 t102 _ ?side1 ?side2 A3.out).mono ?_); (case side1 => repeat (first | exact (Kd.C_below HR0_1.out HB.out) | (with_reducible refine Kd.C_alloc ?_ _) | (with_reducible refine Kd.C_drewN ?_ _) | (with_reducible refine Kd.C_drew ?_))); (case side2 => exact HC0_1.out); rintro e w' ⟨rfl, ⟨nd, rfl⟩⟩; refine ⟨_, rfl, ?_⟩))
    go_ret
    exact ⟨by first | rfl | (simp [errW_none, errW_some] <;> rfl) | (simp [*, errW_none, errW_some] <;> rfl), by repeat (first | (with_reducible first | exact HB.out | apply below_alloc | apply pw_below_drewN | apply below_drew1 | refine below_set ?_ GE101.out) | exact HB.out)⟩

-- HAND with laws.szSpace
theorem szSpace_over (n : Int) (l : List Int) (a : Int) (ha : a ≤ 1048576) (hl : l.length ≤ 9223372036854775807) (h : a < l.length) (h0 : 0 ≤ a) : laws_szSpace.f n l a = some (-1) := by
  have hw : wrap64 (a - (l.length : Int)) = a - l.length := wrap_in (by omega) (by omega)
  unfold laws_szSpace.f laws_szIntS.f
  rw [hw, if_pos (by omega)]
  rfl
theorem szSpace_fits (n : Int) (l : List Int) (a : Int) (ha : a ≤ 1048576) (h : (l.length : Int) ≤ a) : laws_szSpace.f n l a = some (a - l.length) := by
  have hw : wrap64 (a - (l.length : Int)) = a - l.length := wrap_in (by omega) (by omega)
  unfold laws_szSpace.f laws_szIntS.f
  rw [hw, if_neg (by omega)]
  show (if a - (l.length : Int) < 0 then _ else _) = _
  rw [if_neg (by omega)]

/-! ### laws_toIntS: function 46 -/
def laws_toIntS.l0 : Nat → List Int → List Int → Int → Option (List Int)
 | 0, _, _, _ => none
 | k + 1, x0, x3, x4 => if x4 < (x0.length : Int) then (if 0 ≤ x4 then (if x4 < (x3.length : Int) then (laws_toIntS.l0 k x0 (x3.set (x4 : Int).toNat (rd x0 x4)) (wrap64 (x4 + 1))) else (none)) else (none)) else (some x3)
def laws_toIntS.f (k : Nat) (l0 : List Int) : Option (List Int) := if 0 ≤ (l0.length : Int) then (if ((l0.length : Int) : Int).toNat ≤ 35184372088832 then (laws_toIntS.l0 k l0 (List.replicate ((l0.length : Int) : Int).toNat 0) 0) else (none)) else (none)
theorem laws_toIntS.mono_l : ∀ k, (∀ y0 y1 y2, LeO (laws_toIntS.l0 k y0 y1 y2) (laws_toIntS.l0 (k + 1) y0 y1 y2))
 | 0 => fun _ _ _ r h => by simp [laws_toIntS.l0] at h
 | k + 1 => by
  have ih0 := laws_toIntS.mono_l k
  ·
   intro y0 y1 y2
   unfold laws_toIntS.l0
   repeat' first
   | (with_reducible exact ih0 _ _ _)
   | (with_reducible exact LeO.refl _)
   | (with_reducible exact LeO.none _)
   | (with_reducible refine LeO.ite ?_ ?_)
   | (with_reducible refine LeO.bind ?_ (fun _ => ?_))
   | exact ih0 _ _ _
   | exact LeO.none _
   | refine LeO.ite ?_ ?_
   | refine LeO.bind ?_ (fun _ => ?_)
theorem laws_toIntS.mono : ∀ a0 k, LeO (laws_toIntS.f k a0) (laws_toIntS.f (k + 1) a0) := by
 intro a0 k
 have ih0 := laws_toIntS.mono_l k
 unfold laws_toIntS.f
 repeat' first
   | (with_reducible exact ih0 _ _ _)
   | (with_reducible exact LeO.refl _)
   | (with_reducible exact LeO.none _)
   | (with_reducible refine LeO.ite ?_ ?_)
   | (with_reducible refine LeO.bind ?_ (fun _ => ?_))
   | exact ih0 _ _ _
   | exact LeO.none _
   | refine LeO.ite ?_ ?_
   | refine LeO.bind ?_ (fun _ => ?_)
set_option maxHeartbeats 8000000 in
set_option maxRecDepth 100000 in
theorem laws_toIntS.calls (k : Nat) (A0 : Option Addr) (c0 : Nat) (l0 : List Int) (r : List Int) (w : World) (hr0 : Kd.C (Kd.int .i64) w A0 l0.length l0) (hc0 : l0.length ≤ c0) (h : laws_toIntS.f k l0 = some r) :
  Calls Try.prog 46 #[.slice A0 l0.length c0] w fun e w' => ∃ v0_ : Value, e = .returned (v0_) ∧ Kd.R (Kd.int .i64) 3 w' w.heap.size (fun _ => True) v0_ r ∧ Below w.heap.size w w' := by
 have HR0 := asd hr0
 have HC0 := asd hc0
 clear hr0 hc0
 have HB := asd (Below.refl w.heap.size w)
 have H : (if 0 ≤ (l0.length : Int) then (if ((l0.length : Int) : Int).toNat ≤ 35184372088832 then (laws_toIntS.l0 k l0 (List.replicate ((l0.length : Int) : Int).toNat 0) 0) else (none)) else (none)) = some r := h
 clear h
 by_cases c2 : 0 ≤ (l0.length : Int)
 ·
  rw [if_pos c2] at H
  have c2b0 := eq_true c2
  have c2b1 : decide (0 ≤ (l0.length : Int)) = true := decide_eq_true c2
  clear c2
  by_cases c3 : ((l0.length : Int) : Int).toNat ≤ 35184372088832
  ·
   rw [if_pos c3] at H
   have c3b0 := eq_true c3
   have c3b1 : decide (((l0.length : Int) : Int).toNat ≤ 35184372088832) = true := decide_eq_true c3
   clear c3
   obtain ⟨y101, hy101⟩ : ∃ y_ : List Int, y_ = (List.replicate ((l0.length : Int) : Int).toNat 0) := ⟨_, rfl⟩
   replace H : (laws_toIntS.l0 k l0 y101 0) = some r := by first | (rw [hy101]; with_reducible exact H) | (have H2_ := (Option.bind_some _ _).symm.trans H; rw [hy101]; with_reducible exact H2_) | (have H2_ := (Option.bind_some _ _).symm.trans H; with_reducible exact H2_) | with_reducible exact H | (rw [hy101]; exact H) | exact H
   have Ny101 := asd hy101
   clear hy101
   have H' := asd H
   clear H
   go_enter Try.func46, Try.ntmps46
   go_wp2_with (first | ((with_reducible refine gate_dst (N := 7) rfl ?_); refine Kd.R_make (Kd.int .i64) _ 3 rfl (N := 7) rfl 22 _ _ rfl (l0.length : Int) rfl rfl Try.underlying22 (.int .i64 0) 8 info3 rfl (by decide) (by omega) 0 (ok := fun _ => True) (okp := fun _ => True) rfl (fun _ hk => hk) trivial (of_decide_eq_true (by first | (with_reducible assumption) | assumption)) (Nat.le_trans (Nat.mul_le_mul_right _ (of_decide_eq_true (by first | (with_reducible assumption) | assumption) : (l0.length : Int).toNat ≤ 35184372088832)) (by omega)) (Below.refl _ _) (Nat.le_refl _) ?_; intro v102 w4 ho5 hb hg_ hnew_; clear hg_ hnew_; (first | rw [← Ny101.out] at ho5 | (simp only [Int.reduceToNat] at ho5; rw [← Ny101.out] at ho5)); have n0_ := asd (Kd.R_lower ho5 (below_size (by repeat (first | (with_reducible first | exact HB.out | apply below_alloc | apply pw_below_drewN | apply below_drew1) | exact HB.out)))); have n1_ := asd (below_step (by repeat (first | (with_reducible first | exact HB.out | apply below_alloc | apply pw_below_drewN | apply below_drew1) | exact HB.out)) hb); clear HB; have HO103 := n0_; have HB := n1_; clear n0_ n1_; clear hb ho5))
   go_loopg [4] k (fun kq v4 w' => ∃ (x3_1 : List Int) (x4_1 : Int), v4 = .int .i64 x4_1 ∧ Aside0 (laws_toIntS.l0 kq l0 x3_1 x4_1 = some r) ∧ Aside0 (kq ≤ k) ∧ Aside0 (Kd.R (Kd.int .i64) 3 w' w.heap.size (fun _ => True) v102 x3_1) ∧ Aside0 (Below w.heap.size w w'))
   case atStart => exact ⟨(y101), (0), (by first | rfl | (simp; done) | (simp [*]; done)), H', ⟨Nat.le_refl _⟩, ⟨by (with_reducible repeat (first | apply Kd.R_alloc | apply Kd.R_drewN | apply Kd.R_drew)); exact HO103.out⟩, ⟨by repeat (first | (with_reducible first | exact HB.out | apply below_alloc | apply pw_below_drewN | apply below_drew1) | exact HB.out)⟩⟩
   case round =>
    clear H'
    try clear c2
    try clear c2b0
    try clear c2b1
    try clear p2
    try clear c3
    try clear c3b0
    try clear c3b1
    try clear c4
    try clear HO_3; skip
    obtain ⟨x3_1, x4_1, rfl, HA, HK1, HO_3, HB⟩ := hrel
    cases gk with
    | zero => exact absurd HA.out (by simp [laws_toIntS.l0])
    | succ k1 =>
     have H := HA.out
     clear HA
     simp only [laws_toIntS.l0] at H
     by_cases c6 : x4_1 < (l0.length : Int)
     ·
      rw [if_pos c6] at H
      have c6b0 : decide (x4_1 < (l0.length : Int)) = true := decide_eq_true c6
      clear c6
      by_cases c7 : 0 ≤ x4_1
      ·
       rw [if_pos c7] at H
       have c7b0 : decide (0 ≤ x4_1) = true := decide_eq_true c7
       clear c7
       by_cases c8 : x4_1 < (x3_1.length : Int)
       ·
        rw [if_pos c8] at H
        have c8b0 : decide (x4_1 < (x3_1.length : Int)) = true := decide_eq_true c8
        clear c8
        obtain ⟨y105, hy105⟩ : ∃ y_ : List Int, y_ = (x3_1.set (x4_1 : Int).toNat (rd l0 x4_1)) := ⟨_, rfl⟩
        replace H : (laws_toIntS.l0 k1 l0 y105 (wrap64 (x4_1 + 1))) = some r := by first | (rw [hy105]; with_reducible exact H) | (have H2_ := (Option.bind_some _ _).symm.trans H; rw [hy105]; with_reducible exact H2_) | (have H2_ := (Option.bind_some _ _).symm.trans H; with_reducible exact H2_) | with_reducible exact H | (rw [hy105]; exact H) | exact H
        have Ny105 := asd hy105
        clear hy105
        have H' := asd H
        clear H
        have p104 : 0 ≤ (x4_1 : Int) := of_decide_eq_true (by first | (with_reducible assumption) | assumption)
        have q104 : x4_1 < (l0.length : Int) := of_decide_eq_true (by first | (with_reducible assumption) | assumption)
        obtain ⟨ad104, e104, hx104_0⟩ := Kd.at_int HR0.out x4_1 p104 q104
        cases e104
        replace hx104_0 := (HB.out.cell (World.block_lt_of_cell? w _ hx104_0)).trans hx104_0
        replace p104 := eq_true p104
        replace q104 := eq_true q104
        have p9 : 0 ≤ (x4_1 : Int) := of_decide_eq_true (by first | (with_reducible assumption) | assumption)
        have q9 : (x4_1 : Int) < ((x3_1.length : Int) : Int) := of_decide_eq_true (by first | (with_reducible assumption) | assumption)
        obtain ⟨go9, co9, eo9, gb9, gl9, cl9, HG9⟩ := Kd.R_form HO_3.out (by omega)
        (first | cases eo9 | (injection eo9 with ea_ en_ ec_; (first | subst ea_ | (injection ea_ with ea_; subst ea_)); subst ec_; clear en_))
        have GB9 := asd gb9
        have GG9 := asd HG9
        clear gb9 gl9 HG9
        obtain ⟨hx9_0, hf9_0⟩ := Kd.R_celln 0 HO_3.out (x4_1 : Int) p9 q9
        replace p9 := eq_true p9
        replace q9 := eq_true q9
        have HP10 := Kd.R_putg HO_3.out (x4_1 : Int) (rd l0 x4_1)
        go_wp2_with (first | ((with_reducible refine gate_store (t := 3) (p := 20) rfl ?_); refine store_event (t := 3) (p := 20) (v := ?vo_w11) (w1 := (wr.setCell ⟨go9, (x4_1 : Int).toNat, none⟩ (.int .i64 (rd l0 x4_1)))) ?hg ?ho ?hn ?hr ?_; (case ho => rfl); (case hg => rfl); (case hn => rfl); (case hr => first | (go_simp; done) | (go_simp; rfl)); intro w11 hw; have hg : wr.grownBy w11 (some go9) := (by rw [hw]; exact HP10.2); have hp_ : Kd.R (Kd.int .i64) 3 w11 w.heap.size (fun _ => True) (.slice (some ⟨go9, 0, none⟩) x3_1.length co9) y105 := (by rw [hw, Ny105.out]; exact HP10.1); clear HP10; have n0_ := asd (hp_); have n1_ := asd ((by rw [hw]; exact below_set (HB.out) GB9.out : Below w.heap.size w w11)); clear HO_3; clear HB; have HO_3 := n0_; have HB := n1_; clear n0_ n1_; clear hg hw hp_))
        go_roundg k1
        case measure => have := HK1.out; omega
        case rel => exact ⟨(y105), (wrap64 (x4_1 + 1)), (by first | rfl | (simp; done) | (simp [*]; done)), H', ⟨by have := HK1.out; omega⟩, ⟨by (with_reducible repeat (first | apply Kd.R_alloc | apply Kd.R_drewN | apply Kd.R_drew)); exact HO_3.out⟩, ⟨by repeat (first | (with_reducible first | exact HB.out | apply below_alloc | apply pw_below_drewN | apply below_drew1) | exact HB.out)⟩⟩
       ·
        rw [if_neg c8] at H
        exact absurd H (by simp)
      ·
       rw [if_neg c7] at H
       exact absurd H (by simp)
     ·
      rw [if_neg c6] at H
      have c6b0 : decide (x4_1 < (l0.length : Int)) = false := decide_eq_false c6
      clear c6
      obtain rfl := Option.some.inj H
      go_wp2
      go_ret
      exact ⟨_, by first | rfl | (simp [errW_none, errW_some] <;> rfl) | (simp [*, errW_none, errW_some] <;> rfl), by (with_reducible repeat (first | apply Kd.R_alloc | apply Kd.R_drewN | apply Kd.R_drew)); exact HO_3.out, by repeat (first | (with_reducible first | exact HB.out | apply below_alloc | apply pw_below_drewN | apply below_drew1) | exact HB.out)⟩
  ·
   rw [if_neg c3] at H
   exact absurd H (by simp)
 ·
  rw [if_neg c2] at H
  exact absurd H (by simp)

-- HAND with laws.toIntS
theorem toIntS_loop (l : List Int) (hlen : l.length < 9223372036854775807) : ∀ (d i : Nat) (x : List Int), l.length - i = d → i ≤ l.length → x.length = l.length → (∀ j, j < i → x[j]? = l[j]?) → Ev (fun k => laws_toIntS.l0 k l x i) l := by
  intro d
  induction d with
  | zero =>
    intro i x hd hi hx hj
    refine Ev.succ (fun k => by simp only [laws_toIntS.l0]; rw [if_neg (by omega)]) (Ev.const (congrArg some ?_))
    apply List.ext_getElem?
    intro j
    rcases Nat.lt_or_ge j i with h | h
    · exact hj j h
    · rw [List.getElem?_eq_none (by omega), List.getElem?_eq_none (by omega)]
  | succ d ih =>
    intro i x hd hi hx hj
    refine Ev.succ (fun k => by simp only [laws_toIntS.l0]; rw [if_pos (by omega), if_pos (by omega), if_pos (by omega), wrap_succ (by omega) (by omega), Int.toNat_natCast]) ?_
    refine ih (i + 1) _ (by omega) (by omega) (by simpa using hx) (fun j hji => ?_)
    rw [List.getElem?_set]
    by_cases e : i = j
    · subst e
      have hil : i < l.length := by omega
      simp [hx, hil, rd, List.getD]
    · rw [if_neg e]
      exact hj j (by omega)
theorem toIntS_ok (l : List Int) (hlen : l.length ≤ 35184372088832) : Ev (fun k => laws_toIntS.f k l) l := by
  refine Ev.to (fun k => by unfold laws_toIntS.f; rw [if_pos (by omega), if_pos (by omega)]) ?_
  exact toIntS_loop l (by omega) l.length 0 _ (by omega) (by omega) (by simp) (fun j h => absurd h (Nat.not_lt_zero _))

/-! ### laws_toSpace: function 13 -/
def laws_toSpace.f (k : Nat) (a0_0 : Int) (l0_1 : List Int) : Option (Int × List Int) := (laws_toIntS.f k l0_1).bind fun t104 => (some (a0_0, t104))
theorem laws_toSpace.mono : ∀ a0 a1 k, LeO (laws_toSpace.f k a0 a1) (laws_toSpace.f (k + 1) a0 a1) := by
 intro a0 a1 k
 unfold laws_toSpace.f
 repeat' first
   | (with_reducible exact laws_toIntS.mono _ _)
   | (with_reducible exact LeO.refl _)
   | (with_reducible exact LeO.none _)
   | (with_reducible refine LeO.ite ?_ ?_)
   | (with_reducible refine LeO.bind ?_ (fun _ => ?_))
   | exact laws_toIntS.mono _ _
   | exact LeO.none _
   | refine LeO.ite ?_ ?_
   | refine LeO.bind ?_ (fun _ => ?_)
set_option maxHeartbeats 8000000 in
set_option maxRecDepth 100000 in
theorem laws_toSpace.calls (k : Nat) (a0_0 : Int) (A0_1 : Option Addr) (c0_1 : Nat) (l0_1 : List Int) (r1 : Int) (r2 : List Int) (w : World) (hr0_1 : Kd.C (Kd.int .i64) w A0_1 l0_1.length l0_1) (hc0_1 : l0_1.length ≤ c0_1) (h : laws_toSpace.f k a0_0 l0_1 = some (r1, r2)) :
  Calls Try.prog 13 #[.agg #[.int .i64 a0_0, .slice A0_1 l0_1.length c0_1]] w fun e w' => ∃ v1_ : Value, e = .returned (.agg #[.int .i64 r1, v1_]) ∧ Kd.R (Kd.int .i64) 3 w' w.heap.size (fun _ => True) v1_ r2 ∧ Below w.heap.size w w' := by
 have hu24 := Try.underlying24
 have hu28 := Try.underlying28
 have HR0_1 := asd hr0_1
 have HC0_1 := asd hc0_1
 clear hr0_1 hc0_1
 have HB := asd (Below.refl w.heap.size w)
 have H : ((laws_toIntS.f k l0_1).bind fun t104 => (some (a0_0, t104))) = some (r1, r2) := h
 clear h
 replace H := Option.bind_eq_some_iff.mp H
 obtain ⟨t104, A20, H⟩ := H
 replace H : (some (a0_0, t104)) = some (r1, r2) := H
 have A2 := asd A20
 clear A20
 simp only [Option.some.injEq, Prod.mk.injEq] at H
 obtain ⟨rfl, rfl⟩ := H
 go_enter Try.func13, Try.ntmps13
 go_wp2_with (first | ((with_reducible refine gate_dst (N := 1) rfl ?_); refine box_event ?hg (N := 1) ?hd (cs := #[.int .i64 a0_0, .slice A0_1 l0_1.length c0_1]) (t := 24) ?hr ?_; (case hd => rfl); (case hg => rfl); (case hr => first | (go_simp; done) | (go_simp; rfl)); intro gb101 hg w3 hbox hb; have n0_ := asd (below_step (by repeat (first | (with_reducible first | exact HB.out | apply below_alloc | apply pw_below_drewN | apply below_drew1) | exact HB.out)) hb); have n1_ := asd (hbox); have n2_ := asd ((by rw [hg]; exact (below_size (by repeat (first | (with_reducible first | exact HB.out | apply below_alloc | apply pw_below_drewN | apply below_drew1) | exact HB.out))) : w.heap.size ≤ gb101)); have n3_ := asd ((by rw [hg]; exact (below_size (by repeat (first | (with_reducible first | exact HB.out | apply below_alloc | apply pw_below_drewN | apply below_drew1) | exact HB.out))) : w.heap.size ≤ gb101)); clear HB; have HB := n0_; have BK101 := n1_; have GW101 := n2_; have GE101 := n3_; clear n0_ n1_ n2_ n3_; clear hb hbox hg) | ((with_reducible refine gate_dst (N := 2) rfl ?_); refine box_event ?hg (N := 2) ?hd (cs := #[.int .i64 0, .slice none 0 0]) (t := 28) ?hr ?_; (case hd => rfl); (case hg => rfl); (case hr => first | (go_simp; done) | (go_simp; rfl)); intro gb102 hg w4 hbox hb; have n0_ := asd (blk_below (upB BK101.out) hb); have n1_ := asd (below_step (by repeat (first | (with_reducible first | exact HB.out | apply below_alloc | apply pw_below_drewN | apply below_drew1 | refine below_set ?_ GE101.out) | exact HB.out)) hb); have n2_ := asd (hbox); have n3_ := asd ((by rw [hg]; exact (below_size (by repeat (first | (with_reducible first | exact HB.out | apply below_alloc | apply pw_below_drewN | apply below_drew1 | refine below_set ?_ GE101.out) | exact HB.out))) : w.heap.size ≤ gb102)); have n4_ := asd ((by rw [hg]; exact (below_size (by repeat (first | (with_reducible first | exact HB.out | apply below_alloc | apply pw_below_drewN | apply below_drew1 | refine below_set ?_ GE101.out) | exact HB.out))) : w.heap.size ≤ gb102)); have n5_ := asd ((by rw [hg]; exact Nat.ne_of_lt (blk_lt (upB BK101.out)) : gb101 ≠ gb102)); have n6_ := asd ((by rw [hg]; exact Nat.ne_of_gt (blk_lt (upB BK101.out)) : gb102 ≠ gb101)); clear BK101; clear HB; have BK101 := n0_; have HB := n1_; have BK102 := n2_; have GW102 := n3_; have GE102 := n4_; have NB101_102 := n5_; have NB102_101 := n6_; clear n0_ n1_ n2_ n3_ n4_ n5_ n6_; clear hb hbox hg) | ((with_reducible refine gate_dst (N := 3) rfl ?_); refine box_event ?hg (N := 3) ?hd (cs := #[.int .i64 0, .slice none 0 0]) (t := 28) ?hr ?_; (case hd => rfl); (case hg => rfl); (case hr => first | (go_simp; done) | (go_simp; rfl)); intro gb103 hg w5 hbox hb; have n0_ := asd (blk_below (upB BK101.out) hb); have n1_ := asd (blk_below (upB BK102.out) hb); have n2_ := asd (below_step (by repeat (first | (with_reducible first | exact HB.out | apply below_alloc | apply pw_below_drewN | apply below_drew1 | refine below_set ?_ GE101.out | refine below_set ?_ GE102.out) | exact HB.out)) hb); have n3_ := asd (hbox); have n4_ := asd ((by rw [hg]; exact (below_size (by repeat (first | (with_reducible first | exact HB.out | apply below_alloc | apply pw_below_drewN | apply below_drew1 | refine below_set ?_ GE101.out | refine below_set ?_ GE102.out) | exact HB.out))) : w.heap.size ≤ gb103)); have n5_ := asd ((by rw [hg]; exact (below_size (by repeat (first | (with_reducible first | exact HB.out | apply below_alloc | apply pw_below_drewN | apply below_drew1 | refine below_set ?_ GE101.out | refine below_set ?_ GE102.out) | exact HB.out))) : w.heap.size ≤ gb103)); have n6_ := asd ((by rw [hg]; exact Nat.ne_of_lt (blk_lt (upB BK101.out)) : gb101 ≠ gb103)); have n7_ := asd ((by rw [hg]; exact Nat.ne_of_gt (blk_lt (upB BK101.out)) : gb103 ≠ gb101)); have n8_ := asd ((by rw [hg]; exact Nat.ne_of_lt (blk_lt (upB BK102.out)) : gb102 ≠ gb103)); have n9_ := asd ((by rw [hg]; exact Nat.ne_of_gt (blk_lt (upB BK102.out)) : gb103 ≠ gb102)); clear BK101; clear BK102; clear HB; have BK101 := n0_; have BK102 := n1_; have HB := n2_; have BK103 := n3_; have GW103 := n4_; have GE103 := n5_; have NB101_103 := n6_; have NB103_101 := n7_; have NB102_103 := n8_; have NB103_102 := n9_; clear n0_ n1_ n2_ n3_ n4_ n5_ n6_ n7_ n8_ n9_; clear hb hbox hg; have hnb6 := NB101_102.out; have hnc6 := NB102_101.out; have hnb7 := NB101_103.out; have hnc7 := NB103_101.out; have hcz8_0 : w5.cell? ⟨gb101, 0, none⟩ = some (.int .i64 a0_0) := (blk_cell BK101.out 0).trans rfl; have hcz8_1 : w5.cell? ⟨gb101, 1, none⟩ = some (.slice A0_1 l0_1.length c0_1) := (blk_cell BK101.out 1).trans rfl; have hfz8_0 := blk_frozen BK101.out 0; have hfz8_1 := blk_frozen BK101.out 1; have hnb9 := NB103_102.out; have hnc9 := NB102_103.out; have hcz10_0 : w5.cell? ⟨gb103, 0, none⟩ = some (.int .i64 0) := (blk_cell BK103.out 0).trans rfl; have hcz10_1 : w5.cell? ⟨gb103, 1, none⟩ = some (.slice none 0 0) := (blk_cell BK103.out 1).trans rfl; have hfz10_0 := blk_frozen BK103.out 0; have hfz10_1 := blk_frozen BK103.out 1) | ((with_reducible refine gate_callee (f := 46) rfl ?_); refine goesL_ (some 9) rfl rfl Try.func46 (by kernel_rfl) rfl #[.slice A0_1 l0_1.length c0_1] rfl (by (try simp only [List.map_toArray, List.map_cons, List.map_nil]); first | done | rfl | (simp only [List.length_drop, List.length_take]; rfl)) ?_; (with_reducible refine (laws_toIntS.calls k _ _ l0_1 t104 _ ?side1 ?side2 A2.out).mono ?_); (case side1 => exact Kd.C_below HR0_1.out (by repeat (first | (with_reducible first | exact HB.out | apply below_alloc | apply pw_below_drewN | apply below_drew1 | refine below_set ?_ GE101.out | refine below_set ?_ GE102.out | refine below_set ?_ GE103.out) | exact HB.out))); (case side2 => exact HC0_1.out); rintro e w11 ⟨v105, rfl, ho0, hb⟩; refine ⟨_, rfl, ?_⟩; have n0_ := asd (Kd.R_lower ho0 (below_size (by repeat (first | (with_reducible first | exact HB.out | apply below_alloc | apply pw_below_drewN | apply below_drew1 | refine below_set ?_ GE101.out | refine below_set ?_ GE102.out | refine below_set ?_ GE103.out) | exact HB.out)))); have n1_ := asd (blk_below (g := gb101) (o := .cells #[.int .i64 a0_0, .slice A0_1 l0_1.length c0_1] 24 (0, 0)) (by (with_reducible repeat (first | refine blk_drewN ?_ _ | refine blk_drew ?_ | refine blk_alloc ?_ _)); refine blk_far ?_ NB101_103.out _; (with_reducible repeat (first | refine blk_drewN ?_ _ | refine blk_drew ?_ | refine blk_alloc ?_ _)); exact BK101.out) hb); have n2_ := asd (blk_below (g := gb102) (o := .cells #[.int .i64 0, .slice none 0 0] 28 (0, 0)) (by (with_reducible repeat (first | refine blk_drewN ?_ _ | refine blk_drew ?_ | refine blk_alloc ?_ _)); refine blk_far ?_ NB102_103.out _; (with_reducible repeat (first | refine blk_drewN ?_ _ | refine blk_drew ?_ | refine blk_alloc ?_ _)); exact BK102.out) hb); have n3_ := asd (blk_below (g := gb103) (o := .cells #[.int .i64 a0_0, .slice none 0 0] 28 (0, 0)) (by (with_reducible repeat (first | refine blk_drewN ?_ _ | refine blk_drew ?_ | refine blk_alloc ?_ _)); refine blk_put (cs := #[.int .i64 0, .slice none 0 0]) ?_ 0 _ rfl; (with_reducible repeat (first | refine blk_drewN ?_ _ | refine blk_drew ?_ | refine blk_alloc ?_ _)); exact BK103.out) hb); have n4_ := asd (below_step (by repeat (first | (with_reducible first | exact HB.out | apply below_alloc | apply pw_below_drewN | apply below_drew1 | refine below_set ?_ GE101.out | refine below_set ?_ GE102.out | refine below_set ?_ GE103.out) | exact HB.out)) hb); clear BK101; clear BK102; clear BK103; clear HB; have HO106 := n0_; have BK101 := n1_; have BK102 := n2_; have BK103 := n3_; have HB := n4_; clear n0_ n1_ n2_ n3_ n4_; (try clear hb); (try clear hb2); (try clear hk); (try clear hi); (try clear ho0); obtain ⟨Ao12, co12, eo12⟩ := Kd.R_slice HO106.out; subst eo12; have hcz13_0 : w11.cell? ⟨gb103, 0, none⟩ = some (.int .i64 a0_0) := (blk_cell BK103.out 0).trans rfl; have hcz13_1 : w11.cell? ⟨gb103, 1, none⟩ = some (.slice none 0 0) := (blk_cell BK103.out 1).trans rfl; have hfz13_0 := blk_frozen BK103.out 0; have hfz13_1 := blk_frozen BK103.out 1; have hcz14_0 : w11.cell? ⟨gb102, 0, none⟩ = some (.int .i64 0) := (blk_cell BK102.out 0).trans rfl; have hcz14_1 : w11.cell? ⟨gb102, 1, none⟩ = some (.slice none 0 0) := (blk_cell BK102.out 1).trans rfl; have hfz14_0 := blk_frozen BK102.out 0; have hfz14_1 := blk_frozen BK102.out 1))
 refine bodyPost_ret (results_cell_row rfl _ _ gb102 28 #[.int .i64 a0_0, .slice Ao12 t104.length co12] (0, 0) _ rfl (by (with_reducible repeat (first | refine blk_drewN ?_ _ | refine blk_drew ?_ | refine blk_alloc ?_ _)); refine blk_put (cs := #[.int .i64 a0_0, .slice none 0 0]) ?_ 1 _ rfl; (with_reducible repeat (first | refine blk_drewN ?_ _ | refine blk_drew ?_ | refine blk_alloc ?_ _)); refine blk_put (cs := #[.int .i64 0, .slice none 0 0]) ?_ 0 _ rfl; (with_reducible repeat (first | refine blk_drewN ?_ _ | refine blk_drew ?_ | refine blk_alloc ?_ _)); refine blk_far ?_ NB102_103.out _; (with_reducible repeat (first | refine blk_drewN ?_ _ | refine blk_drew ?_ | refine blk_alloc ?_ _)); exact BK102.out) Try.underlying28 rfl (by kernel_rfl)) rfl ?_
 exact ⟨_, by first | rfl | (simp [errW_none, errW_some] <;> rfl) | (simp [*, errW_none, errW_some] <;> rfl), by (with_reducible repeat (first | apply Kd.R_alloc | apply Kd.R_drewN | apply Kd.R_drew)); exact Kd.R_mono (Kd.R_far (p := ⟨gb102, 1, none⟩) (Kd.R_far (p := ⟨gb102, 0, none⟩) (Kd.R_far (p := ⟨gb103, 1, none⟩) (Kd.R_types (Kd.R_types HO106.out BK103.out (by decide)) BK102.out (by decide)) (fun _ hk => hk.1.2) (.slice Ao12 t104.length co12)) (fun _ hk => hk.2) (.int .i64 a0_0)) (fun _ hk => hk.2) (.slice Ao12 t104.length co12)) (fun _ hk => trivial), by repeat (first | (with_reducible first | exact HB.out | apply below_alloc | apply pw_below_drewN | apply below_drew1 | refine below_set ?_ GE101.out | refine below_set ?_ GE102.out | refine below_set ?_ GE103.out) | exact HB.out)⟩

-- HAND with laws.toSpace
theorem toSpace_ok (n : Int) (l : List Int) (hlen : l.length ≤ 35184372088832) : Ev (fun k => laws_toSpace.f k n l) (n, l) := by
  unfold laws_toSpace.f
  exact Ev.bind (toIntS_ok l hlen) (Ev.const rfl)

/-! ### laws_eqIntS: function 22 -/
def laws_eqIntS.l0 : Nat → List Int → List Int → Int → Option (Bool)
 | 0, _, _, _ => none
 | k + 1, x0, x1, x5 => if x5 < (x0.length : Int) then (if 0 ≤ x5 then (if x5 < (x1.length : Int) then (if (rd x0 x5) = (rd x1 x5) then (laws_eqIntS.l0 k x0 x1 (wrap64 (x5 + 1))) else (some false)) else (none)) else (none)) else (some true)
def laws_eqIntS.f (k : Nat) (l0 : List Int) (l1 : List Int) : Option (Bool) := if (l0.length : Int) = (l1.length : Int) then (laws_eqIntS.l0 k l0 l1 0) else (some false)
theorem laws_eqIntS.mono_l : ∀ k, (∀ y0 y1 y2, LeO (laws_eqIntS.l0 k y0 y1 y2) (laws_eqIntS.l0 (k + 1) y0 y1 y2))
 | 0 => fun _ _ _ r h => by simp [laws_eqIntS.l0] at h
 | k + 1 => by
  have ih0 := laws_eqIntS.mono_l k
  ·
   intro y0 y1 y2
   unfold laws_eqIntS.l0
   repeat' first
   | (with_reducible exact ih0 _ _ _)
   | (with_reducible exact LeO.refl _)
   | (with_reducible exact LeO.none _)
   | (with_reducible refine LeO.ite ?_ ?_)
   | (with_reducible refine LeO.bind ?_ (fun _ => ?_))
   | exact ih0 _ _ _
   | exact LeO.none _
   | refine LeO.ite ?_ ?_
   | refine LeO.bind ?_ (fun _ => ?_)
theorem laws_eqIntS.mono : ∀ a0 a1 k, LeO (laws_eqIntS.f k a0 a1) (laws_eqIntS.f (k + 1) a0 a1) := by
 intro a0 a1 k
 have ih0 := laws_eqIntS.mono_l k
 unfold laws_eqIntS.f
 repeat' first
   | (with_reducible exact ih0 _ _ _)
   | (with_reducible exact LeO.refl _)
   | (with_reducible exact LeO.none _)
   | (with_reducible refine LeO.ite ?_ ?_)
   | (with_reducible refine LeO.bind ?_ (fun _ => ?_))
   | exact ih0 _ _ _
   | exact LeO.none _
   | refine LeO.ite ?_ ?_
   | refine LeO.bind ?_ (fun _ => ?_)
set_option maxHeartbeats 8000000 in
set_option maxRecDepth 100000 in
theorem laws_eqIntS.calls (k : Nat) (A0 : Option Addr) (c0 : Nat) (l0 : List Int) (A1 : Option Addr) (c1 : Nat) (l1 : List Int) (r : Bool) (w : World) (hr0 : Kd.C (Kd.int .i64) w A0 l0.length l0) (hc0 : l0.length ≤ c0) (hr1 : Kd.C (Kd.int .i64) w A1 l1.length l1) (hc1 : l1.length ≤ c1) (h : laws_eqIntS.f k l0 l1 = some r) :
  Calls Try.prog 22 #[.slice A0 l0.length c0, .slice A1 l1.length c1] w fun e w' => e = .returned (.bool r) ∧ Drawn0 w w' := by
 have HR0 := asd hr0
 have HC0 := asd hc0
 clear hr0 hc0
 have HR1 := asd hr1
 have HC1 := asd hc1
 clear hr1 hc1
 have H : (if (l0.length : Int) = (l1.length : Int) then (laws_eqIntS.l0 k l0 l1 0) else (some false)) = some r := h
 clear h
 by_cases c3 : (l0.length : Int) = (l1.length : Int)
 ·
  rw [if_pos c3] at H
  have c3b0 : ((l0.length : Int) == (l1.length : Int)) = true := beq_iff_eq.mpr c3
  have c3b1 : ((l0.length : Int) != (l1.length : Int)) = false := bne_eq_false_iff_eq.mpr c3
  have c3b2 : (l0.length == l1.length) = true := by first | simpa using c3 | (simp at c3 ⊢; omega)
  clear c3
  have H' := asd H
  clear H
  go_enter Try.func22, Try.ntmps22
  go_wp2
  repeat (go_quiet (fail); try go_wp2)
  go_loopg [5] k (fun kq v5 w' => ∃ (x5_1 : Int), v5 = .int .i64 x5_1 ∧ Aside0 (laws_eqIntS.l0 kq l0 l1 x5_1 = some r) ∧ Aside0 (kq ≤ k) ∧ Drawn0 w w')
  case atStart => exact ⟨(0), (by first | rfl | (simp; done) | (simp [*]; done)), H', ⟨Nat.le_refl _⟩, by repeat (first | exact Drawn0.refl _ | apply Drawn0.step)⟩
  case round =>
   clear H'
   try clear c1
   try clear c2
   try clear p2
   try clear c3
   try clear c3b0
   try clear c3b1
   try clear c3b2
   skip
   obtain ⟨x5_1, rfl, HA, HK1, ⟨m1, rfl⟩⟩ := hrel
   cases gk with
   | zero => exact absurd HA.out (by simp [laws_eqIntS.l0])
   | succ k1 =>
    have H := HA.out
    clear HA
    simp only [laws_eqIntS.l0] at H
    by_cases c4 : x5_1 < (l0.length : Int)
    ·
     rw [if_pos c4] at H
     have c4b0 : decide (x5_1 < (l0.length : Int)) = true := decide_eq_true c4
     clear c4
     by_cases c5 : 0 ≤ x5_1
     ·
      rw [if_pos c5] at H
      have c5b0 : decide (0 ≤ x5_1) = true := decide_eq_true c5
      clear c5
      by_cases c6 : x5_1 < (l1.length : Int)
      ·
       rw [if_pos c6] at H
       have c6b0 : decide (x5_1 < (l1.length : Int)) = true := decide_eq_true c6
       clear c6
       by_cases c7 : (rd l0 x5_1) = (rd l1 x5_1)
       ·
        rw [if_pos c7] at H
        have c7b0 : ((rd l0 x5_1) == (rd l1 x5_1)) = true := beq_iff_eq.mpr c7
        have c7b1 : ((rd l0 x5_1) != (rd l1 x5_1)) = false := bne_eq_false_iff_eq.mpr c7
        clear c7
        have H' := asd H
        clear H
        have p101 : 0 ≤ (x5_1 : Int) := of_decide_eq_true (by first | (with_reducible assumption) | assumption)
        have q101 : x5_1 < (l0.length : Int) := of_decide_eq_true (by first | (with_reducible assumption) | assumption)
        obtain ⟨ad101, e101, hx101_0⟩ := Kd.at_int HR0.out x5_1 p101 q101
        cases e101
        replace p101 := eq_true p101
        replace q101 := eq_true q101
        have p102 : 0 ≤ (x5_1 : Int) := of_decide_eq_true (by first | (with_reducible assumption) | assumption)
        have q102 : x5_1 < (l1.length : Int) := of_decide_eq_true (by first | (with_reducible assumption) | assumption)
        obtain ⟨ad102, e102, hx102_0⟩ := Kd.at_int HR1.out x5_1 p102 q102
        cases e102
        replace p102 := eq_true p102
        replace q102 := eq_true q102
        go_wp2
        repeat (go_quiet (fail); try go_wp2)
        go_roundg k1
        case measure => have := HK1.out; omega
        case rel => exact ⟨(wrap64 (x5_1 + 1)), (by first | rfl | (simp; done) | (simp [*]; done)), H', ⟨by have := HK1.out; omega⟩, by repeat (first | exact Drawn0.refl _ | apply Drawn0.step)⟩
       ·
        rw [if_neg c7] at H
        have c7b0 : ((rd l0 x5_1) == (rd l1 x5_1)) = false := beq_eq_false_iff_ne.mpr c7
        have c7b1 : ((rd l0 x5_1) != (rd l1 x5_1)) = true := bne_iff_ne.mpr c7
        obtain rfl := Option.some.inj H
        have p101 : 0 ≤ (x5_1 : Int) := of_decide_eq_true (by first | (with_reducible assumption) | assumption)
        have q101 : x5_1 < (l0.length : Int) := of_decide_eq_true (by first | (with_reducible assumption) | assumption)
        obtain ⟨ad101, e101, hx101_0⟩ := Kd.at_int HR0.out x5_1 p101 q101
        cases e101
        replace p101 := eq_true p101
        replace q101 := eq_true q101
        have p102 : 0 ≤ (x5_1 : Int) := of_decide_eq_true (by first | (with_reducible assumption) | assumption)
        have q102 : x5_1 < (l1.length : Int) := of_decide_eq_true (by first | (with_reducible assumption) | assumption)
        obtain ⟨ad102, e102, hx102_0⟩ := Kd.at_int HR1.out x5_1 p102 q102
        cases e102
        replace p102 := eq_true p102
        replace q102 := eq_true q102
        go_wp2
        repeat (go_quiet (fail); try go_wp2)
        go_ret
        exact ⟨by first | rfl | (simp; done) | (simp [*]; done), by repeat (first | exact Drawn0.refl _ | apply Drawn0.step)⟩
      ·
       rw [if_neg c6] at H
       exact absurd H (by simp)
     ·
      rw [if_neg c5] at H
      exact absurd H (by simp)
    ·
     rw [if_neg c4] at H
     have c4b0 : decide (x5_1 < (l0.length : Int)) = false := decide_eq_false c4
     clear c4
     obtain rfl := Option.some.inj H
     go_wp2
     repeat (go_quiet (fail); try go_wp2)
     go_ret
     exact ⟨by first | rfl | (simp; done) | (simp [*]; done), by repeat (first | exact Drawn0.refl _ | apply Drawn0.step)⟩
 ·
  rw [if_neg c3] at H
  have c3b0 : ((l0.length : Int) == (l1.length : Int)) = false := beq_eq_false_iff_ne.mpr c3
  have c3b1 : ((l0.length : Int) != (l1.length : Int)) = true := bne_iff_ne.mpr c3
  have c3b2 : (l0.length == l1.length) = false := by first | simpa using c3 | (simp at c3 ⊢; omega)
  obtain rfl := Option.some.inj H
  go_enter Try.func22, Try.ntmps22
  go_wp2
  repeat (go_quiet (fail); try go_wp2)
  go_ret
  exact ⟨by first | rfl | (simp; done) | (simp [*]; done), by repeat (first | exact Drawn0.refl _ | apply Drawn0.step)⟩

-- HAND with laws.eqIntS
theorem eqIntS_loop (a b : List Int) (hlen : a.length < 9223372036854775807) (he : a.length = b.length) : ∀ (d i : Nat), a.length - i = d → i ≤ a.length → (∀ j, j < i → a[j]? = b[j]?) → Ev (fun k => laws_eqIntS.l0 k a b i) (decide (a = b)) := by
  intro d
  induction d with
  | zero =>
    intro i hd hi hj
    refine Ev.succ (fun k => by simp only [laws_eqIntS.l0]; rw [if_neg (by omega)]) (Ev.const (congrArg some ?_))
    symm
    rw [decide_eq_true_eq]
    apply List.ext_getElem?
    intro j
    rcases Nat.lt_or_ge j i with h | h
    · exact hj j h
    · rw [List.getElem?_eq_none (by omega), List.getElem?_eq_none (by omega)]
  | succ d ih =>
    intro i hd hi hj
    have ha : i < a.length := by omega
    have hb : i < b.length := by omega
    by_cases e : rd a (i : Int) = rd b (i : Int)
    · refine Ev.succ (fun k => by simp only [laws_eqIntS.l0]; rw [if_pos (by omega), if_pos (by omega), if_pos (by omega), if_pos e, wrap_succ (by omega) (by omega)]) ?_
      refine ih (i + 1) (by omega) (by omega) (fun j hji => ?_)
      rcases Nat.lt_or_ge j i with h | h
      · exact hj j h
      · obtain rfl : j = i := by omega
        rw [rd_get ha, rd_get hb] at e
        rw [List.getElem?_eq_getElem ha, List.getElem?_eq_getElem hb, e]
    · refine Ev.succ (fun k => by simp only [laws_eqIntS.l0]; rw [if_pos (by omega), if_pos (by omega), if_pos (by omega), if_neg e]) (Ev.const (congrArg some ?_))
      symm
      rw [decide_eq_false_iff_not]
      intro h
      exact e (by rw [h])
theorem eqIntS_ok (a b : List Int) (hlen : a.length < 9223372036854775807) : Ev (fun k => laws_eqIntS.f k a b) (decide (a = b)) := by
  by_cases he : a.length = b.length
  · refine Ev.to (fun k => by unfold laws_eqIntS.f; rw [if_pos (by omega)]) ?_
    exact eqIntS_loop a b hlen he a.length 0 (by omega) (by omega) (fun j h => absurd h (Nat.not_lt_zero _))
  · refine Ev.to (fun k => by unfold laws_eqIntS.f; rw [if_neg (by omega)]) (Ev.const (congrArg some ?_))
    symm
    rw [decide_eq_false_iff_not]
    intro h
    exact he (by rw [h])
theorem eqIntS_refl (a : List Int) (hlen : a.length < 9223372036854775807) : Ev (fun k => laws_eqIntS.f k a a) true := Ev.val (eqIntS_ok a a hlen) (by simp)

end Go.Proofs.Ytkepeflplmkcmaa.Q
