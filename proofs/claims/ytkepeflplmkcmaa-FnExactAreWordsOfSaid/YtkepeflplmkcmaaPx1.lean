/- Contracts of functions that the laws reach: a call returns what the plain Lean function of the same name tells. Conditions: those of each theorem. Made by gen.py, a program of this session, over the print of the translation. -/
import Derived.Test.YtkepeflplmkcmaaPx0
namespace Go.Proofs.Ytkepeflplmkcmaa.Q
open Go.RowKit Go.Proofs.YtkepeflplmkcmaaW.PrintWords Go.Proofs.YtkepeflplmkcmaaW.PrintLast Go.Proofs.YtkepeflplmkcmaaW.PrintMore
attribute [local go_sem] max2_int min2_int max_two min_two max_three min_three max_four min_four   -- for this text's walks alone
set_option linter.unusedVariables false
set_option linter.unusedSimpArgs false

-- HAND lib bits
theorem wrap_nat (n : Nat) (h : n < 9223372036854775808) : IntKind.i64.wrap (n : Int) = n := by
 unfold IntKind.wrap IntKind.bits IntKind.signed
 simp only [Bool.true_and, decide_eq_true_eq]
 have : ((n : Int) % 2 ^ 64) = n := by omega
 rw [this]
 split <;> omega
theorem ofInt_nat (n : Nat) : BitVec.ofInt 64 (n : Int) = BitVec.ofNat 64 n := by simp
theorem toNat64 (n : Nat) (h : n < 9223372036854775808) : (BitVec.ofNat 64 n).toNat = n := by simp; omega
theorem bits_or (a b : Nat) (ha : a < 9223372036854775808) (hb : b < 9223372036854775808) : Go.bits .or .i64 (a : Int) (b : Int) = ((a ||| b : Nat) : Int) := by
 show IntKind.i64.wrap ((BitVec.ofInt 64 (a : Int) ||| BitVec.ofInt 64 (b : Int)).toNat : Int) = _
 rw [ofInt_nat, ofInt_nat, BitVec.toNat_or, toNat64 a ha, toNat64 b hb]
 exact wrap_nat _ (Nat.or_lt_two_pow (n := 63) ha hb)
theorem bits_and (a b : Nat) (ha : a < 9223372036854775808) (hb : b < 9223372036854775808) : Go.bits .and .i64 (a : Int) (b : Int) = ((a &&& b : Nat) : Int) := by
 show IntKind.i64.wrap ((BitVec.ofInt 64 (a : Int) &&& BitVec.ofInt 64 (b : Int)).toNat : Int) = _
 rw [ofInt_nat, ofInt_nat, BitVec.toNat_and, toNat64 a ha, toNat64 b hb]
 exact wrap_nat _ (Nat.lt_of_le_of_lt Nat.and_le_left ha)
theorem bits_xor (a b : Nat) (ha : a < 9223372036854775808) (hb : b < 9223372036854775808) : Go.bits .xor .i64 (a : Int) (b : Int) = ((a ^^^ b : Nat) : Int) := by
 show IntKind.i64.wrap ((BitVec.ofInt 64 (a : Int) ^^^ BitVec.ofInt 64 (b : Int)).toNat : Int) = _
 rw [ofInt_nat, ofInt_nat, BitVec.toNat_xor, toNat64 a ha, toNat64 b hb]
 exact wrap_nat _ (Nat.xor_lt_two_pow (n := 63) ha hb)
/-- What a has and b has not. -/
def nd (a b : Nat) : Nat := a ^^^ (a &&& b)
theorem nd_testBit (a b i : Nat) : (nd a b).testBit i = (a.testBit i && !b.testBit i) := by
 simp only [nd, Nat.testBit_xor, Nat.testBit_and]
 cases a.testBit i <;> cases b.testBit i <;> rfl
theorem nd_lt {a b n : Nat} (h : a < 2 ^ n) : nd a b < 2 ^ n := Nat.xor_lt_two_pow h (Nat.lt_of_le_of_lt Nat.and_le_left h)
theorem bits_nd (a b : Nat) (ha : a < 9223372036854775808) (hb : b < 9223372036854775808) : Go.bits .andNot .i64 (a : Int) (b : Int) = ((nd a b : Nat) : Int) := by
 show IntKind.i64.wrap ((BitVec.ofInt 64 (a : Int) &&& ~~~ BitVec.ofInt 64 (b : Int)).toNat : Int) = _
 rw [ofInt_nat, ofInt_nat]
 have h : (BitVec.ofNat 64 a &&& ~~~ BitVec.ofNat 64 b).toNat = nd a b := by
  apply Nat.eq_of_testBit_eq
  intro i
  rw [nd_testBit, BitVec.testBit_toNat, BitVec.getLsbD_and, BitVec.getLsbD_not, ← BitVec.testBit_toNat, ← BitVec.testBit_toNat, toNat64 a ha, toNat64 b hb]
  by_cases hi : i < 64
  ·
   simp [hi]
  ·
   have : a.testBit i = false := Nat.testBit_lt_two_pow (Nat.lt_of_lt_of_le ha (Nat.le_trans (by decide) (Nat.pow_le_pow_right (by decide) (Nat.le_of_not_lt hi))))
   simp [this]
 rw [h]
 exact wrap_nat _ (nd_lt (n := 63) ha)
theorem pow_lt63 (i : Nat) (h : i < 63) : 2 ^ i < 9223372036854775808 := Nat.pow_lt_pow_right (by decide) h
theorem shl_one (i : Nat) (h : i < 63) : shl .i64 1 (i : Int) = ((2 ^ i : Nat) : Int) := by
 unfold shl
 rw [Int.toNat_natCast, Nat.min_eq_left (show i ≤ IntKind.i64.bits from show i ≤ 64 by omega), Int.one_mul]
 exact (by simpa using wrap_nat (2 ^ i) (pow_lt63 i h))
theorem shr_nat (a i : Nat) (h : i < 64) : shr .i64 (a : Int) (i : Int) = ((a / 2 ^ i : Nat) : Int) := by
 unfold shr
 rw [Int.toNat_natCast, Nat.min_eq_left (show i ≤ IntKind.i64.bits from show i ≤ 64 by omega)]
 simp
theorem bit_and (a i : Nat) (h : a < 9223372036854775808) : Go.bits .and .i64 ((a / 2 ^ i : Nat) : Int) 1 = if a.testBit i then 1 else 0 := by
 have e := bits_and (a / 2 ^ i) 1 (Nat.lt_of_le_of_lt (Nat.div_le_self _ _) h) (by decide)
 rw [show ((1 : Nat) : Int) = 1 from rfl] at e
 rw [e, Nat.and_one_is_mod, Nat.testBit_eq_decide_div_mod_eq]
 have := Nat.mod_two_eq_zero_or_one (a / 2 ^ i)
 rcases this with h | h <;> simp [h]

/-- The items of a set, as numbers. -/
def itemsN (x : Nat) : List Nat := [0, 1, 2, 3, 4, 5, 6].filter fun i => x.testBit i
def itemsL (x : Int) : List Int := (itemsN x.toNat).map fun (i : Nat) => (i : Int)
theorem itemsN_lt {x i : Nat} (h : i ∈ itemsN x) : i < 7 := by
 simp [itemsN] at h
 omega
theorem itemsN_bit {x i : Nat} (h : i ∈ itemsN x) : x.testBit i = true := by
 simp only [itemsN, List.mem_filter] at h
 exact h.2
/-- Bit by bit below 7, a number that tells where something holds. -/
def maskOf (p : Nat → Bool) : Nat := [0, 1, 2, 3, 4, 5, 6].foldl (fun a i => if p i then a ||| 2 ^ i else a) 0
theorem orFold_lt (p : Nat → Bool) : ∀ (l : List Nat) (a : Nat), (∀ i ∈ l, i < 7) → a < 128 → l.foldl (fun a i => if p i then a ||| 2 ^ i else a) a < 128
 | [], a, _, h => h
 | i :: l, a, hl, h => by
  have hi := hl i (by simp)
  refine orFold_lt p l _ (fun j hj => hl j (by simp [hj])) ?_
  show (if p i = true then a ||| 2 ^ i else a) < 128
  split
  ·
   exact Nat.or_lt_two_pow (n := 7) h (Nat.pow_lt_pow_right (by decide) hi)
  ·
   exact h
theorem orFold_bit (p : Nat → Bool) (j : Nat) : ∀ (l : List Nat) (a : Nat), (l.foldl (fun a i => if p i then a ||| 2 ^ i else a) a).testBit j = (a.testBit j || (decide (j ∈ l) && p j))
 | [], a => by simp
 | i :: l, a => by
  rw [List.foldl_cons, orFold_bit p j l]
  by_cases e : j = i
  ·
   subst e
   by_cases hp : p j = true
   ·
    simp [hp, Nat.testBit_or, Nat.testBit_two_pow]
   ·
    simp [hp]
  ·
   have e' : ¬ i = j := fun h => e h.symm
   by_cases hp : p i = true
   ·
    simp [hp, Nat.testBit_or, Nat.testBit_two_pow, e, e']
   ·
    simp [hp, e]
theorem maskOf_bit (p : Nat → Bool) (j : Nat) (h : j < 7) : (maskOf p).testBit j = p j := by
 have : j ∈ [0, 1, 2, 3, 4, 5, 6] := by simp; omega
 simp only [maskOf, orFold_bit, this]
 simp
theorem maskOf_lt (p : Nat → Bool) : maskOf p < 128 := orFold_lt p _ _ (by simp) (by decide)
theorem itemsFold (p : Nat → Bool) (x : Nat) : (itemsN x).foldl (fun a i => if p i then a ||| 2 ^ i else a) 0 = maskOf (fun i => x.testBit i && p i) := by
 apply Nat.eq_of_testBit_eq
 intro j
 simp only [maskOf, orFold_bit, itemsN, List.mem_filter]
 cases x.testBit j <;> simp
/-- What a walk knows of '1 << i'. -/
theorem shl_ways {i j : Int} (h : shl .i64 1 i = j) (hle : i ≤ 64) :
  (IntKind.i64.wrap (1 * 2 ^ min i.toNat 64)) = j ∧ (IntKind.i64.wrap (1 * 2 ^ i.toNat)) = j ∧ (IntKind.i64.wrap (2 ^ min i.toNat 64)) = j ∧ (IntKind.i64.wrap (2 ^ i.toNat)) = j ∧ (wrap64 (1 * 2 ^ min i.toNat 64)) = j ∧ (wrap64 (1 * 2 ^ i.toNat)) = j ∧ (wrap64 (2 ^ min i.toNat 64)) = j ∧ (wrap64 (2 ^ i.toNat)) = j := by
 have h1 : (IntKind.i64.wrap (1 * 2 ^ min i.toNat 64)) = j := h
 have h2 : (IntKind.i64.wrap (1 * 2 ^ i.toNat)) = j := shl_small h hle
 have h3 := h1
 have h4 := h2
 rw [Int.one_mul] at h3 h4
 exact ⟨h1, h2, h3, h4, (i64_w _).symm.trans h1, (i64_w _).symm.trans h2, (i64_w _).symm.trans h3, (i64_w _).symm.trans h4⟩
theorem shl_nat {i : Int} (h0 : 0 ≤ i) (h1 : i < 63) : shl .i64 1 i = ((2 ^ i.toNat : Nat) : Int) := by
 obtain ⟨n, rfl⟩ := Int.eq_ofNat_of_zero_le h0
 rw [shl_one n (by omega), Int.toNat_natCast]
theorem lt63 {n : Nat} (h : n < 128) : n < 9223372036854775808 := by omega
theorem pow_lt128 {i : Int} (h0 : 0 ≤ i) (h1 : i < 7) : 2 ^ i.toNat < 128 := show 2 ^ i.toNat < 2 ^ 7 from Nat.pow_lt_pow_right (by decide) (by omega)
/-- The same of whole numbers below 128. -/
def I128 (x : Int) : Prop := 0 ≤ x ∧ x < 128
-- HAND lib family
/-- A block that holds a family. -/
structure FamAt (w : World) (b : Nat) (F : List Bool) : Prop where
  len : F.length = 128
  blk : w.heap[b]? = some (.cells (F.map Value.bool).toArray 126 (0, 0))

def famOf (l : List Int) : List Bool := (List.range 128).map fun (i : Nat) => decide ((i : Int) ∈ l)
theorem famOf_length (l : List Int) : (famOf l).length = 128 := by simp [famOf]
theorem zeroFam : Try.zeroCells126 = ((famOf []).map Value.bool).toArray := by kernel_rfl
theorem FamAt.lt {w : World} {b : Nat} {F : List Bool} (h : FamAt w b F) : b < w.heap.size := blk_lt h.blk
theorem FamAt.below {w w' : World} {b : Nat} {F : List Bool} (h : FamAt w b F) (hb : Below w.heap.size w w') : FamAt w' b F := ⟨h.len, (hb.block b h.lt).trans h.blk⟩
theorem FamAt.at_ {w : World} {b : Nat} {F : List Bool} (h : FamAt w b F) (i : Int) (h0 : 0 ≤ i) (h1 : i < 128) : w.cell? ⟨b, i.toNat, none⟩ = some (.bool (F.getD i.toNat false)) := by
  rw [blk_cell h.blk]
  have hl := h.len
  have : i.toNat < F.length := by omega
  simp [List.getElem?_map, List.getD, this]
theorem FamAt.fr {w : World} {b : Nat} {F : List Bool} (h : FamAt w b F) (i : Nat) : w.frozen? ⟨b, i, none⟩ = false := blk_frozen h.blk i
theorem FamAt.set {w : World} {b : Nat} {F : List Bool} (h : FamAt w b F) (i : Nat) (v : Bool) : FamAt (w.setCell ⟨b, i, none⟩ (.bool v)) b (F.set i v) := by
  refine ⟨by simp [h.len], ?_⟩
  rw [blk_set h.blk]
  simp [List.map_set]
theorem FamAt.far {w : World} {b : Nat} {F : List Bool} (h : FamAt w b F) {p : Addr} (hp : b ≠ p.block) (u : Value) : FamAt (w.setCell p u) b F := ⟨h.len, blk_far h.blk hp u⟩
theorem FamAt.new (w : World) (F : List Bool) (hF : F.length = 128) : FamAt (w.alloc (.cells (F.map Value.bool).toArray 126)) w.heap.size F := ⟨hF, heap_alloc_new w _⟩
theorem FamAt.alloc {w : World} {b : Nat} {F : List Bool} (h : FamAt w b F) (o : Obj) : FamAt (w.alloc o) b F := h.below (below_alloc (Below.refl _ _) o)
theorem FamAt.drewN {w : World} {b : Nat} {F : List Bool} (h : FamAt w b F) (n : Nat) : FamAt (w.drewN n) b F := h.below (pw_below_drewN (Below.refl _ _) n)
theorem famOf_get (l : List Int) (i : Nat) (hi : i < 128) : (famOf l).getD i false = decide ((i : Int) ∈ l) := by simp [famOf, List.getD, hi]
theorem famOf_snoc (l : List Int) (x : Int) (h0 : 0 ≤ x) : (famOf l).set x.toNat true = famOf (l ++ [x]) := by
  apply List.ext_getElem?
  intro j
  by_cases hj : j < 128
  · by_cases e : x.toNat = j
    · have : (j : Int) = x := by omega
      simp [famOf, List.getElem?_set, e, hj, this]
    · have : ¬ (j : Int) = x := by omega
      simp [famOf, List.getElem?_set, e, hj, this]
  · simp [famOf, List.getElem?_set, hj]
theorem rd_mem {l : List Int} {i : Int} (h0 : 0 ≤ i) (h1 : i < l.length) : rd l i ∈ l := by
  have : i.toNat < l.length := by omega
  simp [rd, List.getD, this]
theorem take_rd (l : List Int) (k : Nat) (h : k < l.length) : l.take (k + 1) = l.take k ++ [rd l k] := by
  rw [List.take_succ_eq_append_getElem h]
  simp [rd, List.getD, h]

/-- The fringes of a set in a family. -/
def innerF (F : List Bool) (x : Nat) : Nat := maskOf fun i => x.testBit i && F.getD (nd x (2 ^ i)) false
def outerF (F : List Bool) (x : Nat) : Nat := maskOf fun i => !x.testBit i && F.getD (x ||| 2 ^ i) false

-- HAND lib famc
/-- A family that is read at an address. -/
structure FamC (w : World) (ad : Addr) (F : List Bool) : Prop where
  len : F.length = 128
  at_ : ∀ i : Int, 0 ≤ i → i < 128 → w.cell? (ad.add i.toNat) = some (.bool (F.getD i.toNat false))
theorem FamC.below {w w' : World} {ad : Addr} {F : List Bool} (h : FamC w ad F) (hb : Below w.heap.size w w') : FamC w' ad F := ⟨h.len, fun i h0 h1 => pw_cell_below hb (h.at_ i h0 h1)⟩
theorem FamC.drewN {w : World} {ad : Addr} {F : List Bool} (h : FamC w ad F) (n : Nat) : FamC (w.drewN n) ad F := h.below (pw_below_drewN (Below.refl _ _) n)
theorem FamAt.c {w : World} {b : Nat} {F : List Bool} (h : FamAt w b F) : FamC w ⟨b, 0, none⟩ F := ⟨h.len, fun i h0 h1 => by
  have := h.at_ i h0 h1
  by_cases e : i.toNat = 0
  · rw [e] at this ⊢; exact this
  · simpa [Addr.add, e] using this⟩
theorem FamC.of_reads {w : World} {A : Option Addr} {F : List Bool} (h : Kd.C Kd.bool w A F.length F) (hl : F.length = 128) : ∃ ad, A = some ad ∧ FamC w ad F := by
  obtain ⟨ad, e, _⟩ := Kd.at_bool h 0 (by omega) (by omega)
  subst e
  refine ⟨ad, rfl, hl, fun i h0 h1 => ?_⟩
  obtain ⟨ad', e, hc⟩ := Kd.at_bool h i h0 (by omega)
  cases e
  exact hc
/-- The pointer to what a slice tells. -/
@[reducible] def ptrOf (v : Value) : Value := match v with
  | .slice a _ _ => .pointer a
  | v => v
theorem ptrOf_slice (A : Option Addr) (n c : Nat) : ptrOf (.slice A n c) = .pointer A := rfl
theorem FamAt.own {w : World} {b base : Nat} {F : List Bool} (h : FamAt w b F) (hb : base ≤ b) : Kd.R Kd.bool 126 w base (fun _ => True) (.slice (some ⟨b, 0, none⟩) F.length 128) F := by
  refine Kd.R_of_own ?_ (fun _ _ => trivial)
  refine ⟨by simp [encs], .inr ⟨b, 128, _, rfl, hb, h.blk, by rw [h.len]; exact Nat.le_refl _, by decide, by simp [h.len], ?_⟩⟩
  simp [encs, h.len]
  exact List.take_of_length_le (by simp [h.len])
-- HAND lib evs
theorem Ev.succ {α : Type} {l g : Nat → Option α} {r : α} (h : ∀ k, l (k + 1) = g k) (hg : Ev g r) : Ev l r := by
  obtain ⟨K, hK⟩ := hg
  refine ⟨K + 1, fun k hk => ?_⟩
  obtain ⟨m, rfl⟩ : ∃ m, k = m + 1 := ⟨k - 1, by omega⟩
  rw [h, hK m (by omega)]
theorem Ev.to {α : Type} {g f : Nat → Option α} {r : α} (h : ∀ k, f k = g k) (hg : Ev g r) : Ev f r := by
  obtain ⟨K, hK⟩ := hg
  exact ⟨K, fun k hk => (h k).trans (hK k hk)⟩
theorem Ev.val {α : Type} {g : Nat → Option α} {r q : α} (hg : Ev g r) (e : r = q) : Ev g q := e ▸ hg
theorem Ev.const {α : Type} {o : Option α} {r : α} (h : o = some r) : Ev (fun _ => o) r := ⟨0, fun _ _ => h⟩
theorem Ev.bindc {α β : Type} {o : Option α} {f : Nat → α → Option β} {a : α} {r : β} (h : o = some a) (k : Ev (fun n => f n a) r) : Ev (fun n => o.bind (f n)) r := by
  subst h
  exact k
theorem wrap_succ {i : Int} (h0 : -1 ≤ i) (h : i < 9223372036854775807) : wrap64 (i + 1) = i + 1 := by
  unfold wrap64
  omega
theorem wrap_in {i : Int} (h0 : -9223372036854775808 ≤ i) (h : i ≤ 9223372036854775807) : wrap64 i = i := by
  unfold wrap64
  omega
theorem rd_get {l : List Int} {i : Nat} (h : i < l.length) : rd l (i : Int) = l[i] := by simp [rd, List.getD, h]
/-- Increasing. -/
def Rise (l : List Int) : Prop := ∀ i j : Nat, i < j → j < l.length → rd l i < rd l j
theorem Rise.mem_iff {l : List Int} (h : Rise l) (x : Int) (p : Nat) (hlo : ∀ i : Nat, i < p → i < l.length → rd l i < x) (hhi : ∀ i : Nat, p ≤ i → i < l.length → x ≤ rd l i) :
    (x ∈ l) ↔ (p < l.length ∧ rd l p = x) := by
  constructor
  · intro hx
    obtain ⟨i, hi, rfl⟩ := List.getElem_of_mem hx
    rw [← rd_get hi]
    have hle : p ≤ i := by
      rcases Nat.lt_or_ge i p with hlt | hge
      · have := hlo i hlt hi
        rw [rd_get hi] at this
        omega
      · exact hge
    rcases Nat.lt_or_ge p i with hlt | hge
    · have h1 := hhi p (Nat.le_refl _) (by omega)
      have h2 := h p i hlt hi
      rw [rd_get hi] at h2
      omega
    · obtain rfl : p = i := by omega
      exact ⟨hi, rfl⟩
  · rintro ⟨hp, rfl⟩
    exact rd_mem (by omega) (by omega)

-- HAND lib space
theorem Kd.at_rows {w : World} {A : Option Addr} {n e : Nat} {xs : List (List Int)} (h : Kd.C (Kd.slice e (Kd.int .i64)) w A n xs) (i : Int) (h0 : 0 ≤ i) (h1 : i < n) : ∃ ad A0 c0, A = some ad ∧ w.cell? (ad.add i.toNat) = some (.slice A0 (xs.getD i.toNat []).length c0) ∧ (xs.getD i.toNat []).length ≤ c0 ∧ (Kd.int .i64).C w A0 (xs.getD i.toNat []).length (xs.getD i.toNat []) := by
 obtain ⟨ad, c, e, _, hK, hc0⟩ := Kd.C_get h ([] : List Int) i h0 h1
 have hc : ∀ j u, c[j]? = some u → w.cell? (ad.add (i.toNat * 1 + j)) = some u := hc0
 obtain ⟨A0, c0, rfl, l0, g0⟩ := hK
 exact ⟨ad, A0, c0, e, by have hq := hc 0 _ rfl; rwa [Nat.mul_one, Nat.add_zero] at hq, l0, g0⟩
/-- Is the entry i in range, and behind the one before it? -/
def okAt (n : Int) (l : List Int) (i : Int) : Bool := decide (0 ≤ rd l i) && decide (rd l i < 2 ^ n.toNat) && (decide (i = 0) || decide (rd l (i - 1) < rd l i))
def risingB (n : Int) (l : List Int) : Bool := (List.range l.length).all fun (i : Nat) => okAt n l i
def unionRow (F : List Bool) (l : List Int) (x : Int) : Bool := l.all fun y => F.getD (x.toNat ||| y.toNat) false
def unionsB (F : List Bool) (l : List Int) : Bool := l.all fun x => (decide (x = 0) || !decide (innerF F x.toNat = 0)) && unionRow F l x
/-- Is it a space? -/
def isSpaceB (n : Int) (l : List Int) : Bool :=
 decide (1 ≤ n) && decide (n ≤ 7) && decide ((l.length : Int) ≤ 2 ^ n.toNat) && risingB n l && (famOf l).getD 0 false && (famOf l).getD (2 ^ n.toNat - 1) false && unionsB (famOf l) l
theorem pow128 {n : Int} (h0 : 0 ≤ n) (h1 : n ≤ 7) : (2 : Int) ^ n.toNat ≤ 128 ∧ 1 ≤ (2 : Int) ^ n.toNat := by
 have h : 2 ^ n.toNat ≤ 2 ^ 7 := Nat.pow_le_pow_right (by decide) (by omega)
 have h2 : 0 < 2 ^ n.toNat := Nat.pow_pos (by decide)
 constructor
 ·
  exact_mod_cast h
 ·
  exact_mod_cast h2
theorem risingB_mem {n : Int} {l : List Int} (h : risingB n l = true) {x : Int} (hx : x ∈ l) : 0 ≤ x ∧ x < 2 ^ n.toNat := by
 obtain ⟨i, hi, rfl⟩ := List.getElem_of_mem hx
 simp only [risingB, List.all_eq_true, List.mem_range] at h
 have := h i hi
 simp only [okAt, Bool.and_eq_true, decide_eq_true_eq] at this
 have e : rd l (i : Int) = l[i] := by simp [rd, List.getD, hi]
 rw [e] at this
 exact this.1
/-- The box of a space that came in. -/
structure SpBox (w W : World) (g : Nat) (a0 : Int) (A : Option Addr) (n c : Nat) : Prop where
 new : w.heap.size ≤ g
 bel : Below w.heap.size w W
 c0 : W.cell? ⟨g, 0, none⟩ = some (.int .i64 a0)
 c1 : W.cell? ⟨g, 1, none⟩ = some (.slice A n c)
theorem SpBox.next {w W W' : World} {g : Nat} {a0 : Int} {A : Option Addr} {n c : Nat} (h : SpBox w W g a0 A n c) (hb : Below W.heap.size W W') : SpBox w W' g a0 A n c :=
 ⟨h.new, below_step h.bel hb, pw_cell_below hb h.c0, pw_cell_below hb h.c1⟩
theorem below_since {W W2 : World} {n : Nat} (h : Below (W.drewN n).heap.size (W.drewN n) W2) : Below W.heap.size W W2 := ⟨h.os, h.tape, h.output, h.size, h.block⟩
theorem below_since1 {W W2 : World} (h : Below W.drew.heap.size W.drew W2) : Below W.heap.size W W2 := ⟨h.os, h.tape, h.output, h.size, h.block⟩
theorem SpBox.mk_ {w W : World} {g : Nat} {a0 : Int} {A : Option Addr} {n c : Nat} {t : TypeId} (hg : g = w.heap.size) (hbox : W.heap[g]? = some (.cells #[.int .i64 a0, .slice A n c] t (0, 0))) (hb : Below w.heap.size w W) : SpBox w W g a0 A n c :=
 ⟨by omega, hb, (blk_cell hbox 0).trans rfl, (blk_cell hbox 1).trans rfl⟩
theorem toNat_pow {n m : Int} (h : m = 2 ^ n.toNat - 1) : 2 ^ n.toNat - 1 = m.toNat := by
 have e : ((2 ^ n.toNat : Nat) : Int) = (2 : Int) ^ n.toNat := by push_cast; rfl
 omega
def unionItem (F : List Bool) (l : List Int) (x : Int) : Bool := (decide (x = 0) || !decide (innerF F x.toNat = 0)) && unionRow F l x
theorem all_not {P : Int → Bool} {l : List Int} {x : Int} (hx : x ∈ l) (hb : P x = false) : l.all P = false := by
 rw [Bool.eq_false_iff]
 intro hc
 rw [List.all_eq_true] at hc
 rw [hc x hx] at hb
 cases hb
/-- Does it hold of all ahead of the index i? -/
def allTo (P : Int → Bool) (l : List Int) (i : Int) : Bool := (l.take i.toNat).all P
theorem allTo_succ (P : Int → Bool) (l : List Int) (i : Int) (h0 : 0 ≤ i) (h1 : i < l.length) : allTo P l (i + 1) = (allTo P l i && P (rd l i)) := by
 have h := take_rd l i.toNat (by omega)
 unfold allTo
 rw [show (i + 1).toNat = i.toNat + 1 by omega, h, List.all_append, show ((i.toNat : Nat) : Int) = i by omega]
 simp
theorem allTo_end (P : Int → Bool) (l : List Int) (i : Int) (h : i = l.length) : allTo P l i = l.all P := by
 unfold allTo
 rw [h, Int.toNat_natCast, List.take_length]
theorem wrapPow {n : Int} (h0 : 0 ≤ n) (h1 : n ≤ 7) : wrap64 (shl .i64 1 n - 1) = 2 ^ n.toNat - 1 := by
 have hp := pow128 h0 h1
 rw [shl_nat h0 (by omega)]
 push_cast
 unfold wrap64
 omega
theorem xor_bit {x i : Nat} (h : x.testBit i = true) : x ^^^ 2 ^ i = nd x (2 ^ i) := by
 apply Nat.eq_of_testBit_eq
 intro j
 rw [nd_testBit, Nat.testBit_xor, Nat.testBit_two_pow]
 by_cases e : i = j
 ·
  subst e; simp [h]
 ·
  simp [e]
theorem famOf_getD (l : List Int) (i : Nat) (hi : i < 128) : (famOf l).getD i false = decide ((i : Int) ∈ l) := famOf_get l i hi
def innK (F : List Bool) (x k : Nat) : Nat := (List.range k).foldl (fun a i => if (x.testBit i && F.getD (nd x (2 ^ i)) false) = true then a ||| 2 ^ i else a) 0
theorem innK_succ (F : List Bool) (x k : Nat) : innK F x (k + 1) = if (x.testBit k && F.getD (nd x (2 ^ k)) false) = true then innK F x k ||| 2 ^ k else innK F x k := by
 simp only [innK, List.range_succ, List.foldl_append, List.foldl_cons, List.foldl_nil]
theorem innK_7 (F : List Bool) (x : Nat) : innK F x 7 = innerF F x := rfl
theorem innK_lt (F : List Bool) (x k : Nat) (h : k ≤ 7) : innK F x k < 128 := orFold_lt (fun i => x.testBit i && F.getD (nd x (2 ^ i)) false) _ _ (fun i hi => by have := List.mem_range.1 hi; omega) (by decide)
theorem two_lt128 {i : Nat} (h : i < 7) : 2 ^ i < 128 := show 2 ^ i < 2 ^ 7 from Nat.pow_lt_pow_right (by decide) h
def risen' (n : Int) (l : List Int) (k : Nat) : Bool := (List.range k).all fun (i : Nat) => okAt n l i
theorem risen'_succ (n : Int) (l : List Int) (k : Nat) : risen' n l (k + 1) = (risen' n l k && okAt n l k) := by simp [risen', List.range_succ]
theorem risingB_not {n : Int} {l : List Int} {i : Nat} (h : i < l.length) (hb : okAt n l i = false) : risingB n l = false := by
 rw [Bool.eq_false_iff]
 intro hc
 simp only [risingB, List.all_eq_true, List.mem_range] at hc
 rw [hc i h] at hb
 cases hb
theorem risingB_rise {n : Int} {l : List Int} (h : risingB n l = true) : Rise l := by
 have h1 : ∀ i : Nat, i + 1 < l.length → rd l (i : Int) < rd l ((i + 1 : Nat) : Int) := by
  intro i hi
  simp only [risingB, List.all_eq_true, List.mem_range] at h
  have := h (i + 1) hi
  simp only [okAt, Bool.and_eq_true, Bool.or_eq_true, decide_eq_true_eq] at this
  have h2 := this.2
  rw [show (((i + 1 : Nat) : Int) - 1) = i by omega] at h2
  omega
 intro i j hij hj
 obtain ⟨d, rfl⟩ : ∃ d, j = i + 1 + d := ⟨j - i - 1, by omega⟩
 clear hij
 induction d with
 | zero => exact h1 i hj
 | succ d ih =>
  have := ih (by omega)
  have h2 := h1 (i + 1 + d) (by omega)
  rw [show i + 1 + (d + 1) = i + 1 + d + 1 by omega]
  omega
theorem allTo_nat (P : Int → Bool) (l : List Int) (i : Nat) (h : i < l.length) : allTo P l ((i + 1 : Nat) : Int) = (allTo P l i && P (rd l i)) := by
 have := allTo_succ P l i (by omega) (by omega)
 push_cast
 exact this
theorem getD_pow {n : Int} (l : List Int) (h1 : 1 ≤ n) (h7 : n ≤ 7) : (famOf l).getD (2 ^ n.toNat - 1) false = decide ((2 ^ n.toNat - 1 : Int) ∈ l) := by
 have hp := pow128 (n := n) (by omega) h7
 have e : ((2 ^ n.toNat : Nat) : Int) = (2 : Int) ^ n.toNat := by push_cast; rfl
 rw [famOf_getD l _ (by omega)]
 congr 2
 omega
def outK (F : List Bool) (x k : Nat) : Nat := (List.range k).foldl (fun a i => if (!x.testBit i && F.getD (x ||| 2 ^ i) false) = true then a ||| 2 ^ i else a) 0
theorem outK_succ (F : List Bool) (x k : Nat) : outK F x (k + 1) = if (!x.testBit k && F.getD (x ||| 2 ^ k) false) = true then outK F x k ||| 2 ^ k else outK F x k := by
 simp only [outK, List.range_succ, List.foldl_append, List.foldl_cons, List.foldl_nil]
theorem outK_7 (F : List Bool) (x : Nat) : outK F x 7 = outerF F x := rfl
theorem shr_ways {x i j : Int} (h : shr .i64 x i = j) (hle : i ≤ 64) : x / 2 ^ min i.toNat 64 = j ∧ x / 2 ^ i.toNat = j := ⟨h, shr_small h hle⟩
theorem and_one (x : Nat) (i : Int) (h0 : 0 ≤ i) (h1 : i < 64) (hx : x < 128) : ∃ j : Int, 0 ≤ j ∧ j < 128 ∧ shr .i64 (x : Int) i = j ∧ Go.bits .and .i64 j 1 = if x.testBit i.toNat then 1 else 0 := by
 obtain ⟨n, rfl⟩ := Int.eq_ofNat_of_zero_le h0
 refine ⟨((x / 2 ^ n : Nat) : Int), Int.natCast_nonneg _, ?_, shr_nat x n (by omega), ?_⟩
 ·
  exact Int.ofNat_lt.2 (Nat.lt_of_le_of_lt (Nat.div_le_self x (2 ^ n)) hx)
 ·
  rw [Int.toNat_natCast]
  exact bit_and x n (lt63 hx)
theorem isSpaceB_parts {n : Int} {l : List Int} (h : isSpaceB n l = true) : 1 ≤ n ∧ n ≤ 7 ∧ (l.length : Int) ≤ 2 ^ n.toNat ∧ risingB n l = true ∧ (famOf l).getD 0 false = true ∧ (famOf l).getD (2 ^ n.toNat - 1) false = true ∧ unionsB (famOf l) l = true := by
 unfold isSpaceB at h
 simp only [Bool.and_eq_true, decide_eq_true_eq] at h
 obtain ⟨⟨⟨⟨⟨⟨h1, h2⟩, h3⟩, h4⟩, h5⟩, h6⟩, h7⟩ := h
 exact ⟨h1, h2, h3, h4, h5, h6, h7⟩
theorem isSpaceB_mem {n : Int} {l : List Int} (h : isSpaceB n l = true) : ∀ x ∈ l, 0 ≤ x ∧ x < 2 ^ n.toNat := fun x hx => risingB_mem (isSpaceB_parts h).2.2.2.1 hx
theorem isSpaceB_128 {n : Int} {l : List Int} (h : isSpaceB n l = true) : ∀ x ∈ l, 0 ≤ x ∧ x < 128 := fun x hx => by
 have h1 := isSpaceB_mem h x hx
 have h2 := isSpaceB_parts h
 have := pow128 (n := n) (by omega) h2.2.1
 omega
def hasSetB (n : Int) (l : List Int) (x : Int) : Bool := isSpaceB n l && (decide (0 ≤ x) && decide (x < 2 ^ n.toNat))
def isKnownB (n : Int) (l : List Int) (x : Int) : Bool := isSpaceB n l && decide (x ∈ l)
/-- Does it hold of all ahead of the index i? (entries of any type) -/
def allG {α : Type} (P : α → Bool) (l : List α) (i : Int) : Bool := (l.take i.toNat).all P
theorem allG_succ {α : Type} (d : α) (P : α → Bool) (l : List α) (i : Int) (h0 : 0 ≤ i) (h1 : i < l.length) : allG P l (i + 1) = (allG P l i && P (l.getD i.toNat d)) := by
 have hk : i.toNat < l.length := by omega
 unfold allG
 rw [show (i + 1).toNat = i.toNat + 1 by omega, List.take_succ_eq_append_getElem hk, List.all_append, List.getD_eq_getElem?_getD, List.getElem?_eq_getElem hk]
 simp
theorem allG_end {α : Type} (P : α → Bool) (l : List α) (i : Int) (h : i = l.length) : allG P l i = l.all P := by
 unfold allG
 rw [h, Int.toNat_natCast, List.take_length]
theorem getD_mem {α : Type} (d : α) {l : List α} {i : Int} (h0 : 0 ≤ i) (h1 : i < l.length) : l.getD i.toNat d ∈ l := by
 have hk : i.toNat < l.length := by omega
 rw [List.getD_eq_getElem?_getD, List.getElem?_eq_getElem hk]
 exact List.getElem_mem hk
def idxG {α : Type} (p : α → Bool) (l : List α) : Int := match l.findIdx? p with | some i => (i : Int) | none => -1
theorem idxG_hit {α : Type} (d : α) {p : α → Bool} {l : List α} {i : Int} (h0 : 0 ≤ i) (h1 : i < l.length) (hz : allG (fun x => !p x) l i = true) (hp : p (l.getD i.toNat d) = true) : idxG p l = i := by
 have hk : i.toNat < l.length := by omega
 rw [List.getD_eq_getElem?_getD, List.getElem?_eq_getElem hk] at hp
 have : l.findIdx? p = some i.toNat := by
  rw [List.findIdx?_eq_some_iff_getElem]
  refine ⟨hk, hp, fun j hj => ?_⟩
  simp only [allG, List.all_eq_true] at hz
  have := hz l[j] (by rw [List.mem_take_iff_getElem]; exact ⟨j, by omega, rfl⟩)
  simpa using this
 unfold idxG
 rw [this]
 simp only
 omega
theorem idxG_miss {α : Type} {p : α → Bool} {l : List α} (hz : l.all (fun x => !p x) = true) : idxG p l = -1 := by
 have : l.findIdx? p = none := by
  rw [List.findIdx?_eq_none_iff]
  intro x hx
  simp only [List.all_eq_true] at hz
  simpa using hz x hx
 unfold idxG
 rw [this]
theorem idxG_any {α : Type} (p : α → Bool) (l : List α) : decide (0 ≤ idxG p l) = l.any p := by
 unfold idxG
 cases h : l.findIdx? p with
 | none =>
  rw [List.findIdx?_eq_none_iff] at h
  have : l.any p = false := by rw [List.any_eq_false]; intro x hx; simpa using h x hx
  rw [this]
  rfl
 | some i =>
  rw [List.findIdx?_eq_some_iff_getElem] at h
  obtain ⟨hi, hp, _⟩ := h
  have : l.any p = true := by rw [List.any_eq_true]; exact ⟨l[i], List.getElem_mem hi, hp⟩
  rw [this]
  simp

-- HAND lib order
/-- Is no entry met before? -/
def newAt (l : List Int) (k : Nat) : Bool := !decide (rd l k ∈ l.take k)
def newTo (l : List Int) (k : Nat) : Bool := (List.range k).all (newAt l)
/-- Each of n numbers once. -/
def isOrderB (l : List Int) (n : Int) : Bool := decide ((l.length : Int) = n) && (decide (1 ≤ n) && decide (n ≤ 7)) && l.all (fun x => decide (0 ≤ x) && decide (x < n)) && newTo l l.length
/-- The items of a list, as a set. -/
def maskL (l : List Int) : Nat := l.foldl (fun a x => a ||| 2 ^ x.toNat) 0
theorem rd_append (a b : List Int) (x : Int) : rd (a ++ x :: b) (a.length : Int) = x := by simp [rd, List.getD]
/-- The sets of the beginnings. -/
def chainFrom (s : Nat) : List Int → List Int
  | [] => []
  | x :: r => ((s ||| 2 ^ x.toNat : Nat) : Int) :: chainFrom (s ||| 2 ^ x.toNat) r
-- HAND lib count
/-- How many items a set has. -/
def cntN (x : Nat) : Nat := ((List.range 7).filter (x.testBit ·)).length
def mostL (F : List Bool) (l : List Int) : Int := l.foldl (fun m x => max m (cntN (innerF F x.toNat) + cntN (outerF F x.toNat) : Int)) 0
-- HAND lib famlist
/-- The sets of a family that are below a number. -/
def setsTo (F : List Bool) (i : Nat) : List Int := ((List.range i).filter (fun j => F.getD j false)).map (fun (j : Nat) => (j : Int))
def setsOf (F : List Bool) : List Int := setsTo F 128
-- HAND lib inc
theorem Rise.inc {l : List Int} (h : Rise l) : l.Pairwise (· < ·) := by
  rw [List.pairwise_iff_getElem]
  intro i j hi hj hij
  have := h i j hij hj
  rwa [rd_get hi, rd_get hj] at this
theorem nd_off (y i : Nat) : (nd y (2 ^ i)).testBit i = false := by
  rw [nd_testBit, Nat.testBit_two_pow]
  simp
theorem or_on (y i : Nat) : (y ||| 2 ^ i).testBit i = true := by
  rw [Nat.testBit_or, Nat.testBit_two_pow]
  simp
theorem nd_le (y b : Nat) : nd y b ≤ y := by
  have : nd y b = y &&& nd y b := by
    apply Nat.eq_of_testBit_eq
    intro j
    rw [Nat.testBit_and, nd_testBit]
    cases y.testBit j <;> simp
  rw [this]
  exact Nat.and_le_left
theorem nd_less {y i : Nat} (h : y.testBit i = true) : nd y (2 ^ i) < y := by
  refine Nat.lt_of_le_of_ne (nd_le _ _) (fun e => ?_)
  have := nd_off y i
  rw [e, h] at this
  cases this
theorem maskOf_zero (p : Nat → Bool) : maskOf p = 0 ↔ ∀ i, i < 7 → p i = false := by
  constructor
  · intro h i hi
    have := maskOf_bit p i hi
    rw [h, Nat.zero_testBit] at this
    exact this.symm
  · intro h
    apply Nat.eq_of_testBit_eq
    intro j
    rw [Nat.zero_testBit]
    by_cases hj : j < 7
    · rw [maskOf_bit p j hj, h j hj]
    · exact Nat.testBit_lt_two_pow (Nat.lt_of_lt_of_le (maskOf_lt p) (show 2 ^ 7 ≤ 2 ^ j from Nat.pow_le_pow_right (by decide) (by omega)))
theorem itemsN_mem (x i : Nat) : i ∈ itemsN x ↔ i < 7 ∧ x.testBit i = true := by
  simp only [itemsN, List.mem_filter]
  constructor
  · rintro ⟨h, h2⟩
    simp at h
    exact ⟨by omega, h2⟩
  · rintro ⟨h, h2⟩
    refine ⟨?_, h2⟩
    simp
    omega
-- HAND lib short
/-- A world that stands some plain steps (draws, new blocks) behind another one. -/
class UpFrom (W W0 : World) : Prop where
  below : Below W0.heap.size W0 W
instance upSame (W : World) : UpFrom W W := ⟨Below.refl _ _⟩
instance upDrewN (W W0 : World) (n : Nat) [u : UpFrom W W0] : UpFrom (W.drewN n) W0 := ⟨pw_below_drewN u.below n⟩
instance upDrew (W W0 : World) [u : UpFrom W W0] : UpFrom W.drew W0 := ⟨below_drew1 u.below⟩
instance upAlloc (W W0 : World) (o : Obj) [u : UpFrom W W0] : UpFrom (W.alloc o) W0 := ⟨below_alloc u.below o⟩
theorem upB {W W0 : World} {g : Nat} {o : Obj} (h : W0.heap[g]? = some o) [u : UpFrom W W0] : W.heap[g]? = some o := (u.below.block g (blk_lt h)).trans h
theorem upR {α : Type} {d : Kd α} {e base : Nat} {ok : Nat → Prop} {W W0 : World} {v : Value} {xs : List α} (h : d.R e W0 base ok v xs) [u : UpFrom W W0] : d.R e W base ok v xs := Kd.R_below h u.below
theorem asd {p : Prop} (h : p) : Aside0 p := ⟨h⟩
-- HAND lib ask
/-- Is a set left by answers? -/
def keeps (y n a : Int) : Bool := decide (nd y.toNat a.toNat = 0) && decide (a.toNat &&& n.toNat = 0)
def leftL (l : List Int) (y n : Int) : List Int := l.filter (keeps y n)
/-- Do answers go with a space? -/
def answersB (n : Int) (l : List Int) (y m : Int) : Bool := hasSetB n l y && (decide (0 ≤ m) && decide (m < 2 ^ n.toNat)) && decide (y.toNat &&& m.toNat = 0)
def goOnB (n : Int) (l : List Int) (y m : Int) : Bool := answersB n l y m && decide ((leftL l y m).length > 0)
theorem isSpaceB_len {n : Int} {l : List Int} (h : isSpaceB n l = true) : l.length ≤ 128 := by
  have hp := isSpaceB_parts h
  have := pow128 (n := n) (by omega) hp.2.1
  omega
-- HAND lib path
/-- Is a set a part of another one? -/
def Sub (a b : Nat) : Prop := ∀ i, a.testBit i = true → b.testBit i = true
theorem sub_of_nd {a b : Nat} (h : nd a b = 0) : Sub a b := by
 intro i hi
 have := nd_testBit a b i
 rw [h, Nat.zero_testBit, hi] at this
 cases hb : b.testBit i with
 | true => rfl
 | false => rw [hb] at this; cases this
theorem sub_zero (b : Nat) : Sub 0 b := fun i h => by rw [Nat.zero_testBit] at h; cases h
theorem sub_antisymm {a b : Nat} (h1 : Sub a b) (h2 : Sub b a) : a = b := by
 apply Nat.eq_of_testBit_eq
 intro i
 rw [Bool.eq_iff_iff]
 exact ⟨h1 i, h2 i⟩
theorem sub_or {a b i : Nat} (h : Sub a b) (hi : b.testBit i = true) : Sub (a ||| 2 ^ i) b := by
 intro j hj
 rw [Nat.testBit_or, Nat.testBit_two_pow] at hj
 by_cases e : i = j
 ·
  rw [← e]; exact hi
 ·
  rw [decide_eq_false e, Bool.or_false] at hj
  exact h j hj
theorem or_greater {a i : Nat} (h : a.testBit i = false) : a < a ||| 2 ^ i := by
 refine Nat.lt_of_le_of_ne Nat.left_le_or (fun e => ?_)
 have := or_on a i
 rw [← e, h] at this
 cases this
/-- The first item of a set. -/
theorem itemsN_first {x i : Nat} {t : List Nat} (h : itemsN x = i :: t) : i < 7 ∧ x.testBit i = true ∧ ∀ j, j < i → x.testBit j = false := by
 have hi : i ∈ itemsN x := by rw [h]; exact List.mem_cons_self
 have hi2 := (itemsN_mem x i).1 hi
 refine ⟨hi2.1, hi2.2, fun j hj => ?_⟩
 rw [Bool.eq_false_iff]
 intro hb
 have hm : j ∈ itemsN x := (itemsN_mem x j).2 ⟨by omega, hb⟩
 have hp : (itemsN x).Pairwise (· < ·) := by
  unfold itemsN
  exact List.Pairwise.filter _ (by decide)
 rw [h] at hm hp
 rw [List.pairwise_cons] at hp
 rw [List.mem_cons] at hm
 rcases hm with e | hm
 ·
  omega
 ·
  have := hp.1 j hm
  omega
theorem itemsN_none {x : Nat} (h : itemsN x = []) : ∀ j, j < 7 → x.testBit j = false := by
 intro j hj
 rw [Bool.eq_false_iff]
 intro hb
 have := (itemsN_mem x j).2 ⟨hj, hb⟩
 rw [h] at this
 cases this
/-- The sets of a space, as a family told by its facts. -/
structure Learn (F : List Bool) : Prop where
 zero : F.getD 0 false = true
 step : ∀ x, F.getD x false = true → x ≠ 0 → ∃ i, i < 7 ∧ x.testBit i = true ∧ F.getD (nd x (2 ^ i)) false = true
 join : ∀ x y, F.getD x false = true → F.getD y false = true → F.getD (x ||| y) false = true
theorem fam_lt {l : List Int} {x : Nat} (h : (famOf l).getD x false = true) : x < 128 := by
 rcases Nat.lt_or_ge x 128 with h' | h'
 ·
  exact h'
 ·
  have hl := famOf_length l
  rw [List.getD_eq_getElem?_getD, List.getElem?_eq_none (by omega)] at h
  cases h
theorem fam_mem {l : List Int} {x : Nat} (h : (famOf l).getD x false = true) : (x : Int) ∈ l := by
 have := fam_lt h
 rw [famOf_getD l x this, decide_eq_true_eq] at h
 exact h
theorem mem_fam {l : List Int} {x : Int} (h : x ∈ l) (h0 : 0 ≤ x) (h1 : x < 128) : (famOf l).getD x.toNat false = true := by
 rw [famOf_getD _ _ (by omega), decide_eq_true_eq, show ((x.toNat : Nat) : Int) = x by omega]
 exact h
theorem learn_of_space {n : Int} {l : List Int} (h : isSpaceB n l = true) : Learn (famOf l) := by
 obtain ⟨n1, n7, hl, hR, hz, ha, hu⟩ := isSpaceB_parts h
 have hM := isSpaceB_128 h
 have hu' : ∀ x ∈ l, (x = 0 ∨ innerF (famOf l) x.toNat ≠ 0) ∧ ∀ y ∈ l, (famOf l).getD (x.toNat ||| y.toNat) false = true := by
  intro x hx
  unfold unionsB at hu
  rw [List.all_eq_true] at hu
  have := hu x hx
  rw [Bool.and_eq_true] at this
  refine ⟨?_, fun y hy => ?_⟩
  ·
   have h1 := this.1
   simp only [Bool.or_eq_true, Bool.not_eq_true', decide_eq_true_eq, decide_eq_false_iff_not] at h1
   exact h1
  ·
   have h2 := this.2
   unfold unionRow at h2
   rw [List.all_eq_true] at h2
   exact h2 y hy
 refine ⟨hz, fun x hx h0 => ?_, fun x y hx hy => ?_⟩
 ·
  have hm := fam_mem hx
  have h1 := (hu' _ hm).1
  rw [Int.toNat_natCast] at h1
  rcases h1 with h1 | h1
  ·
   omega
  ·
   have : ¬ ∀ i, i < 7 → (x.testBit i && (famOf l).getD (nd x (2 ^ i)) false) = false := by
    intro hc
    exact h1 ((maskOf_zero _).2 hc)
   have h2 : ∃ i, i < 7 ∧ (x.testBit i && (famOf l).getD (nd x (2 ^ i)) false) = true := by
    apply Classical.byContradiction
    intro hc
    apply this
    intro i hi
    rw [Bool.eq_false_iff]
    intro hb
    exact hc ⟨i, hi, hb⟩
   obtain ⟨i, hi, hb⟩ := h2
   rw [Bool.and_eq_true] at hb
   exact ⟨i, hi, hb.1, hb.2⟩
 ·
  have h1 := (hu' _ (fam_mem hx)).2 _ (fam_mem hy)
  rwa [Int.toNat_natCast, Int.toNat_natCast] at h1
/-- From a set that lacks something of another one, one item of that other one can be learnt. -/
theorem Learn.go {F : List Bool} (hL : Learn F) {s : Nat} (hs : F.getD s false = true) : ∀ (m c : Nat), c ≤ m → F.getD c false = true → ¬ Sub c s → ∃ i, i < 7 ∧ c.testBit i = true ∧ s.testBit i = false ∧ F.getD (s ||| 2 ^ i) false = true := by
 intro m
 induction m with
 | zero =>
  intro c hc _ hns
  obtain rfl : c = 0 := by omega
  exact absurd (sub_zero s) hns
 | succ m ih =>
  intro c hc hF hns
  have hc0 : c ≠ 0 := fun e => hns (e ▸ sub_zero s)
  obtain ⟨i, hi, hb, hF2⟩ := hL.step c hF hc0
  have hlt := nd_less hb
  by_cases hsub : Sub (nd c (2 ^ i)) s
  ·
   have hsi : s.testBit i = false := by
    rw [Bool.eq_false_iff]
    intro h
    apply hns
    intro j hj
    by_cases e : i = j
    ·
     rw [← e]; exact h
    ·
     apply hsub j
     rw [nd_testBit, hj, Nat.testBit_two_pow, decide_eq_false e]
     rfl
   refine ⟨i, hi, hb, hsi, ?_⟩
   have hj := hL.join s c hs hF
   have he : s ||| c = s ||| 2 ^ i := by
    apply Nat.eq_of_testBit_eq
    intro j
    rw [Nat.testBit_or, Nat.testBit_or, Nat.testBit_two_pow]
    by_cases e : i = j
    ·
     subst e
     simp [hb]
    ·
     have : c.testBit j = true → s.testBit j = true := fun h => hsub j (by rw [nd_testBit, h, Nat.testBit_two_pow, decide_eq_false e]; rfl)
     rw [decide_eq_false e, Bool.or_false]
     cases hcj : c.testBit j with
     | false => rw [Bool.or_false]
     | true => rw [this hcj]; rfl
   rwa [he] at hj
  ·
   obtain ⟨j, hj, hcj, h1, h2⟩ := ih (nd c (2 ^ i)) (by omega) hF2 hsub
   rw [nd_testBit, Bool.and_eq_true] at hcj
   exact ⟨j, hj, hcj.1, h1, h2⟩
/-- The first item of a goal that can be learnt behind a set. -/
theorem Learn.next {F : List Bool} (hL : Learn F) {s g : Nat} (hs : F.getD s false = true) (hg : F.getD g false = true) (hsg : Sub s g) (hne : s ≠ g) :
  ∃ i t, itemsN (outerF F s &&& g) = i :: t ∧ i < 7 ∧ g.testBit i = true ∧ s.testBit i = false ∧ F.getD (s ||| 2 ^ i) false = true ∧ ∀ j, j < i → (nd g s).testBit j = false ∨ F.getD (s ||| 2 ^ j) false = false := by
 cases h : itemsN (outerF F s &&& g) with
 | nil =>
  exfalso
  obtain ⟨i, hi, h1, h2, h3⟩ := hL.go hs g g (Nat.le_refl _) hg (fun h' => hne (sub_antisymm hsg h'))
  have := itemsN_none h i hi
  rw [Nat.testBit_and, h1, Bool.and_true] at this
  unfold outerF at this
  rw [maskOf_bit _ _ hi, h2, h3] at this
  cases this
 | cons i t =>
  obtain ⟨hi, hb, hmin⟩ := itemsN_first h
  rw [Nat.testBit_and, Bool.and_eq_true] at hb
  unfold outerF at hb hmin
  rw [maskOf_bit _ _ hi, Bool.and_eq_true, Bool.not_eq_true'] at hb
  refine ⟨i, t, rfl, hi, hb.2, hb.1.1, hb.1.2, fun j hj => ?_⟩
  have h1 := hmin j hj
  rw [Nat.testBit_and, maskOf_bit _ _ (by omega)] at h1
  rw [nd_testBit]
  cases hgj : g.testBit j with
  | false => exact .inl rfl
  | true =>
   cases hsj : s.testBit j with
   | true => exact .inl rfl
   | false =>
    right
    rw [hgj, hsj] at h1
    simpa using h1

-- HAND lib greedyK
/-- The pick among the items i, i + 1, .. of a set: the first of the least. -/
def pickN (v : Nat → Int) (o : Nat) : Nat → Nat → Int → Int
 | 0, _, b => b
 | d + 1, i, b => pickN v o d (i + 1) (if o.testBit i = true then (if b < 0 then (i : Int) else if v i < v b.toNat then (i : Int) else b) else b)
/-- The same over a list. -/
def pickL (v : Nat → Int) : List Nat → Int → Int
 | [], b => b
 | i :: t, b => pickL v t (if b < 0 then (i : Int) else if v i < v b.toNat then (i : Int) else b)
theorem cnt_or : ∀ (x : Fin 128) (i : Fin 7), x.val.testBit i.val = false → cntN (x.val ||| 2 ^ i.val) = cntN x.val + 1 := by decide +kernel
theorem cnt_full : ∀ (n : Fin 8) (x : Fin 128), x.val < 2 ^ n.val → (cntN x.val = n.val ↔ x.val = 2 ^ n.val - 1) := by decide +kernel
/-- What is learnt so far: a set of the space, with so many items. -/
structure GInv (n : Nat) (F : List Bool) (x m : Nat) : Prop where
 mem : F.getD x false = true
 lt : x < 2 ^ n
 cnt : cntN x = m
theorem GInv.x128 {n x m : Nat} {F : List Bool} (h : GInv n F x m) (hn : n ≤ 7) : x < 128 := by
 have e : 2 ^ n ≤ 2 ^ 7 := Nat.pow_le_pow_right (by decide) hn
 have := h.lt
 omega
theorem GInv.full {n x m : Nat} {F : List Bool} (h : GInv n F x m) (hn : n ≤ 7) : x = 2 ^ n - 1 ↔ m = n := by
 have := cnt_full ⟨n, by omega⟩ ⟨x, h.x128 hn⟩ h.lt
 rw [← h.cnt]
 exact this.symm
/-- The greedy word. -/
def greedyW (v : Nat → Nat → Int) (F : List Bool) : Nat → Nat → List Int → List Int
 | 0, _, out => out
 | d + 1, x, out => greedyW v F d (x ||| 2 ^ (pickN (v x) (outerF F x) 7 0 (-1)).toNat) (out ++ [pickN (v x) (outerF F x) 7 0 (-1)])
theorem GInv.start {n : Int} {l : List Int} (hS : isSpaceB n l = true) : GInv n.toNat (famOf l) 0 ([] : List Int).length := ⟨(learn_of_space hS).zero, Nat.pow_pos (by decide), by decide⟩

end Go.Proofs.Ytkepeflplmkcmaa.Q
