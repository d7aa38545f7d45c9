/- Contracts of functions that the laws reach: a call returns what the plain Lean function of the same name tells. Conditions: those of each theorem. Made by gen.py, a program of this session, over the print of the translation. -/
import Derived.Test.YtneibmhbcjbmjaaQx0
import Derived.Shelf.Abstract
namespace Go.Proofs.Ytneibmhbcjbmjaa.Q
open Go.RowKit Go.Proofs.YtneibmhbcjbmjaaW.PrintWords Go.Proofs.YtneibmhbcjbmjaaW.PrintLast Go.Proofs.YtneibmhbcjbmjaaW.PrintMore
attribute [local go_sem] max2_int min2_int max_two min_two max_three min_three max_four min_four   -- for this text's walks alone
set_option linter.unusedVariables false
set_option linter.unusedSimpArgs false

-- HAND lib bits
theorem wrap_nat (n : Nat) (h : n < 9223372036854775808) : IntKind.i64.wrap (n : Int) = n := by
  unfold IntKind.wrap IntKind.bits IntKind.signed
  simp only [Bool.true_and, decide_eq_true_eq]
  have : ((n : Int) % 2 ^ 64) = n := by omega
  rw [this]
  split <;> omega
theorem ofInt_nat (n : Nat) : BitVec.ofInt 64 (n : Int) = BitVec.ofNat 64 n := by simp
theorem toNat64 (n : Nat) (h : n < 9223372036854775808) : (BitVec.ofNat 64 n).toNat = n := by simp; omega
theorem bits_or (a b : Nat) (ha : a < 9223372036854775808) (hb : b < 9223372036854775808) : Go.bits .or .i64 (a : Int) (b : Int) = ((a ||| b : Nat) : Int) := by
  show IntKind.i64.wrap ((BitVec.ofInt 64 (a : Int) ||| BitVec.ofInt 64 (b : Int)).toNat : Int) = _
  rw [ofInt_nat, ofInt_nat, BitVec.toNat_or, toNat64 a ha, toNat64 b hb]
  exact wrap_nat _ (Nat.or_lt_two_pow (n := 63) ha hb)
theorem bits_and (a b : Nat) (ha : a < 9223372036854775808) (hb : b < 9223372036854775808) : Go.bits .and .i64 (a : Int) (b : Int) = ((a &&& b : Nat) : Int) := by
  show IntKind.i64.wrap ((BitVec.ofInt 64 (a : Int) &&& BitVec.ofInt 64 (b : Int)).toNat : Int) = _
  rw [ofInt_nat, ofInt_nat, BitVec.toNat_and, toNat64 a ha, toNat64 b hb]
  exact wrap_nat _ (Nat.lt_of_le_of_lt Nat.and_le_left ha)
theorem bits_xor (a b : Nat) (ha : a < 9223372036854775808) (hb : b < 9223372036854775808) : Go.bits .xor .i64 (a : Int) (b : Int) = ((a ^^^ b : Nat) : Int) := by
  show IntKind.i64.wrap ((BitVec.ofInt 64 (a : Int) ^^^ BitVec.ofInt 64 (b : Int)).toNat : Int) = _
  rw [ofInt_nat, ofInt_nat, BitVec.toNat_xor, toNat64 a ha, toNat64 b hb]
  exact wrap_nat _ (Nat.xor_lt_two_pow (n := 63) ha hb)
/-- What a has and b has not. -/
def nd (a b : Nat) : Nat := a ^^^ (a &&& b)
theorem nd_testBit (a b i : Nat) : (nd a b).testBit i = (a.testBit i && !b.testBit i) := by
  simp only [nd, Nat.testBit_xor, Nat.testBit_and]
  cases a.testBit i <;> cases b.testBit i <;> rfl
theorem nd_lt {a b n : Nat} (h : a < 2 ^ n) : nd a b < 2 ^ n := Nat.xor_lt_two_pow h (Nat.lt_of_le_of_lt Nat.and_le_left h)
theorem bits_nd (a b : Nat) (ha : a < 9223372036854775808) (hb : b < 9223372036854775808) : Go.bits .andNot .i64 (a : Int) (b : Int) = ((nd a b : Nat) : Int) := by
  show IntKind.i64.wrap ((BitVec.ofInt 64 (a : Int) &&& ~~~ BitVec.ofInt 64 (b : Int)).toNat : Int) = _
  rw [ofInt_nat, ofInt_nat]
  have h : (BitVec.ofNat 64 a &&& ~~~ BitVec.ofNat 64 b).toNat = nd a b := by
    apply Nat.eq_of_testBit_eq
    intro i
    rw [nd_testBit, BitVec.testBit_toNat, BitVec.getLsbD_and, BitVec.getLsbD_not, ← BitVec.testBit_toNat, ← BitVec.testBit_toNat, toNat64 a ha, toNat64 b hb]
    by_cases hi : i < 64
    · simp [hi]
    · have : a.testBit i = false := Nat.testBit_lt_two_pow (Nat.lt_of_lt_of_le ha (Nat.le_trans (by decide) (Nat.pow_le_pow_right (by decide) (Nat.le_of_not_lt hi))))
      simp [this]
  rw [h]
  exact wrap_nat _ (nd_lt (n := 63) ha)
theorem pow_lt63 (i : Nat) (h : i < 63) : 2 ^ i < 9223372036854775808 := Nat.pow_lt_pow_right (by decide) h
theorem shl_one (i : Nat) (h : i < 63) : shl .i64 1 (i : Int) = ((2 ^ i : Nat) : Int) := by
  unfold shl
  rw [Int.toNat_natCast, Nat.min_eq_left (show i ≤ IntKind.i64.bits from show i ≤ 64 by omega), Int.one_mul]
  exact (by simpa using wrap_nat (2 ^ i) (pow_lt63 i h))
theorem wrap_pow (i : Nat) (h : i < 63) : IntKind.i64.wrap (2 ^ i : Int) = ((2 ^ i : Nat) : Int) := by simpa using wrap_nat (2 ^ i) (pow_lt63 i h)
theorem shr_nat (a i : Nat) (h : i < 64) : shr .i64 (a : Int) (i : Int) = ((a / 2 ^ i : Nat) : Int) := by
  unfold shr
  rw [Int.toNat_natCast, Nat.min_eq_left (show i ≤ IntKind.i64.bits from show i ≤ 64 by omega)]
  simp
theorem bit_and (a i : Nat) (h : a < 9223372036854775808) : Go.bits .and .i64 ((a / 2 ^ i : Nat) : Int) 1 = if a.testBit i then 1 else 0 := by
  have e := bits_and (a / 2 ^ i) 1 (Nat.lt_of_le_of_lt (Nat.div_le_self _ _) h) (by decide)
  rw [show ((1 : Nat) : Int) = 1 from rfl] at e
  rw [e, Nat.and_one_is_mod, Nat.testBit_eq_decide_div_mod_eq]
  have := Nat.mod_two_eq_zero_or_one (a / 2 ^ i)
  rcases this with h | h <;> simp [h]

/-- The items of a set, as numbers. -/
def itemsN (x : Nat) : List Nat := [0, 1, 2, 3, 4, 5, 6].filter fun i => x.testBit i
def itemsL (x : Int) : List Int := (itemsN x.toNat).map fun (i : Nat) => (i : Int)
theorem itemsN_lt {x i : Nat} (h : i ∈ itemsN x) : i < 7 := by
  simp [itemsN] at h
  omega
theorem itemsN_bit {x i : Nat} (h : i ∈ itemsN x) : x.testBit i = true := by
  simp only [itemsN, List.mem_filter] at h
  exact h.2
/-- Bit by bit below 7, a number that tells where something holds. -/
def maskOf (p : Nat → Bool) : Nat := [0, 1, 2, 3, 4, 5, 6].foldl (fun a i => if p i then a ||| 2 ^ i else a) 0
theorem orFold_lt (p : Nat → Bool) : ∀ (l : List Nat) (a : Nat), (∀ i ∈ l, i < 7) → a < 128 → l.foldl (fun a i => if p i then a ||| 2 ^ i else a) a < 128
  | [], a, _, h => h
  | i :: l, a, hl, h => by
    have hi := hl i (by simp)
    refine orFold_lt p l _ (fun j hj => hl j (by simp [hj])) ?_
    show (if p i = true then a ||| 2 ^ i else a) < 128
    split
    · exact Nat.or_lt_two_pow (n := 7) h (Nat.pow_lt_pow_right (by decide) hi)
    · exact h
theorem orFold_bit (p : Nat → Bool) (j : Nat) : ∀ (l : List Nat) (a : Nat), (l.foldl (fun a i => if p i then a ||| 2 ^ i else a) a).testBit j = (a.testBit j || (decide (j ∈ l) && p j))
  | [], a => by simp
  | i :: l, a => by
    rw [List.foldl_cons, orFold_bit p j l]
    by_cases e : j = i
    · subst e
      by_cases hp : p j = true
      · simp [hp, Nat.testBit_or, Nat.testBit_two_pow]
      · simp [hp]
    · have e' : ¬ i = j := fun h => e h.symm
      by_cases hp : p i = true
      · simp [hp, Nat.testBit_or, Nat.testBit_two_pow, e, e']
      · simp [hp, e]
theorem maskOf_bit (p : Nat → Bool) (j : Nat) (h : j < 7) : (maskOf p).testBit j = p j := by
  have : j ∈ [0, 1, 2, 3, 4, 5, 6] := by simp; omega
  simp only [maskOf, orFold_bit, this]
  simp
theorem maskOf_lt (p : Nat → Bool) : maskOf p < 128 := orFold_lt p _ _ (by simp) (by decide)
theorem itemsFold (p : Nat → Bool) (x : Nat) : (itemsN x).foldl (fun a i => if p i then a ||| 2 ^ i else a) 0 = maskOf (fun i => x.testBit i && p i) := by
  apply Nat.eq_of_testBit_eq
  intro j
  simp only [maskOf, orFold_bit, itemsN, List.mem_filter]
  cases x.testBit j <;> simp
/-- What a walk knows of '1 << i'. -/
theorem shl_ways {i j : Int} (h : shl .i64 1 i = j) (hle : i ≤ 64) :
    (IntKind.i64.wrap (1 * 2 ^ min i.toNat 64)) = j ∧ (IntKind.i64.wrap (1 * 2 ^ i.toNat)) = j ∧ (IntKind.i64.wrap (2 ^ min i.toNat 64)) = j ∧ (IntKind.i64.wrap (2 ^ i.toNat)) = j ∧ (wrap64 (1 * 2 ^ min i.toNat 64)) = j ∧ (wrap64 (1 * 2 ^ i.toNat)) = j ∧ (wrap64 (2 ^ min i.toNat 64)) = j ∧ (wrap64 (2 ^ i.toNat)) = j := by
  have h1 : (IntKind.i64.wrap (1 * 2 ^ min i.toNat 64)) = j := h
  have h2 : (IntKind.i64.wrap (1 * 2 ^ i.toNat)) = j := shl_small h hle
  have h3 := h1
  have h4 := h2
  rw [Int.one_mul] at h3 h4
  exact ⟨h1, h2, h3, h4, (i64_w _).symm.trans h1, (i64_w _).symm.trans h2, (i64_w _).symm.trans h3, (i64_w _).symm.trans h4⟩
theorem shl_nat {i : Int} (h0 : 0 ≤ i) (h1 : i < 63) : shl .i64 1 i = ((2 ^ i.toNat : Nat) : Int) := by
  obtain ⟨n, rfl⟩ := Int.eq_ofNat_of_zero_le h0
  rw [shl_one n (by omega), Int.toNat_natCast]
theorem lt63 {n : Nat} (h : n < 128) : n < 9223372036854775808 := by omega
theorem pow_lt128 {i : Int} (h0 : 0 ≤ i) (h1 : i < 7) : 2 ^ i.toNat < 128 := show 2 ^ i.toNat < 2 ^ 7 from Nat.pow_lt_pow_right (by decide) (by omega)

-- HAND lib family
/-- A block that holds a family. -/
structure FamAt (w : World) (b : Nat) (F : List Bool) : Prop where
  len : F.length = 128
  blk : w.heap[b]? = some (.cells (F.map Value.bool).toArray 75 (0, 0))

def famOf (l : List Int) : List Bool := (List.range 128).map fun (i : Nat) => decide ((i : Int) ∈ l)
theorem famOf_length (l : List Int) : (famOf l).length = 128 := by simp [famOf]
theorem zeroFam : Try.zeroCells75 = ((famOf []).map Value.bool).toArray := by kernel_rfl
theorem FamAt.lt {w : World} {b : Nat} {F : List Bool} (h : FamAt w b F) : b < w.heap.size := blk_lt h.blk
theorem FamAt.below {w w' : World} {b : Nat} {F : List Bool} (h : FamAt w b F) (hb : Below w.heap.size w w') : FamAt w' b F := ⟨h.len, (hb.block b h.lt).trans h.blk⟩
theorem FamAt.at_ {w : World} {b : Nat} {F : List Bool} (h : FamAt w b F) (i : Int) (h0 : 0 ≤ i) (h1 : i < 128) : w.cell? ⟨b, i.toNat, none⟩ = some (.bool (F.getD i.toNat false)) := by
  rw [blk_cell h.blk]
  have hl := h.len
  have : i.toNat < F.length := by omega
  simp [List.getElem?_map, List.getD, this]
theorem FamAt.fr {w : World} {b : Nat} {F : List Bool} (h : FamAt w b F) (i : Nat) : w.frozen? ⟨b, i, none⟩ = false := blk_frozen h.blk i
theorem FamAt.set {w : World} {b : Nat} {F : List Bool} (h : FamAt w b F) (i : Nat) (v : Bool) : FamAt (w.setCell ⟨b, i, none⟩ (.bool v)) b (F.set i v) := by
  refine ⟨by simp [h.len], ?_⟩
  rw [blk_set h.blk]
  simp [List.map_set]
theorem FamAt.far {w : World} {b : Nat} {F : List Bool} (h : FamAt w b F) {p : Addr} (hp : b ≠ p.block) (u : Value) : FamAt (w.setCell p u) b F := ⟨h.len, blk_far h.blk hp u⟩
theorem FamAt.new (w : World) (F : List Bool) (hF : F.length = 128) : FamAt (w.alloc (.cells (F.map Value.bool).toArray 75)) w.heap.size F := ⟨hF, heap_alloc_new w _⟩
theorem FamAt.alloc {w : World} {b : Nat} {F : List Bool} (h : FamAt w b F) (o : Obj) : FamAt (w.alloc o) b F := h.below (below_alloc (Below.refl _ _) o)
theorem FamAt.drewN {w : World} {b : Nat} {F : List Bool} (h : FamAt w b F) (n : Nat) : FamAt (w.drewN n) b F := h.below (pw_below_drewN (Below.refl _ _) n)
theorem famOf_get (l : List Int) (i : Nat) (hi : i < 128) : (famOf l).getD i false = decide ((i : Int) ∈ l) := by simp [famOf, List.getD, hi]
theorem famOf_snoc (l : List Int) (x : Int) (h0 : 0 ≤ x) : (famOf l).set x.toNat true = famOf (l ++ [x]) := by
  apply List.ext_getElem?
  intro j
  by_cases hj : j < 128
  · by_cases e : x.toNat = j
    · have : (j : Int) = x := by omega
      simp [famOf, List.getElem?_set, e, hj, this]
    · have : ¬ (j : Int) = x := by omega
      simp [famOf, List.getElem?_set, e, hj, this]
  · simp [famOf, List.getElem?_set, hj]
theorem rd_mem {l : List Int} {i : Int} (h0 : 0 ≤ i) (h1 : i < l.length) : rd l i ∈ l := by
  have : i.toNat < l.length := by omega
  simp [rd, List.getD, this]
theorem take_rd (l : List Int) (k : Nat) (h : k < l.length) : l.take (k + 1) = l.take k ++ [rd l k] := by
  rw [List.take_succ_eq_append_getElem h]
  simp [rd, List.getD, h]

/-- The fringes of a set in a family. -/
def innerF (F : List Bool) (x : Nat) : Nat := maskOf fun i => x.testBit i && F.getD (nd x (2 ^ i)) false
def outerF (F : List Bool) (x : Nat) : Nat := maskOf fun i => !x.testBit i && F.getD (x ||| 2 ^ i) false

-- HAND lib evs
theorem Ev.succ {α : Type} {l g : Nat → Option α} {r : α} (h : ∀ k, l (k + 1) = g k) (hg : Ev g r) : Ev l r := by
  obtain ⟨K, hK⟩ := hg
  refine ⟨K + 1, fun k hk => ?_⟩
  obtain ⟨m, rfl⟩ : ∃ m, k = m + 1 := ⟨k - 1, by omega⟩
  rw [h, hK m (by omega)]
theorem Ev.to {α : Type} {g f : Nat → Option α} {r : α} (h : ∀ k, f k = g k) (hg : Ev g r) : Ev f r := by
  obtain ⟨K, hK⟩ := hg
  exact ⟨K, fun k hk => (h k).trans (hK k hk)⟩
theorem Ev.val {α : Type} {g : Nat → Option α} {r q : α} (hg : Ev g r) (e : r = q) : Ev g q := e ▸ hg
theorem Ev.const {α : Type} {o : Option α} {r : α} (h : o = some r) : Ev (fun _ => o) r := ⟨0, fun _ _ => h⟩
theorem Ev.bindc {α β : Type} {o : Option α} {f : Nat → α → Option β} {a : α} {r : β} (h : o = some a) (k : Ev (fun n => f n a) r) : Ev (fun n => o.bind (f n)) r := by
  subst h
  exact k
theorem wrap_succ {i : Int} (h0 : -1 ≤ i) (h : i < 9223372036854775807) : wrap64 (i + 1) = i + 1 := by
  unfold wrap64
  omega
theorem wrap_in {i : Int} (h0 : -9223372036854775808 ≤ i) (h : i ≤ 9223372036854775807) : wrap64 i = i := by
  unfold wrap64
  omega
theorem rd_get {l : List Int} {i : Nat} (h : i < l.length) : rd l (i : Int) = l[i] := by simp [rd, List.getD, h]
/-- Increasing. -/
def Rise (l : List Int) : Prop := ∀ i j : Nat, i < j → j < l.length → rd l i < rd l j
theorem Rise.mem_iff {l : List Int} (h : Rise l) (x : Int) (p : Nat) (hlo : ∀ i : Nat, i < p → i < l.length → rd l i < x) (hhi : ∀ i : Nat, p ≤ i → i < l.length → x ≤ rd l i) :
    (x ∈ l) ↔ (p < l.length ∧ rd l p = x) := by
  constructor
  · intro hx
    obtain ⟨i, hi, rfl⟩ := List.getElem_of_mem hx
    rw [← rd_get hi]
    have hle : p ≤ i := by
      rcases Nat.lt_or_ge i p with hlt | hge
      · have := hlo i hlt hi
        rw [rd_get hi] at this
        omega
      · exact hge
    rcases Nat.lt_or_ge p i with hlt | hge
    · have h1 := hhi p (Nat.le_refl _) (by omega)
      have h2 := h p i hlt hi
      rw [rd_get hi] at h2
      omega
    · obtain rfl : p = i := by omega
      exact ⟨hi, rfl⟩
  · rintro ⟨hp, rfl⟩
    exact rd_mem (by omega) (by omega)

-- HAND lib space
theorem Kd.at_rows {w : World} {A : Option Addr} {n e : Nat} {xs : List (List Int)} (h : Kd.C (Kd.slice e (Kd.int .i64)) w A n xs) (i : Int) (h0 : 0 ≤ i) (h1 : i < n) : ∃ ad A0 c0, A = some ad ∧ w.cell? (ad.add i.toNat) = some (.slice A0 (xs.getD i.toNat []).length c0) ∧ (xs.getD i.toNat []).length ≤ c0 ∧ (Kd.int .i64).C w A0 (xs.getD i.toNat []).length (xs.getD i.toNat []) := by
  obtain ⟨ad, c, e, _, hK, hc0⟩ := Kd.C_get h ([] : List Int) i h0 h1
  have hc : ∀ j u, c[j]? = some u → w.cell? (ad.add (i.toNat * 1 + j)) = some u := hc0
  obtain ⟨A0, c0, rfl, l0, g0⟩ := hK
  exact ⟨ad, A0, c0, e, by have hq := hc 0 _ rfl; rwa [Nat.mul_one, Nat.add_zero] at hq, l0, g0⟩
/-- Is the entry i in range, and behind the one before it? -/
def okAt (n : Int) (l : List Int) (i : Int) : Bool := decide (0 ≤ rd l i) && decide (rd l i < 2 ^ n.toNat) && (decide (i = 0) || decide (rd l (i - 1) < rd l i))
def risingB (n : Int) (l : List Int) : Bool := (List.range l.length).all fun (i : Nat) => okAt n l i
def unionRow (F : List Bool) (l : List Int) (x : Int) : Bool := l.all fun y => F.getD (x.toNat ||| y.toNat) false
def unionsB (F : List Bool) (l : List Int) : Bool := l.all fun x => (decide (x = 0) || !decide (innerF F x.toNat = 0)) && unionRow F l x
/-- Is it a space? -/
def isSpaceB (n : Int) (l : List Int) : Bool :=
  decide (1 ≤ n) && decide (n ≤ 7) && decide ((l.length : Int) ≤ 2 ^ n.toNat) && risingB n l && (famOf l).getD 0 false && (famOf l).getD (2 ^ n.toNat - 1) false && unionsB (famOf l) l
theorem pow128 {n : Int} (h0 : 0 ≤ n) (h1 : n ≤ 7) : (2 : Int) ^ n.toNat ≤ 128 ∧ 1 ≤ (2 : Int) ^ n.toNat := by
  have h : 2 ^ n.toNat ≤ 2 ^ 7 := Nat.pow_le_pow_right (by decide) (by omega)
  have h2 : 0 < 2 ^ n.toNat := Nat.pow_pos (by decide)
  constructor
  · exact_mod_cast h
  · exact_mod_cast h2
theorem risingB_mem {n : Int} {l : List Int} (h : risingB n l = true) {x : Int} (hx : x ∈ l) : 0 ≤ x ∧ x < 2 ^ n.toNat := by
  obtain ⟨i, hi, rfl⟩ := List.getElem_of_mem hx
  simp only [risingB, List.all_eq_true, List.mem_range] at h
  have := h i hi
  simp only [okAt, Bool.and_eq_true, decide_eq_true_eq] at this
  have e : rd l (i : Int) = l[i] := by simp [rd, List.getD, hi]
  rw [e] at this
  exact this.1
/-- The box of a space that came in. -/
structure SpBox (w W : World) (g : Nat) (a0 : Int) (A : Option Addr) (n c : Nat) : Prop where
  new : w.heap.size ≤ g
  bel : Below w.heap.size w W
  c0 : W.cell? ⟨g, 0, none⟩ = some (.int .i64 a0)
  c1 : W.cell? ⟨g, 1, none⟩ = some (.slice A n c)
theorem SpBox.next {w W W' : World} {g : Nat} {a0 : Int} {A : Option Addr} {n c : Nat} (h : SpBox w W g a0 A n c) (hb : Below W.heap.size W W') : SpBox w W' g a0 A n c :=
  ⟨h.new, below_step h.bel hb, pw_cell_below hb h.c0, pw_cell_below hb h.c1⟩
theorem below_since {W W2 : World} {n : Nat} (h : Below (W.drewN n).heap.size (W.drewN n) W2) : Below W.heap.size W W2 := ⟨h.os, h.tape, h.output, h.size, h.block⟩
theorem below_since1 {W W2 : World} (h : Below W.drew.heap.size W.drew W2) : Below W.heap.size W W2 := ⟨h.os, h.tape, h.output, h.size, h.block⟩
theorem SpBox.rebase {w W1 W : World} {g : Nat} {a0 : Int} {A : Option Addr} {n c : Nat} (h : SpBox W1 W g a0 A n c) (hb : Below w.heap.size w W1) : SpBox w W g a0 A n c :=
  ⟨Nat.le_trans hb.size h.new, below_step hb h.bel, h.c0, h.c1⟩
theorem SpBox.mk_ {w W : World} {g : Nat} {a0 : Int} {A : Option Addr} {n c : Nat} {t : TypeId} (hg : g = w.heap.size) (hbox : W.heap[g]? = some (.cells #[.int .i64 a0, .slice A n c] t (0, 0))) (hb : Below w.heap.size w W) : SpBox w W g a0 A n c :=
  ⟨by omega, hb, (blk_cell hbox 0).trans rfl, (blk_cell hbox 1).trans rfl⟩
theorem toNat_pow {n m : Int} (h : m = 2 ^ n.toNat - 1) : 2 ^ n.toNat - 1 = m.toNat := by
  have e : ((2 ^ n.toNat : Nat) : Int) = (2 : Int) ^ n.toNat := by push_cast; rfl
  omega
def unionItem (F : List Bool) (l : List Int) (x : Int) : Bool := (decide (x = 0) || !decide (innerF F x.toNat = 0)) && unionRow F l x
theorem all_not {P : Int → Bool} {l : List Int} {x : Int} (hx : x ∈ l) (hb : P x = false) : l.all P = false := by
  rw [Bool.eq_false_iff]
  intro hc
  rw [List.all_eq_true] at hc
  rw [hc x hx] at hb
  cases hb
/-- Does it hold of all ahead of the index i? -/
def allTo (P : Int → Bool) (l : List Int) (i : Int) : Bool := (l.take i.toNat).all P
theorem allTo_zero (P : Int → Bool) (l : List Int) : allTo P l 0 = true := rfl
theorem allTo_succ (P : Int → Bool) (l : List Int) (i : Int) (h0 : 0 ≤ i) (h1 : i < l.length) : allTo P l (i + 1) = (allTo P l i && P (rd l i)) := by
  have h := take_rd l i.toNat (by omega)
  unfold allTo
  rw [show (i + 1).toNat = i.toNat + 1 by omega, h, List.all_append, show ((i.toNat : Nat) : Int) = i by omega]
  simp
theorem allTo_end (P : Int → Bool) (l : List Int) (i : Int) (h : i = l.length) : allTo P l i = l.all P := by
  unfold allTo
  rw [h, Int.toNat_natCast, List.take_length]
theorem i64_w' (n : Int) : wrap64 n = IntKind.i64.wrap n := (i64_w n).symm
theorem wrapPow {n : Int} (h0 : 0 ≤ n) (h1 : n ≤ 7) : wrap64 (shl .i64 1 n - 1) = 2 ^ n.toNat - 1 := by
  have hp := pow128 h0 h1
  rw [shl_nat h0 (by omega)]
  push_cast
  unfold wrap64
  omega
theorem xor_bit {x i : Nat} (h : x.testBit i = true) : x ^^^ 2 ^ i = nd x (2 ^ i) := by
  apply Nat.eq_of_testBit_eq
  intro j
  rw [nd_testBit, Nat.testBit_xor, Nat.testBit_two_pow]
  by_cases e : i = j
  · subst e; simp [h]
  · simp [e]
theorem famOf_getD (l : List Int) (i : Nat) (hi : i < 128) : (famOf l).getD i false = decide ((i : Int) ∈ l) := famOf_get l i hi
def innK (F : List Bool) (x k : Nat) : Nat := (List.range k).foldl (fun a i => if (x.testBit i && F.getD (nd x (2 ^ i)) false) = true then a ||| 2 ^ i else a) 0
theorem innK_succ (F : List Bool) (x k : Nat) : innK F x (k + 1) = if (x.testBit k && F.getD (nd x (2 ^ k)) false) = true then innK F x k ||| 2 ^ k else innK F x k := by
  simp only [innK, List.range_succ, List.foldl_append, List.foldl_cons, List.foldl_nil]
theorem innK_7 (F : List Bool) (x : Nat) : innK F x 7 = innerF F x := rfl
theorem innK_lt (F : List Bool) (x k : Nat) (h : k ≤ 7) : innK F x k < 128 := orFold_lt (fun i => x.testBit i && F.getD (nd x (2 ^ i)) false) _ _ (fun i hi => by have := List.mem_range.1 hi; omega) (by decide)
theorem two_lt128 {i : Nat} (h : i < 7) : 2 ^ i < 128 := show 2 ^ i < 2 ^ 7 from Nat.pow_lt_pow_right (by decide) h
def risen' (n : Int) (l : List Int) (k : Nat) : Bool := (List.range k).all fun (i : Nat) => okAt n l i
theorem risen'_succ (n : Int) (l : List Int) (k : Nat) : risen' n l (k + 1) = (risen' n l k && okAt n l k) := by simp [risen', List.range_succ]
theorem risingB_not {n : Int} {l : List Int} {i : Nat} (h : i < l.length) (hb : okAt n l i = false) : risingB n l = false := by
  rw [Bool.eq_false_iff]
  intro hc
  simp only [risingB, List.all_eq_true, List.mem_range] at hc
  rw [hc i h] at hb
  cases hb
theorem risingB_rise {n : Int} {l : List Int} (h : risingB n l = true) : Rise l := by
  have h1 : ∀ i : Nat, i + 1 < l.length → rd l (i : Int) < rd l ((i + 1 : Nat) : Int) := by
    intro i hi
    simp only [risingB, List.all_eq_true, List.mem_range] at h
    have := h (i + 1) hi
    simp only [okAt, Bool.and_eq_true, Bool.or_eq_true, decide_eq_true_eq] at this
    have h2 := this.2
    rw [show (((i + 1 : Nat) : Int) - 1) = i by omega] at h2
    omega
  intro i j hij hj
  obtain ⟨d, rfl⟩ : ∃ d, j = i + 1 + d := ⟨j - i - 1, by omega⟩
  clear hij
  induction d with
  | zero => exact h1 i hj
  | succ d ih =>
    have := ih (by omega)
    have h2 := h1 (i + 1 + d) (by omega)
    rw [show i + 1 + (d + 1) = i + 1 + d + 1 by omega]
    omega
theorem allTo_nat (P : Int → Bool) (l : List Int) (i : Nat) (h : i < l.length) : allTo P l ((i + 1 : Nat) : Int) = (allTo P l i && P (rd l i)) := by
  have := allTo_succ P l i (by omega) (by omega)
  push_cast
  exact this
theorem getD_pow {n : Int} (l : List Int) (h1 : 1 ≤ n) (h7 : n ≤ 7) : (famOf l).getD (2 ^ n.toNat - 1) false = decide ((2 ^ n.toNat - 1 : Int) ∈ l) := by
  have hp := pow128 (n := n) (by omega) h7
  have e : ((2 ^ n.toNat : Nat) : Int) = (2 : Int) ^ n.toNat := by push_cast; rfl
  rw [famOf_getD l _ (by omega)]
  congr 2
  omega
theorem find_at {P : Int → Bool} {l : List Int} {i : Int} (h0 : 0 ≤ i) (h1 : i < l.length) (hz : allTo (fun x => !P x) l i = true) (hp : P (rd l i) = true) : l.find? P = some (rd l i) := by
  have hk : i.toNat < l.length := by omega
  have hs : l = l.take i.toNat ++ l[i.toNat] :: l.drop (i.toNat + 1) := by rw [← List.drop_eq_getElem_cons hk, List.take_append_drop]
  have hn : (l.take i.toNat).find? P = none := by
    rw [List.find?_eq_none]
    intro x hx
    simp only [allTo, List.all_eq_true] at hz
    simpa using hz x hx
  have e : rd l i = l[i.toNat] := by rw [← rd_get hk]; congr 1; omega
  rw [congrArg (List.find? P) hs, List.find?_append, hn, List.find?_cons_of_pos (by rw [← e]; exact hp), ← e]
  rfl
theorem find_no {P : Int → Bool} {l : List Int} (hz : l.all (fun x => !P x) = true) : l.find? P = none := by
  rw [List.find?_eq_none]
  intro x hx
  simp only [List.all_eq_true] at hz
  simpa using hz x hx
def outK (F : List Bool) (x k : Nat) : Nat := (List.range k).foldl (fun a i => if (!x.testBit i && F.getD (x ||| 2 ^ i) false) = true then a ||| 2 ^ i else a) 0
theorem outK_succ (F : List Bool) (x k : Nat) : outK F x (k + 1) = if (!x.testBit k && F.getD (x ||| 2 ^ k) false) = true then outK F x k ||| 2 ^ k else outK F x k := by
  simp only [outK, List.range_succ, List.foldl_append, List.foldl_cons, List.foldl_nil]
theorem outK_7 (F : List Bool) (x : Nat) : outK F x 7 = outerF F x := rfl
theorem outK_lt (F : List Bool) (x k : Nat) (h : k ≤ 7) : outK F x k < 128 := orFold_lt (fun i => !x.testBit i && F.getD (x ||| 2 ^ i) false) _ _ (fun i hi => by have := List.mem_range.1 hi; omega) (by decide)
theorem shr_ways {x i j : Int} (h : shr .i64 x i = j) (hle : i ≤ 64) : x / 2 ^ min i.toNat 64 = j ∧ x / 2 ^ i.toNat = j := ⟨h, shr_small h hle⟩
theorem and_one (x : Nat) (i : Int) (h0 : 0 ≤ i) (h1 : i < 64) (hx : x < 128) : ∃ j : Int, 0 ≤ j ∧ j < 128 ∧ shr .i64 (x : Int) i = j ∧ Go.bits .and .i64 j 1 = if x.testBit i.toNat then 1 else 0 := by
  obtain ⟨n, rfl⟩ := Int.eq_ofNat_of_zero_le h0
  refine ⟨((x / 2 ^ n : Nat) : Int), Int.natCast_nonneg _, ?_, shr_nat x n (by omega), ?_⟩
  · exact Int.ofNat_lt.2 (Nat.lt_of_le_of_lt (Nat.div_le_self x (2 ^ n)) hx)
  · rw [Int.toNat_natCast]
    exact bit_and x n (lt63 hx)
theorem famOf_out {n : Int} {l : List Int} (h0 : 0 ≤ n) (h7 : n ≤ 7) (hM : ∀ x ∈ l, 0 ≤ x ∧ x < 2 ^ n.toNat) {i x : Nat} (hi : n.toNat ≤ i) (hb : x.testBit i = true) : (famOf l).getD x false = false := by
  by_cases hx : x < 128
  · rw [famOf_getD l x hx, decide_eq_false_iff_not]
    intro hm
    have h1 := (hM _ hm).2
    have e : ((2 ^ n.toNat : Nat) : Int) = (2 : Int) ^ n.toNat := by push_cast; rfl
    have h2 : x < 2 ^ n.toNat := by omega
    have h3 : x < 2 ^ i := Nat.lt_of_lt_of_le h2 (Nat.pow_le_pow_right (by decide) hi)
    rw [Nat.testBit_lt_two_pow h3] at hb
    cases hb
  · have := famOf_length l
    rw [List.getD_eq_getElem?_getD, List.getElem?_eq_none (by omega)]
    rfl
theorem outK_stop {F : List Bool} {x n : Nat} (h : ∀ i, n ≤ i → i < 7 → F.getD (x ||| 2 ^ i) false = false) : ∀ d, n + d ≤ 7 → outK F x (n + d) = outK F x n
  | 0, _ => rfl
  | d + 1, hd => by
    rw [show n + (d + 1) = n + d + 1 by omega, outK_succ, h (n + d) (by omega) (by omega), Bool.and_false, if_neg (by decide)]
    exact outK_stop h d (by omega)
theorem isSpaceB_parts {n : Int} {l : List Int} (h : isSpaceB n l = true) : 1 ≤ n ∧ n ≤ 7 ∧ (l.length : Int) ≤ 2 ^ n.toNat ∧ risingB n l = true ∧ (famOf l).getD 0 false = true ∧ (famOf l).getD (2 ^ n.toNat - 1) false = true ∧ unionsB (famOf l) l = true := by
  unfold isSpaceB at h
  simp only [Bool.and_eq_true, decide_eq_true_eq] at h
  obtain ⟨⟨⟨⟨⟨⟨h1, h2⟩, h3⟩, h4⟩, h5⟩, h6⟩, h7⟩ := h
  exact ⟨h1, h2, h3, h4, h5, h6, h7⟩
theorem isSpaceB_mem {n : Int} {l : List Int} (h : isSpaceB n l = true) : ∀ x ∈ l, 0 ≤ x ∧ x < 2 ^ n.toNat := fun x hx => risingB_mem (isSpaceB_parts h).2.2.2.1 hx
theorem isSpaceB_128 {n : Int} {l : List Int} (h : isSpaceB n l = true) : ∀ x ∈ l, 0 ≤ x ∧ x < 128 := fun x hx => by
  have h1 := isSpaceB_mem h x hx
  have h2 := isSpaceB_parts h
  have := pow128 (n := n) (by omega) h2.2.1
  omega
def hasSetB (n : Int) (l : List Int) (x : Int) : Bool := isSpaceB n l && (decide (0 ≤ x) && decide (x < 2 ^ n.toNat))
def isKnownB (n : Int) (l : List Int) (x : Int) : Bool := isSpaceB n l && decide (x ∈ l)
theorem isKnownB_split (n : Int) (l : List Int) (x : Int) : isKnownB n l x = (hasSetB n l x && decide (x ∈ l)) := by
  unfold isKnownB hasSetB
  cases h : isSpaceB n l with
  | false => rfl
  | true =>
    by_cases hx : x ∈ l
    · have := isSpaceB_mem h x hx
      simp [hx, this]
    · simp [hx]
theorem hasSetB_128 {n : Int} {l : List Int} {x : Int} (h : hasSetB n l x = true) : 0 ≤ x ∧ x < 128 := by
  unfold hasSetB at h
  simp only [Bool.and_eq_true, decide_eq_true_eq] at h
  have h2 := isSpaceB_parts h.1
  have := pow128 (n := n) (by omega) h2.2.1
  omega
/-- Does it hold of all ahead of the index i? (entries of any type) -/
def allG {α : Type} (P : α → Bool) (l : List α) (i : Int) : Bool := (l.take i.toNat).all P
theorem allG_zero {α : Type} (P : α → Bool) (l : List α) : allG P l 0 = true := rfl
theorem allG_succ {α : Type} (d : α) (P : α → Bool) (l : List α) (i : Int) (h0 : 0 ≤ i) (h1 : i < l.length) : allG P l (i + 1) = (allG P l i && P (l.getD i.toNat d)) := by
  have hk : i.toNat < l.length := by omega
  unfold allG
  rw [show (i + 1).toNat = i.toNat + 1 by omega, List.take_succ_eq_append_getElem hk, List.all_append, List.getD_eq_getElem?_getD, List.getElem?_eq_getElem hk]
  simp
theorem allG_end {α : Type} (P : α → Bool) (l : List α) (i : Int) (h : i = l.length) : allG P l i = l.all P := by
  unfold allG
  rw [h, Int.toNat_natCast, List.take_length]
theorem getD_mem {α : Type} (d : α) {l : List α} {i : Int} (h0 : 0 ≤ i) (h1 : i < l.length) : l.getD i.toNat d ∈ l := by
  have hk : i.toNat < l.length := by omega
  rw [List.getD_eq_getElem?_getD, List.getElem?_eq_getElem hk]
  exact List.getElem_mem hk
theorem allG_not {α : Type} {P : α → Bool} {l : List α} {x : α} (hx : x ∈ l) (hb : P x = false) : l.all P = false := by
  rw [Bool.eq_false_iff]
  intro hc
  rw [List.all_eq_true] at hc
  rw [hc x hx] at hb
  cases hb
def idxG {α : Type} (p : α → Bool) (l : List α) : Int := match l.findIdx? p with | some i => (i : Int) | none => -1
theorem idxG_hit {α : Type} (d : α) {p : α → Bool} {l : List α} {i : Int} (h0 : 0 ≤ i) (h1 : i < l.length) (hz : allG (fun x => !p x) l i = true) (hp : p (l.getD i.toNat d) = true) : idxG p l = i := by
  have hk : i.toNat < l.length := by omega
  rw [List.getD_eq_getElem?_getD, List.getElem?_eq_getElem hk] at hp
  have : l.findIdx? p = some i.toNat := by
    rw [List.findIdx?_eq_some_iff_getElem]
    refine ⟨hk, hp, fun j hj => ?_⟩
    simp only [allG, List.all_eq_true] at hz
    have := hz l[j] (by rw [List.mem_take_iff_getElem]; exact ⟨j, by omega, rfl⟩)
    simpa using this
  unfold idxG
  rw [this]
  simp only
  omega
theorem idxG_miss {α : Type} {p : α → Bool} {l : List α} (hz : l.all (fun x => !p x) = true) : idxG p l = -1 := by
  have : l.findIdx? p = none := by
    rw [List.findIdx?_eq_none_iff]
    intro x hx
    simp only [List.all_eq_true] at hz
    simpa using hz x hx
  unfold idxG
  rw [this]
theorem idxG_any {α : Type} (p : α → Bool) (l : List α) : decide (0 ≤ idxG p l) = l.any p := by
  unfold idxG
  cases h : l.findIdx? p with
  | none =>
    rw [List.findIdx?_eq_none_iff] at h
    have : l.any p = false := by rw [List.any_eq_false]; intro x hx; simpa using h x hx
    rw [this]
    rfl
  | some i =>
    rw [List.findIdx?_eq_some_iff_getElem] at h
    obtain ⟨hi, hp, _⟩ := h
    have : l.any p = true := by rw [List.any_eq_true]; exact ⟨l[i], List.getElem_mem hi, hp⟩
    rw [this]
    simp

-- HAND lib order
theorem nodup_subset_length {α : Type} [DecidableEq α] : ∀ (a b : List α), a.Nodup → (∀ x ∈ a, x ∈ b) → a.length ≤ b.length
  | [], _, _, _ => Nat.zero_le _
  | x :: a, b, h, hs => by
    rw [List.nodup_cons] at h
    have hx : x ∈ b := hs x (by simp)
    have := nodup_subset_length a (b.erase x) h.2 (fun y hy => (List.mem_erase_of_ne (fun e => h.1 (by rw [← e]; exact hy))).2 (hs y (by simp [hy])))
    rw [List.length_erase_of_mem hx] at this
    have hp : 0 < b.length := List.length_pos_of_mem hx
    simp only [List.length_cons]
    omega
/-- Is no entry met before? -/
def newAt (l : List Int) (k : Nat) : Bool := !decide (rd l k ∈ l.take k)
def newTo (l : List Int) (k : Nat) : Bool := (List.range k).all (newAt l)
theorem newTo_succ (l : List Int) (k : Nat) : newTo l (k + 1) = (newTo l k && newAt l k) := by simp [newTo, List.range_succ]
/-- Each of n numbers once. -/
def isOrderB (l : List Int) (n : Int) : Bool := decide ((l.length : Int) = n) && (decide (1 ≤ n) && decide (n ≤ 7)) && l.all (fun x => decide (0 ≤ x) && decide (x < n)) && newTo l l.length
theorem newTo_nodup {l : List Int} : ∀ k, k ≤ l.length → (newTo l k = true ↔ (l.take k).Nodup)
  | 0, _ => by simp [newTo]
  | k + 1, h => by
    have hk : k < l.length := by omega
    rw [newTo_succ, List.take_succ_eq_append_getElem hk, List.nodup_append, Bool.and_eq_true, newTo_nodup k (by omega)]
    simp only [newAt, rd_get hk, Bool.not_eq_true', decide_eq_false_iff_not]
    constructor
    · rintro ⟨h1, h2⟩
      exact ⟨h1, by simp, fun a ha b hb e => by simp at hb; exact h2 (by rw [← hb, ← e]; exact ha)⟩
    · rintro ⟨h1, _, h3⟩
      exact ⟨h1, fun hm => h3 _ hm _ (by simp) rfl⟩
theorem order_cover {l : List Int} {n : Nat} (hn : l.length = n) (hr : ∀ x ∈ l, 0 ≤ x ∧ x < (n : Int)) : l.Nodup ↔ ∀ j : Nat, j < n → (j : Int) ∈ l := by
  have hR : ∀ x ∈ l, x ∈ (List.range n).map fun (j : Nat) => (j : Int) := fun x hx => by
    have := hr x hx
    exact List.mem_map.2 ⟨x.toNat, List.mem_range.2 (by omega), by omega⟩
  constructor
  · intro h j hj
    by_cases hm : (j : Int) ∈ l
    · exact hm
    · have := nodup_subset_length ((j : Int) :: l) ((List.range n).map fun (j : Nat) => (j : Int)) (List.nodup_cons.2 ⟨hm, h⟩) (fun x hx => by
        rcases List.mem_cons.1 hx with rfl | hx
        · exact List.mem_map.2 ⟨j, List.mem_range.2 hj, rfl⟩
        · exact hR x hx)
      simp only [List.length_cons, List.length_map, List.length_range] at this
      omega
  · intro h
    have hRn : ((List.range n).map fun (j : Nat) => (j : Int)).Nodup := by
      refine List.Pairwise.map _ (fun a b hab e => hab (by omega)) (List.nodup_range)
    rw [← List.take_length (l := l), ← newTo_nodup l.length (Nat.le_refl _)]
    simp only [newTo, List.all_eq_true, List.mem_range]
    intro k hk
    simp only [newAt, Bool.not_eq_true', decide_eq_false_iff_not, rd_get hk]
    intro hm
    have hsub : ∀ x ∈ (List.range n).map (fun (j : Nat) => (j : Int)), x ∈ l.eraseIdx k := fun x hx => by
      obtain ⟨j, hj, rfl⟩ := List.mem_map.1 hx
      have hjl := h j (List.mem_range.1 hj)
      rw [List.eraseIdx_eq_take_drop_succ, List.mem_append]
      rw [← List.take_append_drop k l, List.drop_eq_getElem_cons hk, List.mem_append, List.mem_cons] at hjl
      rcases hjl with h1 | h1 | h1
      · exact .inl h1
      · exact .inl (by rw [h1]; exact hm)
      · exact .inr h1
    have := nodup_subset_length _ _ hRn hsub
    rw [List.length_eraseIdx_of_lt hk, List.length_map, List.length_range] at this
    omega
/-- The items of a list, as a set. -/
def maskL (l : List Int) : Nat := l.foldl (fun a x => a ||| 2 ^ x.toNat) 0
theorem maskFold_bit (j : Nat) : ∀ (l : List Int) (a : Nat), (l.foldl (fun a x => a ||| 2 ^ x.toNat) a).testBit j = (a.testBit j || l.any fun x => decide (x.toNat = j))
  | [], a => by simp
  | x :: l, a => by
    rw [List.foldl_cons, maskFold_bit j l, Nat.testBit_or, Nat.testBit_two_pow, List.any_cons, Bool.or_assoc]
theorem maskL_bit (j : Nat) (l : List Int) : (maskL l).testBit j = l.any fun x => decide (x.toNat = j) := by
  rw [maskL, maskFold_bit]
  simp
theorem maskFold_lt {m : Nat} : ∀ (l : List Int) (a : Nat), a < 2 ^ m → (∀ x ∈ l, x.toNat < m) → l.foldl (fun a x => a ||| 2 ^ x.toNat) a < 2 ^ m
  | [], a, ha, _ => ha
  | x :: l, a, ha, h => maskFold_lt l _ (Nat.or_lt_two_pow ha (Nat.pow_lt_pow_right (by decide) (h x (by simp)))) (fun y hy => h y (by simp [hy]))
theorem maskL_lt {m : Nat} {l : List Int} (h : ∀ x ∈ l, x.toNat < m) : maskL l < 2 ^ m := maskFold_lt l 0 (Nat.pow_pos (by decide)) h
theorem maskL_full {l : List Int} {n : Nat} (hr : ∀ x ∈ l, 0 ≤ x ∧ x < (n : Int)) : maskL l = 2 ^ n - 1 ↔ ∀ j : Nat, j < n → (j : Int) ∈ l := by
  constructor
  · intro h j hj
    have hb := maskL_bit j l
    rw [h, Nat.testBit_two_pow_sub_one, decide_eq_true hj] at hb
    have := hb.symm
    rw [List.any_eq_true] at this
    obtain ⟨x, hx, he⟩ := this
    have hxr := hr x hx
    simp only [decide_eq_true_eq] at he
    rw [show (j : Int) = x by omega]
    exact hx
  · intro h
    apply Nat.eq_of_testBit_eq
    intro j
    rw [maskL_bit, Nat.testBit_two_pow_sub_one, Bool.eq_iff_iff, decide_eq_true_eq, List.any_eq_true]
    constructor
    · rintro ⟨x, hx, he⟩
      have := hr x hx
      simp only [decide_eq_true_eq] at he
      omega
    · intro hj
      exact ⟨j, h j hj, by simp⟩
theorem isOrderB_mask {l : List Int} {n : Nat} (hn : l.length = n) (hr : ∀ x ∈ l, 0 ≤ x ∧ x < (n : Int)) : newTo l l.length = decide (maskL l = 2 ^ n - 1) := by
  rw [Bool.eq_iff_iff, decide_eq_true_eq, newTo_nodup _ (Nat.le_refl _), List.take_length, maskL_full hr]
  exact order_cover hn hr
theorem rd_append (a b : List Int) (x : Int) : rd (a ++ x :: b) (a.length : Int) = x := by simp [rd, List.getD]
/-- The sets of the beginnings. -/
def chainFrom (s : Nat) : List Int → List Int
  | [] => []
  | x :: r => ((s ||| 2 ^ x.toNat : Nat) : Int) :: chainFrom (s ||| 2 ^ x.toNat) r
theorem chainFrom_length (s : Nat) (l : List Int) : (chainFrom s l).length = l.length := by
  induction l generalizing s with
  | nil => rfl
  | cons x r ih => simp [chainFrom, ih]

/-! ### laws_szTaskS: function 9 -/
def laws_szTaskS.f (l0 : List (S56)) (a1 : Int) : Option (Int) := if (wrap64 (a1 - (l0.length : Int))) < 0 then (some (-1)) else (some (wrap64 (a1 - (l0.length : Int))))
set_option maxHeartbeats 8000000 in
set_option maxRecDepth 100000 in
theorem laws_szTaskS.calls (A0 : Option Addr) (c0 : Nat) (l0 : List (S56)) (a1 : Int) (r : Int) (w : World) (hr0 : Kd.C k56 w A0 l0.length l0) (hc0 : l0.length ≤ c0) (h : laws_szTaskS.f l0 a1 = some r) :
    Calls Try.prog 9 #[.slice A0 l0.length c0, .int .i64 a1] w fun e w' => e = .returned (.int .i64 r) ∧ Drawn0 w w' := by
  have HR0 := Aside0.mk hr0
  have HC0 := Aside0.mk hc0
  clear hr0 hc0
  have H : (if (wrap64 (a1 - (l0.length : Int))) < 0 then (some (-1)) else (some (wrap64 (a1 - (l0.length : Int))))) = some r := h
  clear h
  by_cases c3 : (wrap64 (a1 - (l0.length : Int))) < 0
  · rw [if_pos c3] at H
    have c3b0 : decide ((wrap64 (a1 - (l0.length : Int))) < 0) = true := decide_eq_true c3
    clear c3
    obtain rfl := Option.some.inj H
    go_enter Try.func9, Try.ntmps9
    go_wp2
    go_ret
    exact ⟨by first | rfl | (simp; done) | (simp [*]; done), by repeat (first | exact Drawn0.refl _ | apply Drawn0.step)⟩
  · rw [if_neg c3] at H
    have c3b0 : decide ((wrap64 (a1 - (l0.length : Int))) < 0) = false := decide_eq_false c3
    clear c3
    obtain rfl := Option.some.inj H
    go_enter Try.func9, Try.ntmps9
    go_wp2
    go_ret
    exact ⟨by first | rfl | (simp; done) | (simp [*]; done), by repeat (first | exact Drawn0.refl _ | apply Drawn0.step)⟩

-- HAND with laws.szTaskS
theorem szTaskS_over (l : List S56) (a : Int) (ha : a ≤ 1048576) (hl : l.length ≤ 9223372036854775807) (h : a < l.length) (h0 : 0 ≤ a) : laws_szTaskS.f l a = some (-1) := by
  have hw : wrap64 (a - (l.length : Int)) = a - l.length := wrap_in (by omega) (by omega)
  unfold laws_szTaskS.f
  rw [hw, if_pos (by omega)]
theorem szTaskS_fits (l : List S56) (a : Int) (ha : a ≤ 1048576) (h : (l.length : Int) ≤ a) : laws_szTaskS.f l a = some (a - l.length) := by
  have hw : wrap64 (a - (l.length : Int)) = a - l.length := wrap_in (by omega) (by omega)
  unfold laws_szTaskS.f
  rw [hw, if_neg (by omega)]

/-! ### spec_l1In: function 53 -/
def spec_l1In.f (a0 : Int) (a1 : Int) (a2 : Int) : Option (Bool) := if a0 ≥ a1 then (some (decide (a0 ≤ a2))) else (some false)
set_option maxHeartbeats 8000000 in
set_option maxRecDepth 100000 in
theorem spec_l1In.calls (a0 : Int) (a1 : Int) (a2 : Int) (r : Bool) (w : World) (h : spec_l1In.f a0 a1 a2 = some r) :
    Calls Try.prog 53 #[.int .i64 a0, .int .i64 a1, .int .i64 a2] w fun e w' => e = .returned (.bool r) ∧ Drawn0 w w' := by
  have H : (if a0 ≥ a1 then (some (decide (a0 ≤ a2))) else (some false)) = some r := h
  clear h
  by_cases c4 : a0 ≥ a1
  · rw [if_pos c4] at H
    have c4b0 : decide (a1 ≤ a0) = true := decide_eq_true c4
    clear c4
    obtain rfl := Option.some.inj H
    go_enter Try.func53, Try.ntmps53
    go_wp2
    go_ret
    exact ⟨by first | rfl | (simp; done) | (simp [*]; done), by repeat (first | exact Drawn0.refl _ | apply Drawn0.step)⟩
  · rw [if_neg c4] at H
    have c4b0 : decide (a1 ≤ a0) = false := decide_eq_false c4
    clear c4
    obtain rfl := Option.some.inj H
    go_enter Try.func53, Try.ntmps53
    go_wp2
    go_ret
    exact ⟨by first | rfl | (simp; done) | (simp [*]; done), by repeat (first | exact Drawn0.refl _ | apply Drawn0.step)⟩

-- HAND with spec.l1In
theorem l1In_ok (x a b : Int) : spec_l1In.f x a b = some (decide (a ≤ x) && decide (x ≤ b)) := by
  unfold spec_l1In.f
  by_cases h : a ≤ x
  · rw [if_pos h]; simp [h]
  · rw [if_neg h]; simp [h]

/-! ### spec_spItems: function 56 -/
def spec_spItems.f (a0 : Int) : Option (Bool) := (spec_l1In.f a0 1 7).bind fun t101 => (some t101)
set_option maxHeartbeats 8000000 in
set_option maxRecDepth 100000 in
theorem spec_spItems.calls (a0 : Int) (r : Bool) (w : World) (h : spec_spItems.f a0 = some r) :
    Calls Try.prog 56 #[.int .i64 a0] w fun e w' => e = .returned (.bool r) ∧ Drawn0 w w' := by
  have H : ((spec_l1In.f a0 1 7).bind fun t101 => (some t101)) = some r := h
  clear h
  replace H := Option.bind_eq_some_iff.mp H
  obtain ⟨t101, A20, H⟩ := H
  replace H : (some t101) = some r := H
  have A2 := Aside0.mk A20
  clear A20
  obtain rfl := Option.some.inj H
  go_enter Try.func56, Try.ntmps56
  go_wp2_with (first | ((with_reducible refine gate_callee (f := 53) rfl ?_); refine goesL_ (some 4) rfl rfl Try.func53 (by kernel_rfl) rfl #[.int .i64 a0, .int .i64 1, .int .i64 7] rfl (by (try simp only [List.map_toArray, List.map_cons, List.map_nil]); first | done | rfl | (simp only [List.length_drop, List.length_take]; rfl)) ?_; (with_reducible refine (spec_l1In.calls a0 1 7 t101 _ A2.out).mono ?_); rintro e w' ⟨rfl, ⟨nd, rfl⟩⟩; refine ⟨_, rfl, ?_⟩))
  go_ret
  exact ⟨by first | rfl | (simp; done) | (simp [*]; done), by repeat (first | exact Drawn0.refl _ | apply Drawn0.step)⟩

-- HAND with spec.spItems
theorem spItems_ok (n : Int) : spec_spItems.f n = some (decide (1 ≤ n) && decide (n ≤ 7)) := by
  unfold spec_spItems.f
  rw [l1In_ok]
  rfl

/-! ### spec_grTasks: function 31 -/
mutual
def spec_grTasks.j0 : Nat → List (S54) → Bool → Option (Bool)
  | 0, _, _ => none
  | k + 1, x0, x15 => if x15 = true then (some false) else (spec_grTasks.l0 k x0 (x0.length : Int) 0)
def spec_grTasks.l0 : Nat → List (S54) → Int → Int → Option (Bool)
  | 0, _, _, _ => none
  | k + 1, x16, x17, x18 => if x18 < x17 then (if 0 ≤ x18 then (if x18 < (x16.length : Int) then ((spec_l1In.f ((rd_T54 x16 x18).f0) 1 9).bind fun t104 => (if t104 = true then ((spec_l1In.f ((rd_T54 x16 x18).f1) 0 9).bind fun t105 => (if t105 = true then ((spec_l1In.f ((rd_T54 x16 x18).f2) (-100) 100).bind fun t106 => (if t106 = true then (spec_grTasks.l0 k x16 x17 (wrap64 (x18 + 1))) else (some false))) else (some false))) else (some false))) else (none)) else (none)) else (some true)
end
def spec_grTasks.f (k : Nat) (l0 : List (S54)) (a1 : Int) : Option (Bool) := (spec_spItems.f a1).bind fun t101 => (if t101 = true then (spec_grTasks.j0 k l0 ((l0.length : Int) != a1)) else (spec_grTasks.j0 k l0 true))
theorem spec_grTasks.mono_l : ∀ k, (∀ y0 y1, LeO (spec_grTasks.j0 k y0 y1) (spec_grTasks.j0 (k + 1) y0 y1)) ∧ (∀ y0 y1 y2, LeO (spec_grTasks.l0 k y0 y1 y2) (spec_grTasks.l0 (k + 1) y0 y1 y2))
  | 0 => ⟨fun _ _ r h => by simp [spec_grTasks.j0] at h, fun _ _ _ r h => by simp [spec_grTasks.l0] at h⟩
  | k + 1 => by
    obtain ⟨ih0, ih1⟩ := spec_grTasks.mono_l k
    refine ⟨?_, ?_⟩
    · intro y0 y1
      unfold spec_grTasks.j0
      repeat' first
      | (with_reducible exact ih0 _ _)
      | (with_reducible exact ih1 _ _ _)
      | (with_reducible exact LeO.refl _)
      | (with_reducible exact LeO.none _)
      | (with_reducible refine LeO.ite ?_ ?_)
      | (with_reducible refine LeO.bind ?_ (fun _ => ?_))
      | exact ih0 _ _
      | exact ih1 _ _ _
      | exact LeO.none _
      | refine LeO.ite ?_ ?_
      | refine LeO.bind ?_ (fun _ => ?_)
    · intro y0 y1 y2
      unfold spec_grTasks.l0
      repeat' first
      | (with_reducible exact ih0 _ _)
      | (with_reducible exact ih1 _ _ _)
      | (with_reducible exact LeO.refl _)
      | (with_reducible exact LeO.none _)
      | (with_reducible refine LeO.ite ?_ ?_)
      | (with_reducible refine LeO.bind ?_ (fun _ => ?_))
      | exact ih0 _ _
      | exact ih1 _ _ _
      | exact LeO.none _
      | refine LeO.ite ?_ ?_
      | refine LeO.bind ?_ (fun _ => ?_)
theorem spec_grTasks.mono : ∀ a0 a1 k, LeO (spec_grTasks.f k a0 a1) (spec_grTasks.f (k + 1) a0 a1) := by
  intro a0 a1 k
  obtain ⟨ih0, ih1⟩ := spec_grTasks.mono_l k
  unfold spec_grTasks.f
  repeat' first
      | (with_reducible exact ih0 _ _)
      | (with_reducible exact ih1 _ _ _)
      | (with_reducible exact LeO.refl _)
      | (with_reducible exact LeO.none _)
      | (with_reducible refine LeO.ite ?_ ?_)
      | (with_reducible refine LeO.bind ?_ (fun _ => ?_))
      | exact ih0 _ _
      | exact ih1 _ _ _
      | exact LeO.none _
      | refine LeO.ite ?_ ?_
      | refine LeO.bind ?_ (fun _ => ?_)
set_option maxHeartbeats 8000000 in
set_option maxRecDepth 100000 in
theorem spec_grTasks.calls (k : Nat) (A0 : Option Addr) (c0 : Nat) (l0 : List (S54)) (a1 : Int) (r : Bool) (w : World) (hr0 : Kd.C k54 w A0 l0.length l0) (hc0 : l0.length ≤ c0) (h : spec_grTasks.f k l0 a1 = some r) :
    Calls Try.prog 31 #[.slice A0 l0.length c0, .int .i64 a1] w fun e w' => e = .returned (.bool r) ∧ Below w.heap.size w w' := by
  have hu54 := Try.underlying54
  have HR0 := Aside0.mk hr0
  have HC0 := Aside0.mk hc0
  clear hr0 hc0
  have HB := Aside0.mk (Below.refl w.heap.size w)
  have H : ((spec_spItems.f a1).bind fun t101 => (if t101 = true then (spec_grTasks.j0 k l0 ((l0.length : Int) != a1)) else (spec_grTasks.j0 k l0 true))) = some r := h
  clear h
  have HC3 := Aside0.mk H
  clear H
  go_enter Try.func31, Try.ntmps31
  go_upto_region 1 with (fail)
  go_cut [15] (fun v15 wc => ∃ (kq : Nat) (x15_2 : Bool), v15 = .bool x15_2 ∧ Aside0 (spec_grTasks.j0 kq l0 x15_2 = some r) ∧ Aside0 (kq ≤ k) ∧ Aside0 (Below w.heap.size w wc))
  case first =>
    have H := HC3.out
    clear HC3
    replace H := Option.bind_eq_some_iff.mp H
    obtain ⟨t101, A40, H⟩ := H
    replace H : (if t101 = true then (spec_grTasks.j0 k l0 ((l0.length : Int) != a1)) else (spec_grTasks.j0 k l0 true)) = some r := H
    have A4 := Aside0.mk A40
    clear A40
    by_cases c5 : t101 = true
    · subst c5
      have H1 : (spec_grTasks.j0 k l0 ((l0.length : Int) != a1)) = some r := by rw [if_pos rfl] at H; exact H
      clear H
      have H := H1
      clear H1
      have H' := Aside0.mk H
      clear H
      go_wp2_with (first | ((with_reducible refine gate_callee (f := 56) rfl ?_); refine goesL_ (some 8) rfl rfl Try.func56 (by kernel_rfl) rfl #[.int .i64 a1] rfl (by (try simp only [List.map_toArray, List.map_cons, List.map_nil]); first | done | rfl | (simp only [List.length_drop, List.length_take]; rfl)) ?_; (with_reducible refine (spec_spItems.calls a1 true _ A4.out).mono ?_); rintro e w' ⟨rfl, ⟨nd, rfl⟩⟩; refine ⟨_, rfl, ?_⟩))
      go_meet
      case rel => exact ⟨_, (((l0.length : Int) != a1)), (by first | rfl | (simp; done) | (simp [*]; done)), H', ⟨by first | omega | exact Nat.le_refl _⟩, ⟨by repeat (first | (with_reducible first | exact HB.out | apply below_alloc | apply pw_below_drewN | apply below_drew1) | exact HB.out)⟩⟩
    · replace c5 := Bool.eq_false_iff.mpr c5
      subst c5
      have H1 : (spec_grTasks.j0 k l0 true) = some r := by rw [if_neg (show ¬ (false = true) by decide)] at H; exact H
      clear H
      have H := H1
      clear H1
      have H' := Aside0.mk H
      clear H
      go_wp2_with (first | ((with_reducible refine gate_callee (f := 56) rfl ?_); refine goesL_ (some 8) rfl rfl Try.func56 (by kernel_rfl) rfl #[.int .i64 a1] rfl (by (try simp only [List.map_toArray, List.map_cons, List.map_nil]); first | done | rfl | (simp only [List.length_drop, List.length_take]; rfl)) ?_; (with_reducible refine (spec_spItems.calls a1 false _ A4.out).mono ?_); rintro e w' ⟨rfl, ⟨nd, rfl⟩⟩; refine ⟨_, rfl, ?_⟩))
      go_meet
      case rel => exact ⟨_, (true), (by first | rfl | (simp; done) | (simp [*]; done)), H', ⟨by first | omega | exact Nat.le_refl _⟩, ⟨by repeat (first | (with_reducible first | exact HB.out | apply below_alloc | apply pw_below_drewN | apply below_drew1) | exact HB.out)⟩⟩
  case rest =>
    clear HC3
    try clear p2
    try clear c3
    try clear c5
    obtain ⟨kq, x15_2, rfl, HA, HJ2, HB⟩ := hcut
    cases kq with
    | zero => exact absurd HA.out (by simp [spec_grTasks.j0])
    | succ kj2 =>
      have H := HA.out
      clear HA
      simp only [spec_grTasks.j0] at H
      by_cases c6 : x15_2 = true
      · subst c6
        have H1 : (some false) = some r := by rw [if_pos rfl] at H; exact H
        clear H
        have H := H1
        clear H1
        obtain rfl := Option.some.inj H
        go_wp2
        go_ret
        exact ⟨by first | rfl | (simp [errW_none, errW_some] <;> rfl) | (simp [*, errW_none, errW_some] <;> rfl), by repeat (first | (with_reducible first | exact HB.out | apply below_alloc | apply pw_below_drewN | apply below_drew1) | exact HB.out)⟩
      · replace c6 := Bool.eq_false_iff.mpr c6
        subst c6
        have H1 : (spec_grTasks.l0 kj2 l0 (l0.length : Int) 0) = some r := by rw [if_neg (show ¬ (false = true) by decide)] at H; exact H
        clear H
        have H := H1
        clear H1
        have H' := Aside0.mk H
        clear H
        go_wp2
        go_loopg [18] kj2 (fun kq v18 w' => ∃ (x18_2 : Int), v18 = .int .i64 x18_2 ∧ Aside0 (spec_grTasks.l0 kq l0 (l0.length : Int) x18_2 = some r) ∧ Aside0 (kq ≤ kj2) ∧ Aside0 (Below w.heap.size w w'))
        case atStart => exact ⟨(0), (by first | rfl | (simp; done) | (simp [*]; done)), H', ⟨Nat.le_refl _⟩, ⟨by repeat (first | (with_reducible first | exact HB.out | apply below_alloc | apply pw_below_drewN | apply below_drew1) | exact HB.out)⟩⟩
        case round =>
          clear H'
          try clear p2
          try clear c3
          try clear c5
          try clear c6
          try clear p2
          obtain ⟨x18_2, rfl, HA, HK2, HB⟩ := hrel
          cases gk with
          | zero => exact absurd HA.out (by simp [spec_grTasks.l0])
          | succ k2 =>
            have H := HA.out
            clear HA
            simp only [spec_grTasks.l0] at H
            by_cases c7 : x18_2 < (l0.length : Int)
            · rw [if_pos c7] at H
              have c7b0 : decide (x18_2 < (l0.length : Int)) = true := decide_eq_true c7
              clear c7
              by_cases c8 : 0 ≤ x18_2
              · rw [if_pos c8] at H
                have c8b0 : decide (0 ≤ x18_2) = true := decide_eq_true c8
                clear c8
                by_cases c9 : x18_2 < (l0.length : Int)
                · rw [if_pos c9] at H
                  have c9b0 : decide (x18_2 < (l0.length : Int)) = true := decide_eq_true c9
                  clear c9
                  replace H := Option.bind_eq_some_iff.mp H
                  obtain ⟨t104, A100, H⟩ := H
                  replace H : (if t104 = true then ((spec_l1In.f ((rd_T54 l0 x18_2).f1) 0 9).bind fun t105 => (if t105 = true then ((spec_l1In.f ((rd_T54 l0 x18_2).f2) (-100) 100).bind fun t106 => (if t106 = true then (spec_grTasks.l0 k2 l0 (l0.length : Int) (wrap64 (x18_2 + 1))) else (some false))) else (some false))) else (some false)) = some r := H
                  have A10 := Aside0.mk A100
                  clear A100
                  by_cases c11 : t104 = true
                  · subst c11
                    have H1 : ((spec_l1In.f ((rd_T54 l0 x18_2).f1) 0 9).bind fun t105 => (if t105 = true then ((spec_l1In.f ((rd_T54 l0 x18_2).f2) (-100) 100).bind fun t106 => (if t106 = true then (spec_grTasks.l0 k2 l0 (l0.length : Int) (wrap64 (x18_2 + 1))) else (some false))) else (some false))) = some r := by rw [if_pos rfl] at H; exact H
                    clear H
                    have H := H1
                    clear H1
                    replace H := Option.bind_eq_some_iff.mp H
                    obtain ⟨t105, A120, H⟩ := H
                    replace H : (if t105 = true then ((spec_l1In.f ((rd_T54 l0 x18_2).f2) (-100) 100).bind fun t106 => (if t106 = true then (spec_grTasks.l0 k2 l0 (l0.length : Int) (wrap64 (x18_2 + 1))) else (some false))) else (some false)) = some r := H
                    have A12 := Aside0.mk A120
                    clear A120
                    by_cases c13 : t105 = true
                    · subst c13
                      have H1 : ((spec_l1In.f ((rd_T54 l0 x18_2).f2) (-100) 100).bind fun t106 => (if t106 = true then (spec_grTasks.l0 k2 l0 (l0.length : Int) (wrap64 (x18_2 + 1))) else (some false))) = some r := by rw [if_pos rfl] at H; exact H
                      clear H
                      have H := H1
                      clear H1
                      replace H := Option.bind_eq_some_iff.mp H
                      obtain ⟨t106, A140, H⟩ := H
                      replace H : (if t106 = true then (spec_grTasks.l0 k2 l0 (l0.length : Int) (wrap64 (x18_2 + 1))) else (some false)) = some r := H
                      have A14 := Aside0.mk A140
                      clear A140
                      by_cases c15 : t106 = true
                      · subst c15
                        have H1 : (spec_grTasks.l0 k2 l0 (l0.length : Int) (wrap64 (x18_2 + 1))) = some r := by rw [if_pos rfl] at H; exact H
                        clear H
                        have H := H1
                        clear H1
                        have H' := Aside0.mk H
                        clear H
                        have p102 : 0 ≤ (x18_2 : Int) := of_decide_eq_true (by first | (with_reducible assumption) | assumption)
                        have q102 : x18_2 < (l0.length : Int) := of_decide_eq_true (by first | (with_reducible assumption) | assumption)
                        obtain ⟨ad102, e102, hx102_0, hx102_1, hx102_2⟩ := at_T54 HR0.out x18_2 p102 q102
                        cases e102
                        replace hx102_0 := (HB.out.cell (World.block_lt_of_cell? w _ hx102_0)).trans hx102_0
                        replace hx102_1 := (HB.out.cell (World.block_lt_of_cell? w _ hx102_1)).trans hx102_1
                        replace hx102_2 := (HB.out.cell (World.block_lt_of_cell? w _ hx102_2)).trans hx102_2
                        replace p102 := eq_true p102
                        replace q102 := eq_true q102
                        go_wp2_with (first | ((with_reducible refine gate_dst (N := 6) rfl ?_); (try (refine gate_guard (by rfl) ?_; dsimp only)); refine box_event ?hg (N := 6) ?hd (cs := #[.int .i64 0, .int .i64 0, .int .i64 0]) (t := 54) ?hr ?_; (case hd => rfl); (case hg => rfl); (case hr => first | (go_simp; done) | (go_simp; rfl)); intro gb103 hg w16 hbox hb; have n0_ := Aside0.mk (below_step (by repeat (first | (with_reducible first | exact HB.out | apply below_alloc | apply pw_below_drewN | apply below_drew1) | exact HB.out)) hb); have n1_ := Aside0.mk (hbox); have n2_ := Aside0.mk ((by rw [hg]; exact (below_size (by repeat (first | (with_reducible first | exact HB.out | apply below_alloc | apply pw_below_drewN | apply below_drew1) | exact HB.out))) : w.heap.size ≤ gb103)); have n3_ := Aside0.mk ((by rw [hg]; exact (below_size (by repeat (first | (with_reducible first | exact HB.out | apply below_alloc | apply pw_below_drewN | apply below_drew1) | exact HB.out))) : w.heap.size ≤ gb103)); clear HB; have HB := n0_; have BK103 := n1_; have GW103 := n2_; have GE103 := n3_; clear n0_ n1_ n2_ n3_; clear hb hbox hg; have hcz17_0 : w16.cell? ⟨gb103, 0, none⟩ = some (.int .i64 0) := (blk_cell BK103.out 0).trans rfl; have hcz17_1 : w16.cell? ⟨gb103, 1, none⟩ = some (.int .i64 0) := (blk_cell BK103.out 1).trans rfl; have hcz17_2 : w16.cell? ⟨gb103, 2, none⟩ = some (.int .i64 0) := (blk_cell BK103.out 2).trans rfl; have hfz17_0 := blk_frozen BK103.out 0; have hfz17_1 := blk_frozen BK103.out 1; have hfz17_2 := blk_frozen BK103.out 2) | ((with_reducible refine gate_callee (f := 53) rfl ?_); refine goesL_ (some 24) rfl rfl Try.func53 (by kernel_rfl) rfl #[.int .i64 ((rd_T54 l0 x18_2).f0), .int .i64 1, .int .i64 9] rfl (by (try simp only [List.map_toArray, List.map_cons, List.map_nil]); first | done | rfl | (simp only [List.length_drop, List.length_take]; rfl)) ?_; (with_reducible refine (spec_l1In.calls ((rd_T54 l0 x18_2).f0) 1 9 true _ A10.out).mono ?_); rintro e w' ⟨rfl, ⟨nd, rfl⟩⟩; refine ⟨_, rfl, ?_⟩) | (go_at_call 53; (with_reducible refine (spec_l1In.calls ((rd_T54 l0 x18_2).f1) 0 9 true _ A12.out).mono ?_); rintro e w' ⟨rfl, ⟨nd, rfl⟩⟩) | (go_at_call 53; (with_reducible refine (spec_l1In.calls ((rd_T54 l0 x18_2).f2) (-100) 100 true _ A14.out).mono ?_); rintro e w' ⟨rfl, ⟨nd, rfl⟩⟩))
                        go_roundg k2
                        case measure => have := HJ2.out; have := HK2.out; omega
                        case rel => exact ⟨(wrap64 (x18_2 + 1)), (by first | rfl | (simp; done) | (simp [*]; done)), H', ⟨by have := HJ2.out; have := HK2.out; omega⟩, ⟨by repeat (first | (with_reducible first | exact HB.out | apply below_alloc | apply pw_below_drewN | apply below_drew1 | refine below_set ?_ GE103.out) | exact HB.out)⟩⟩
                      · replace c15 := Bool.eq_false_iff.mpr c15
                        subst c15
                        have H1 : (some false) = some r := by rw [if_neg (show ¬ (false = true) by decide)] at H; exact H
                        clear H
                        have H := H1
                        clear H1
                        obtain rfl := Option.some.inj H
                        have p102 : 0 ≤ (x18_2 : Int) := of_decide_eq_true (by first | (with_reducible assumption) | assumption)
                        have q102 : x18_2 < (l0.length : Int) := of_decide_eq_true (by first | (with_reducible assumption) | assumption)
                        obtain ⟨ad102, e102, hx102_0, hx102_1, hx102_2⟩ := at_T54 HR0.out x18_2 p102 q102
                        cases e102
                        replace hx102_0 := (HB.out.cell (World.block_lt_of_cell? w _ hx102_0)).trans hx102_0
                        replace hx102_1 := (HB.out.cell (World.block_lt_of_cell? w _ hx102_1)).trans hx102_1
                        replace hx102_2 := (HB.out.cell (World.block_lt_of_cell? w _ hx102_2)).trans hx102_2
                        replace p102 := eq_true p102
                        replace q102 := eq_true q102
                        go_wp2_with (first | ((with_reducible refine gate_dst (N := 6) rfl ?_); (try (refine gate_guard (by rfl) ?_; dsimp only)); refine box_event ?hg (N := 6) ?hd (cs := #[.int .i64 0, .int .i64 0, .int .i64 0]) (t := 54) ?hr ?_; (case hd => rfl); (case hg => rfl); (case hr => first | (go_simp; done) | (go_simp; rfl)); intro gb103 hg w18 hbox hb; have n0_ := Aside0.mk (below_step (by repeat (first | (with_reducible first | exact HB.out | apply below_alloc | apply pw_below_drewN | apply below_drew1) | exact HB.out)) hb); have n1_ := Aside0.mk (hbox); have n2_ := Aside0.mk ((by rw [hg]; exact (below_size (by repeat (first | (with_reducible first | exact HB.out | apply below_alloc | apply pw_below_drewN | apply below_drew1) | exact HB.out))) : w.heap.size ≤ gb103)); have n3_ := Aside0.mk ((by rw [hg]; exact (below_size (by repeat (first | (with_reducible first | exact HB.out | apply below_alloc | apply pw_below_drewN | apply below_drew1) | exact HB.out))) : w.heap.size ≤ gb103)); clear HB; have HB := n0_; have BK103 := n1_; have GW103 := n2_; have GE103 := n3_; clear n0_ n1_ n2_ n3_; clear hb hbox hg; have hcz19_0 : w18.cell? ⟨gb103, 0, none⟩ = some (.int .i64 0) := (blk_cell BK103.out 0).trans rfl; have hcz19_1 : w18.cell? ⟨gb103, 1, none⟩ = some (.int .i64 0) := (blk_cell BK103.out 1).trans rfl; have hcz19_2 : w18.cell? ⟨gb103, 2, none⟩ = some (.int .i64 0) := (blk_cell BK103.out 2).trans rfl; have hfz19_0 := blk_frozen BK103.out 0; have hfz19_1 := blk_frozen BK103.out 1; have hfz19_2 := blk_frozen BK103.out 2) | ((with_reducible refine gate_callee (f := 53) rfl ?_); refine goesL_ (some 24) rfl rfl Try.func53 (by kernel_rfl) rfl #[.int .i64 ((rd_T54 l0 x18_2).f0), .int .i64 1, .int .i64 9] rfl (by (try simp only [List.map_toArray, List.map_cons, List.map_nil]); first | done | rfl | (simp only [List.length_drop, List.length_take]; rfl)) ?_; (with_reducible refine (spec_l1In.calls ((rd_T54 l0 x18_2).f0) 1 9 true _ A10.out).mono ?_); rintro e w' ⟨rfl, ⟨nd, rfl⟩⟩; refine ⟨_, rfl, ?_⟩) | (go_at_call 53; (with_reducible refine (spec_l1In.calls ((rd_T54 l0 x18_2).f1) 0 9 true _ A12.out).mono ?_); rintro e w' ⟨rfl, ⟨nd, rfl⟩⟩) | (go_at_call 53; (with_reducible refine (spec_l1In.calls ((rd_T54 l0 x18_2).f2) (-100) 100 false _ A14.out).mono ?_); rintro e w' ⟨rfl, ⟨nd, rfl⟩⟩))
                        go_ret
                        exact ⟨by first | rfl | (simp [errW_none, errW_some] <;> rfl) | (simp [*, errW_none, errW_some] <;> rfl), by repeat (first | (with_reducible first | exact HB.out | apply below_alloc | apply pw_below_drewN | apply below_drew1 | refine below_set ?_ GE103.out) | exact HB.out)⟩
                    · replace c13 := Bool.eq_false_iff.mpr c13
                      subst c13
                      have H1 : (some false) = some r := by rw [if_neg (show ¬ (false = true) by decide)] at H; exact H
                      clear H
                      have H := H1
                      clear H1
                      obtain rfl := Option.some.inj H
                      have p102 : 0 ≤ (x18_2 : Int) := of_decide_eq_true (by first | (with_reducible assumption) | assumption)
                      have q102 : x18_2 < (l0.length : Int) := of_decide_eq_true (by first | (with_reducible assumption) | assumption)
                      obtain ⟨ad102, e102, hx102_0, hx102_1, hx102_2⟩ := at_T54 HR0.out x18_2 p102 q102
                      cases e102
                      replace hx102_0 := (HB.out.cell (World.block_lt_of_cell? w _ hx102_0)).trans hx102_0
                      replace hx102_1 := (HB.out.cell (World.block_lt_of_cell? w _ hx102_1)).trans hx102_1
                      replace hx102_2 := (HB.out.cell (World.block_lt_of_cell? w _ hx102_2)).trans hx102_2
                      replace p102 := eq_true p102
                      replace q102 := eq_true q102
                      go_wp2_with (first | ((with_reducible refine gate_dst (N := 6) rfl ?_); (try (refine gate_guard (by rfl) ?_; dsimp only)); refine box_event ?hg (N := 6) ?hd (cs := #[.int .i64 0, .int .i64 0, .int .i64 0]) (t := 54) ?hr ?_; (case hd => rfl); (case hg => rfl); (case hr => first | (go_simp; done) | (go_simp; rfl)); intro gb103 hg w20 hbox hb; have n0_ := Aside0.mk (below_step (by repeat (first | (with_reducible first | exact HB.out | apply below_alloc | apply pw_below_drewN | apply below_drew1) | exact HB.out)) hb); have n1_ := Aside0.mk (hbox); have n2_ := Aside0.mk ((by rw [hg]; exact (below_size (by repeat (first | (with_reducible first | exact HB.out | apply below_alloc | apply pw_below_drewN | apply below_drew1) | exact HB.out))) : w.heap.size ≤ gb103)); have n3_ := Aside0.mk ((by rw [hg]; exact (below_size (by repeat (first | (with_reducible first | exact HB.out | apply below_alloc | apply pw_below_drewN | apply below_drew1) | exact HB.out))) : w.heap.size ≤ gb103)); clear HB; have HB := n0_; have BK103 := n1_; have GW103 := n2_; have GE103 := n3_; clear n0_ n1_ n2_ n3_; clear hb hbox hg; have hcz21_0 : w20.cell? ⟨gb103, 0, none⟩ = some (.int .i64 0) := (blk_cell BK103.out 0).trans rfl; have hcz21_1 : w20.cell? ⟨gb103, 1, none⟩ = some (.int .i64 0) := (blk_cell BK103.out 1).trans rfl; have hcz21_2 : w20.cell? ⟨gb103, 2, none⟩ = some (.int .i64 0) := (blk_cell BK103.out 2).trans rfl; have hfz21_0 := blk_frozen BK103.out 0; have hfz21_1 := blk_frozen BK103.out 1; have hfz21_2 := blk_frozen BK103.out 2) | ((with_reducible refine gate_callee (f := 53) rfl ?_); refine goesL_ (some 24) rfl rfl Try.func53 (by kernel_rfl) rfl #[.int .i64 ((rd_T54 l0 x18_2).f0), .int .i64 1, .int .i64 9] rfl (by (try simp only [List.map_toArray, List.map_cons, List.map_nil]); first | done | rfl | (simp only [List.length_drop, List.length_take]; rfl)) ?_; (with_reducible refine (spec_l1In.calls ((rd_T54 l0 x18_2).f0) 1 9 true _ A10.out).mono ?_); rintro e w' ⟨rfl, ⟨nd, rfl⟩⟩; refine ⟨_, rfl, ?_⟩) | (go_at_call 53; (with_reducible refine (spec_l1In.calls ((rd_T54 l0 x18_2).f1) 0 9 false _ A12.out).mono ?_); rintro e w' ⟨rfl, ⟨nd, rfl⟩⟩))
                      go_ret
                      exact ⟨by first | rfl | (simp [errW_none, errW_some] <;> rfl) | (simp [*, errW_none, errW_some] <;> rfl), by repeat (first | (with_reducible first | exact HB.out | apply below_alloc | apply pw_below_drewN | apply below_drew1 | refine below_set ?_ GE103.out) | exact HB.out)⟩
                  · replace c11 := Bool.eq_false_iff.mpr c11
                    subst c11
                    have H1 : (some false) = some r := by rw [if_neg (show ¬ (false = true) by decide)] at H; exact H
                    clear H
                    have H := H1
                    clear H1
                    obtain rfl := Option.some.inj H
                    have p102 : 0 ≤ (x18_2 : Int) := of_decide_eq_true (by first | (with_reducible assumption) | assumption)
                    have q102 : x18_2 < (l0.length : Int) := of_decide_eq_true (by first | (with_reducible assumption) | assumption)
                    obtain ⟨ad102, e102, hx102_0, hx102_1, hx102_2⟩ := at_T54 HR0.out x18_2 p102 q102
                    cases e102
                    replace hx102_0 := (HB.out.cell (World.block_lt_of_cell? w _ hx102_0)).trans hx102_0
                    replace hx102_1 := (HB.out.cell (World.block_lt_of_cell? w _ hx102_1)).trans hx102_1
                    replace hx102_2 := (HB.out.cell (World.block_lt_of_cell? w _ hx102_2)).trans hx102_2
                    replace p102 := eq_true p102
                    replace q102 := eq_true q102
                    go_wp2_with (first | ((with_reducible refine gate_dst (N := 6) rfl ?_); (try (refine gate_guard (by rfl) ?_; dsimp only)); refine box_event ?hg (N := 6) ?hd (cs := #[.int .i64 0, .int .i64 0, .int .i64 0]) (t := 54) ?hr ?_; (case hd => rfl); (case hg => rfl); (case hr => first | (go_simp; done) | (go_simp; rfl)); intro gb103 hg w22 hbox hb; have n0_ := Aside0.mk (below_step (by repeat (first | (with_reducible first | exact HB.out | apply below_alloc | apply pw_below_drewN | apply below_drew1) | exact HB.out)) hb); have n1_ := Aside0.mk (hbox); have n2_ := Aside0.mk ((by rw [hg]; exact (below_size (by repeat (first | (with_reducible first | exact HB.out | apply below_alloc | apply pw_below_drewN | apply below_drew1) | exact HB.out))) : w.heap.size ≤ gb103)); have n3_ := Aside0.mk ((by rw [hg]; exact (below_size (by repeat (first | (with_reducible first | exact HB.out | apply below_alloc | apply pw_below_drewN | apply below_drew1) | exact HB.out))) : w.heap.size ≤ gb103)); clear HB; have HB := n0_; have BK103 := n1_; have GW103 := n2_; have GE103 := n3_; clear n0_ n1_ n2_ n3_; clear hb hbox hg; have hcz23_0 : w22.cell? ⟨gb103, 0, none⟩ = some (.int .i64 0) := (blk_cell BK103.out 0).trans rfl; have hcz23_1 : w22.cell? ⟨gb103, 1, none⟩ = some (.int .i64 0) := (blk_cell BK103.out 1).trans rfl; have hcz23_2 : w22.cell? ⟨gb103, 2, none⟩ = some (.int .i64 0) := (blk_cell BK103.out 2).trans rfl; have hfz23_0 := blk_frozen BK103.out 0; have hfz23_1 := blk_frozen BK103.out 1; have hfz23_2 := blk_frozen BK103.out 2) | ((with_reducible refine gate_callee (f := 53) rfl ?_); refine goesL_ (some 24) rfl rfl Try.func53 (by kernel_rfl) rfl #[.int .i64 ((rd_T54 l0 x18_2).f0), .int .i64 1, .int .i64 9] rfl (by (try simp only [List.map_toArray, List.map_cons, List.map_nil]); first | done | rfl | (simp only [List.length_drop, List.length_take]; rfl)) ?_; (with_reducible refine (spec_l1In.calls ((rd_T54 l0 x18_2).f0) 1 9 false _ A10.out).mono ?_); rintro e w' ⟨rfl, ⟨nd, rfl⟩⟩; refine ⟨_, rfl, ?_⟩))
                    go_ret
                    exact ⟨by first | rfl | (simp [errW_none, errW_some] <;> rfl) | (simp [*, errW_none, errW_some] <;> rfl), by repeat (first | (with_reducible first | exact HB.out | apply below_alloc | apply pw_below_drewN | apply below_drew1 | refine below_set ?_ GE103.out) | exact HB.out)⟩
                · rw [if_neg c9] at H
                  exact absurd H (by simp)
              · rw [if_neg c8] at H
                exact absurd H (by simp)
            · rw [if_neg c7] at H
              have c7b0 : decide (x18_2 < (l0.length : Int)) = false := decide_eq_false c7
              clear c7
              obtain rfl := Option.some.inj H
              go_wp2
              go_ret
              exact ⟨by first | rfl | (simp [errW_none, errW_some] <;> rfl) | (simp [*, errW_none, errW_some] <;> rfl), by repeat (first | (with_reducible first | exact HB.out | apply below_alloc | apply pw_below_drewN | apply below_drew1) | exact HB.out)⟩

/-! ### spec_AreTasks: function 10 -/
def spec_AreTasks.f (k : Nat) (l0 : List (S54)) (a1 : Int) : Option (Bool) := (spec_grTasks.f k l0 a1).bind fun t101 => (some t101)
theorem spec_AreTasks.mono : ∀ a0 a1 k, LeO (spec_AreTasks.f k a0 a1) (spec_AreTasks.f (k + 1) a0 a1) := by
  intro a0 a1 k
  unfold spec_AreTasks.f
  repeat' first
      | (with_reducible exact spec_grTasks.mono _ _ _)
      | (with_reducible exact LeO.refl _)
      | (with_reducible exact LeO.none _)
      | (with_reducible refine LeO.ite ?_ ?_)
      | (with_reducible refine LeO.bind ?_ (fun _ => ?_))
      | exact spec_grTasks.mono _ _ _
      | exact LeO.none _
      | refine LeO.ite ?_ ?_
      | refine LeO.bind ?_ (fun _ => ?_)
set_option maxHeartbeats 8000000 in
set_option maxRecDepth 100000 in
theorem spec_AreTasks.calls (k : Nat) (A0 : Option Addr) (c0 : Nat) (l0 : List (S54)) (a1 : Int) (r : Bool) (w : World) (hr0 : Kd.C k54 w A0 l0.length l0) (hc0 : l0.length ≤ c0) (h : spec_AreTasks.f k l0 a1 = some r) :
    Calls Try.prog 10 #[.slice A0 l0.length c0, .int .i64 a1] w fun e w' => e = .returned (.bool r) ∧ Below w.heap.size w w' := by
  have HR0 := Aside0.mk hr0
  have HC0 := Aside0.mk hc0
  clear hr0 hc0
  have HB := Aside0.mk (Below.refl w.heap.size w)
  have H : ((spec_grTasks.f k l0 a1).bind fun t101 => (some t101)) = some r := h
  clear h
  replace H := Option.bind_eq_some_iff.mp H
  obtain ⟨t101, A30, H⟩ := H
  replace H : (some t101) = some r := H
  have A3 := Aside0.mk A30
  clear A30
  obtain rfl := Option.some.inj H
  go_enter Try.func10, Try.ntmps10
  go_wp2_with (first | ((with_reducible refine gate_callee (f := 31) rfl ?_); refine goesL_ (some 7) rfl rfl Try.func31 (by kernel_rfl) rfl #[.slice A0 l0.length c0, .int .i64 a1] rfl (by (try simp only [List.map_toArray, List.map_cons, List.map_nil]); first | done | rfl | (simp only [List.length_drop, List.length_take]; rfl)) ?_; (with_reducible refine (spec_grTasks.calls k _ _ l0 a1 t101 _ ?side1 ?side2 A3.out).mono ?_); (case side1 => repeat (first | exact HR0.out | (with_reducible refine Kd.C_alloc ?_ _) | (with_reducible refine Kd.C_drewN ?_ _) | (with_reducible refine Kd.C_drew ?_))); (case side2 => exact HC0.out); rintro e w4 ⟨rfl, hb⟩; refine ⟨_, rfl, ?_⟩; have n0_ := Aside0.mk (below_step (by repeat (first | (with_reducible first | exact HB.out | apply below_alloc | apply pw_below_drewN | apply below_drew1) | exact HB.out)) hb); clear HB; have HB := n0_; clear n0_; (try clear hb); (try clear hb2); (try clear hk); (try clear hi)))
  go_ret
  exact ⟨by first | rfl | (simp [errW_none, errW_some] <;> rfl) | (simp [*, errW_none, errW_some] <;> rfl), by repeat (first | (with_reducible first | exact HB.out | apply below_alloc | apply pw_below_drewN | apply below_drew1) | exact HB.out)⟩

/-! ### laws_toTask: function 32 -/
def laws_toTask.f (a0_0 : Int) (a0_1 : Int) (a0_2 : Int) : Option (Int × Int × Int) := some (a0_0, a0_1, a0_2)
set_option maxHeartbeats 8000000 in
set_option maxRecDepth 100000 in
theorem laws_toTask.calls (a0_0 : Int) (a0_1 : Int) (a0_2 : Int) (r1 : Int) (r2 : Int) (r3 : Int) (w : World) (h : laws_toTask.f a0_0 a0_1 a0_2 = some (r1, r2, r3)) :
    Calls Try.prog 32 #[.agg #[.int .i64 a0_0, .int .i64 a0_1, .int .i64 a0_2]] w fun e w' => e = .returned (.agg #[.int .i64 r1, .int .i64 r2, .int .i64 r3]) ∧ Below w.heap.size w w' := by
  have hu56 := Try.underlying56
  have hu54 := Try.underlying54
  have HB := Aside0.mk (Below.refl w.heap.size w)
  have H : (some (a0_0, a0_1, a0_2)) = some (r1, r2, r3) := h
  clear h
  simp only [Option.some.injEq, Prod.mk.injEq] at H
  obtain ⟨rfl, rfl, rfl⟩ := H
  go_enter Try.func32, Try.ntmps32
  go_wp2_with (first | ((with_reducible refine gate_dst (N := 1) rfl ?_); refine box_event ?hg (N := 1) ?hd (cs := #[.int .i64 a0_0, .int .i64 a0_1, .int .i64 a0_2]) (t := 56) ?hr ?_; (case hd => rfl); (case hg => rfl); (case hr => first | (go_simp; done) | (go_simp; rfl)); intro gb101 hg w2 hbox hb; have n0_ := Aside0.mk (below_step (by repeat (first | (with_reducible first | exact HB.out | apply below_alloc | apply pw_below_drewN | apply below_drew1) | exact HB.out)) hb); have n1_ := Aside0.mk (hbox); have n2_ := Aside0.mk ((by rw [hg]; exact (below_size (by repeat (first | (with_reducible first | exact HB.out | apply below_alloc | apply pw_below_drewN | apply below_drew1) | exact HB.out))) : w.heap.size ≤ gb101)); have n3_ := Aside0.mk ((by rw [hg]; exact (below_size (by repeat (first | (with_reducible first | exact HB.out | apply below_alloc | apply pw_below_drewN | apply below_drew1) | exact HB.out))) : w.heap.size ≤ gb101)); clear HB; have HB := n0_; have BK101 := n1_; have GW101 := n2_; have GE101 := n3_; clear n0_ n1_ n2_ n3_; clear hb hbox hg) | ((with_reducible refine gate_dst (N := 2) rfl ?_); refine box_event ?hg (N := 2) ?hd (cs := #[.int .i64 0, .int .i64 0, .int .i64 0]) (t := 54) ?hr ?_; (case hd => rfl); (case hg => rfl); (case hr => first | (go_simp; done) | (go_simp; rfl)); intro gb102 hg w3 hbox hb; have n0_ := Aside0.mk (blk_below (g := gb101) (o := .cells #[.int .i64 a0_0, .int .i64 a0_1, .int .i64 a0_2] 56 (0, 0)) (by (with_reducible repeat (first | refine blk_drewN ?_ _ | refine blk_drew ?_ | refine blk_alloc ?_ _)); exact BK101.out) hb); have n1_ := Aside0.mk (below_step (by repeat (first | (with_reducible first | exact HB.out | apply below_alloc | apply pw_below_drewN | apply below_drew1 | refine below_set ?_ GE101.out) | exact HB.out)) hb); have n2_ := Aside0.mk (hbox); have n3_ := Aside0.mk ((by rw [hg]; exact (below_size (by repeat (first | (with_reducible first | exact HB.out | apply below_alloc | apply pw_below_drewN | apply below_drew1 | refine below_set ?_ GE101.out) | exact HB.out))) : w.heap.size ≤ gb102)); have n4_ := Aside0.mk ((by rw [hg]; exact (below_size (by repeat (first | (with_reducible first | exact HB.out | apply below_alloc | apply pw_below_drewN | apply below_drew1 | refine below_set ?_ GE101.out) | exact HB.out))) : w.heap.size ≤ gb102)); have n5_ := Aside0.mk ((by rw [hg]; exact Nat.ne_of_lt (blk_lt (g := gb101) (o := .cells #[.int .i64 a0_0, .int .i64 a0_1, .int .i64 a0_2] 56 (0, 0)) (by (with_reducible repeat (first | refine blk_drewN ?_ _ | refine blk_drew ?_ | refine blk_alloc ?_ _)); exact BK101.out)) : gb101 ≠ gb102)); have n6_ := Aside0.mk ((by rw [hg]; exact Nat.ne_of_gt (blk_lt (g := gb101) (o := .cells #[.int .i64 a0_0, .int .i64 a0_1, .int .i64 a0_2] 56 (0, 0)) (by (with_reducible repeat (first | refine blk_drewN ?_ _ | refine blk_drew ?_ | refine blk_alloc ?_ _)); exact BK101.out)) : gb102 ≠ gb101)); clear BK101; clear HB; have BK101 := n0_; have HB := n1_; have BK102 := n2_; have GW102 := n3_; have GE102 := n4_; have NB101_102 := n5_; have NB102_101 := n6_; clear n0_ n1_ n2_ n3_ n4_ n5_ n6_; clear hb hbox hg) | ((with_reducible refine gate_dst (N := 3) rfl ?_); refine box_event ?hg (N := 3) ?hd (cs := #[.int .i64 0, .int .i64 0, .int .i64 0]) (t := 54) ?hr ?_; (case hd => rfl); (case hg => rfl); (case hr => first | (go_simp; done) | (go_simp; rfl)); intro gb103 hg w4 hbox hb; have n0_ := Aside0.mk (blk_below (g := gb101) (o := .cells #[.int .i64 a0_0, .int .i64 a0_1, .int .i64 a0_2] 56 (0, 0)) (by (with_reducible repeat (first | refine blk_drewN ?_ _ | refine blk_drew ?_ | refine blk_alloc ?_ _)); exact BK101.out) hb); have n1_ := Aside0.mk (blk_below (g := gb102) (o := .cells #[.int .i64 0, .int .i64 0, .int .i64 0] 54 (0, 0)) (by (with_reducible repeat (first | refine blk_drewN ?_ _ | refine blk_drew ?_ | refine blk_alloc ?_ _)); exact BK102.out) hb); have n2_ := Aside0.mk (below_step (by repeat (first | (with_reducible first | exact HB.out | apply below_alloc | apply pw_below_drewN | apply below_drew1 | refine below_set ?_ GE101.out | refine below_set ?_ GE102.out) | exact HB.out)) hb); have n3_ := Aside0.mk (hbox); have n4_ := Aside0.mk ((by rw [hg]; exact (below_size (by repeat (first | (with_reducible first | exact HB.out | apply below_alloc | apply pw_below_drewN | apply below_drew1 | refine below_set ?_ GE101.out | refine below_set ?_ GE102.out) | exact HB.out))) : w.heap.size ≤ gb103)); have n5_ := Aside0.mk ((by rw [hg]; exact (below_size (by repeat (first | (with_reducible first | exact HB.out | apply below_alloc | apply pw_below_drewN | apply below_drew1 | refine below_set ?_ GE101.out | refine below_set ?_ GE102.out) | exact HB.out))) : w.heap.size ≤ gb103)); have n6_ := Aside0.mk ((by rw [hg]; exact Nat.ne_of_lt (blk_lt (g := gb101) (o := .cells #[.int .i64 a0_0, .int .i64 a0_1, .int .i64 a0_2] 56 (0, 0)) (by (with_reducible repeat (first | refine blk_drewN ?_ _ | refine blk_drew ?_ | refine blk_alloc ?_ _)); exact BK101.out)) : gb101 ≠ gb103)); have n7_ := Aside0.mk ((by rw [hg]; exact Nat.ne_of_gt (blk_lt (g := gb101) (o := .cells #[.int .i64 a0_0, .int .i64 a0_1, .int .i64 a0_2] 56 (0, 0)) (by (with_reducible repeat (first | refine blk_drewN ?_ _ | refine blk_drew ?_ | refine blk_alloc ?_ _)); exact BK101.out)) : gb103 ≠ gb101)); have n8_ := Aside0.mk ((by rw [hg]; exact Nat.ne_of_lt (blk_lt (g := gb102) (o := .cells #[.int .i64 0, .int .i64 0, .int .i64 0] 54 (0, 0)) (by (with_reducible repeat (first | refine blk_drewN ?_ _ | refine blk_drew ?_ | refine blk_alloc ?_ _)); exact BK102.out)) : gb102 ≠ gb103)); have n9_ := Aside0.mk ((by rw [hg]; exact Nat.ne_of_gt (blk_lt (g := gb102) (o := .cells #[.int .i64 0, .int .i64 0, .int .i64 0] 54 (0, 0)) (by (with_reducible repeat (first | refine blk_drewN ?_ _ | refine blk_drew ?_ | refine blk_alloc ?_ _)); exact BK102.out)) : gb103 ≠ gb102)); clear BK101; clear BK102; clear HB; have BK101 := n0_; have BK102 := n1_; have HB := n2_; have BK103 := n3_; have GW103 := n4_; have GE103 := n5_; have NB101_103 := n6_; have NB103_101 := n7_; have NB102_103 := n8_; have NB103_102 := n9_; clear n0_ n1_ n2_ n3_ n4_ n5_ n6_ n7_ n8_ n9_; clear hb hbox hg; have hnb5 := NB101_102.out; have hnc5 := NB102_101.out; have hnb6 := NB101_103.out; have hnc6 := NB103_101.out; have hcz7_0 : w4.cell? ⟨gb101, 0, none⟩ = some (.int .i64 a0_0) := (blk_cell BK101.out 0).trans rfl; have hcz7_1 : w4.cell? ⟨gb101, 1, none⟩ = some (.int .i64 a0_1) := (blk_cell BK101.out 1).trans rfl; have hcz7_2 : w4.cell? ⟨gb101, 2, none⟩ = some (.int .i64 a0_2) := (blk_cell BK101.out 2).trans rfl; have hfz7_0 := blk_frozen BK101.out 0; have hfz7_1 := blk_frozen BK101.out 1; have hfz7_2 := blk_frozen BK101.out 2; have hnb8 := NB103_102.out; have hnc8 := NB102_103.out; have hcz9_0 : w4.cell? ⟨gb103, 0, none⟩ = some (.int .i64 0) := (blk_cell BK103.out 0).trans rfl; have hcz9_1 : w4.cell? ⟨gb103, 1, none⟩ = some (.int .i64 0) := (blk_cell BK103.out 1).trans rfl; have hcz9_2 : w4.cell? ⟨gb103, 2, none⟩ = some (.int .i64 0) := (blk_cell BK103.out 2).trans rfl; have hfz9_0 := blk_frozen BK103.out 0; have hfz9_1 := blk_frozen BK103.out 1; have hfz9_2 := blk_frozen BK103.out 2; have hcz10_0 : w4.cell? ⟨gb102, 0, none⟩ = some (.int .i64 0) := (blk_cell BK102.out 0).trans rfl; have hcz10_1 : w4.cell? ⟨gb102, 1, none⟩ = some (.int .i64 0) := (blk_cell BK102.out 1).trans rfl; have hcz10_2 : w4.cell? ⟨gb102, 2, none⟩ = some (.int .i64 0) := (blk_cell BK102.out 2).trans rfl; have hfz10_0 := blk_frozen BK102.out 0; have hfz10_1 := blk_frozen BK102.out 1; have hfz10_2 := blk_frozen BK102.out 2))
  refine bodyPost_ret (results_cell_row rfl _ _ gb102 54 #[.int .i64 a0_0, .int .i64 a0_1, .int .i64 a0_2] (0, 0) _ rfl (by (with_reducible repeat (first | refine blk_drewN ?_ _ | refine blk_drew ?_ | refine blk_alloc ?_ _)); refine blk_put (cs := #[.int .i64 a0_0, .int .i64 a0_1, .int .i64 0]) ?_ 2 _ rfl; (with_reducible repeat (first | refine blk_drewN ?_ _ | refine blk_drew ?_ | refine blk_alloc ?_ _)); refine blk_put (cs := #[.int .i64 a0_0, .int .i64 0, .int .i64 0]) ?_ 1 _ rfl; (with_reducible repeat (first | refine blk_drewN ?_ _ | refine blk_drew ?_ | refine blk_alloc ?_ _)); refine blk_put (cs := #[.int .i64 0, .int .i64 0, .int .i64 0]) ?_ 0 _ rfl; (with_reducible repeat (first | refine blk_drewN ?_ _ | refine blk_drew ?_ | refine blk_alloc ?_ _)); refine blk_far ?_ NB102_103.out _; (with_reducible repeat (first | refine blk_drewN ?_ _ | refine blk_drew ?_ | refine blk_alloc ?_ _)); refine blk_far ?_ NB102_103.out _; (with_reducible repeat (first | refine blk_drewN ?_ _ | refine blk_drew ?_ | refine blk_alloc ?_ _)); refine blk_far ?_ NB102_103.out _; (with_reducible repeat (first | refine blk_drewN ?_ _ | refine blk_drew ?_ | refine blk_alloc ?_ _)); exact BK102.out) Try.underlying54 rfl (by kernel_rfl)) rfl ?_
  exact ⟨by first | rfl | (simp [errW_none, errW_some] <;> rfl) | (simp [*, errW_none, errW_some] <;> rfl), by repeat (first | (with_reducible first | exact HB.out | apply below_alloc | apply pw_below_drewN | apply below_drew1 | refine below_set ?_ GE101.out | refine below_set ?_ GE102.out | refine below_set ?_ GE103.out) | exact HB.out)⟩

/-! ### laws_toTaskS: function 11 -/
def laws_toTaskS.l0 : Nat → List (S56) → List (S54) → Int → Option ((List (S54)))
  | 0, _, _, _ => none
  | k + 1, x0, x3, x4 => if x4 < (x0.length : Int) then (if 0 ≤ x4 then ((laws_toTask.f ((rd_T56 x0 x4).f0) ((rd_T56 x0 x4).f1) ((rd_T56 x0 x4).f2)).bind fun bt105 => (if x4 < (x3.length : Int) then (laws_toTaskS.l0 k x0 (x3.set (x4 : Int).toNat (⟨bt105.1, bt105.2.1, bt105.2.2⟩ : S54)) (wrap64 (x4 + 1))) else (none))) else (none)) else (some x3)
def laws_toTaskS.f (k : Nat) (l0 : List (S56)) : Option ((List (S54))) := if 0 ≤ (l0.length : Int) then (if ((l0.length : Int) : Int).toNat ≤ 11728124029610 then (laws_toTaskS.l0 k l0 (List.replicate ((l0.length : Int) : Int).toNat z54) 0) else (none)) else (none)
theorem laws_toTaskS.mono_l : ∀ k, (∀ y0 y1 y2, LeO (laws_toTaskS.l0 k y0 y1 y2) (laws_toTaskS.l0 (k + 1) y0 y1 y2))
  | 0 => fun _ _ _ r h => by simp [laws_toTaskS.l0] at h
  | k + 1 => by
    have ih0 := laws_toTaskS.mono_l k
    · intro y0 y1 y2
      unfold laws_toTaskS.l0
      repeat' first
      | (with_reducible exact ih0 _ _ _)
      | (with_reducible exact LeO.refl _)
      | (with_reducible exact LeO.none _)
      | (with_reducible refine LeO.ite ?_ ?_)
      | (with_reducible refine LeO.bind ?_ (fun _ => ?_))
      | exact ih0 _ _ _
      | exact LeO.none _
      | refine LeO.ite ?_ ?_
      | refine LeO.bind ?_ (fun _ => ?_)
theorem laws_toTaskS.mono : ∀ a0 k, LeO (laws_toTaskS.f k a0) (laws_toTaskS.f (k + 1) a0) := by
  intro a0 k
  have ih0 := laws_toTaskS.mono_l k
  unfold laws_toTaskS.f
  repeat' first
      | (with_reducible exact ih0 _ _ _)
      | (with_reducible exact LeO.refl _)
      | (with_reducible exact LeO.none _)
      | (with_reducible refine LeO.ite ?_ ?_)
      | (with_reducible refine LeO.bind ?_ (fun _ => ?_))
      | exact ih0 _ _ _
      | exact LeO.none _
      | refine LeO.ite ?_ ?_
      | refine LeO.bind ?_ (fun _ => ?_)
set_option maxHeartbeats 8000000 in
set_option maxRecDepth 100000 in
theorem laws_toTaskS.calls (k : Nat) (A0 : Option Addr) (c0 : Nat) (l0 : List (S56)) (r : List (S54)) (w : World) (hr0 : Kd.C k56 w A0 l0.length l0) (hc0 : l0.length ≤ c0) (h : laws_toTaskS.f k l0 = some r) :
    Calls Try.prog 11 #[.slice A0 l0.length c0] w fun e w' => ∃ v0_ : Value, e = .returned (v0_) ∧ Kd.R k54 54 w' w.heap.size (fun _ => True) v0_ r ∧ Below w.heap.size w w' := by
  have hu56 := Try.underlying56
  have hu54 := Try.underlying54
  have HR0 := Aside0.mk hr0
  have HC0 := Aside0.mk hc0
  clear hr0 hc0
  have HB := Aside0.mk (Below.refl w.heap.size w)
  have H : (if 0 ≤ (l0.length : Int) then (if ((l0.length : Int) : Int).toNat ≤ 11728124029610 then (laws_toTaskS.l0 k l0 (List.replicate ((l0.length : Int) : Int).toNat z54) 0) else (none)) else (none)) = some r := h
  clear h
  by_cases c2 : 0 ≤ (l0.length : Int)
  · rw [if_pos c2] at H
    have c2b0 := eq_true c2
    have c2b1 : decide (0 ≤ (l0.length : Int)) = true := decide_eq_true c2
    clear c2
    by_cases c3 : ((l0.length : Int) : Int).toNat ≤ 11728124029610
    · rw [if_pos c3] at H
      have c3b0 := eq_true c3
      have c3b1 : decide (((l0.length : Int) : Int).toNat ≤ 11728124029610) = true := decide_eq_true c3
      clear c3
      obtain ⟨y101, hy101⟩ : ∃ y_ : List (S54), y_ = (List.replicate ((l0.length : Int) : Int).toNat z54) := ⟨_, rfl⟩
      replace H : (laws_toTaskS.l0 k l0 y101 0) = some r := by first | (rw [hy101]; with_reducible exact H) | (have H2_ := (Option.bind_some _ _).symm.trans H; rw [hy101]; with_reducible exact H2_) | (have H2_ := (Option.bind_some _ _).symm.trans H; with_reducible exact H2_) | with_reducible exact H | (rw [hy101]; exact H) | exact H
      have Ny101 := Aside0.mk hy101
      clear hy101
      have H' := Aside0.mk H
      clear H
      go_enter Try.func11, Try.ntmps11
      go_wp2_with (first | ((with_reducible refine gate_dst (N := 7) rfl ?_); refine Kd.R_make k54 _ 54 rfl (N := 7) rfl 25 _ _ rfl (l0.length : Int) rfl rfl Try.underlying25 (.agg #[(.int .i64 0), (.int .i64 0), (.int .i64 0)]) 24 info54 rfl (by decide) (by omega) z54 (ok := fun _ => True) (okp := fun _ => True) (k54_mkM _ _ _ z54 ) (fun _ hk => hk) trivial (of_decide_eq_true (by first | (with_reducible assumption) | assumption)) (Nat.le_trans (Nat.mul_le_mul_right _ (of_decide_eq_true (by first | (with_reducible assumption) | assumption) : (l0.length : Int).toNat ≤ 11728124029610)) (by omega)) (Below.refl _ _) (Nat.le_refl _) ?_; intro v102 w4 ho5 hb hg_ hnew_; clear hg_ hnew_; (first | rw [← Ny101.out] at ho5 | (simp only [Int.reduceToNat] at ho5; rw [← Ny101.out] at ho5)); have n0_ := Aside0.mk (Kd.R_lower ho5 (below_size (by repeat (first | (with_reducible first | exact HB.out | apply below_alloc | apply pw_below_drewN | apply below_drew1) | exact HB.out)))); have n1_ := Aside0.mk (below_step (by repeat (first | (with_reducible first | exact HB.out | apply below_alloc | apply pw_below_drewN | apply below_drew1) | exact HB.out)) hb); clear HB; have HO103 := n0_; have HB := n1_; clear n0_ n1_; clear hb ho5))
      go_loopg [4] k (fun kq v4 w' => ∃ (x3_1 : List (S54)) (x4_1 : Int), v4 = .int .i64 x4_1 ∧ Aside0 (laws_toTaskS.l0 kq l0 x3_1 x4_1 = some r) ∧ Aside0 (kq ≤ k) ∧ Aside0 (Kd.R k54 54 w' w.heap.size (fun _ => True) v102 x3_1) ∧ Aside0 (Below w.heap.size w w'))
      case atStart => exact ⟨(y101), (0), (by first | rfl | (simp; done) | (simp [*]; done)), H', ⟨Nat.le_refl _⟩, ⟨by (with_reducible repeat (first | apply Kd.R_alloc | apply Kd.R_drewN | apply Kd.R_drew)); exact HO103.out⟩, ⟨by repeat (first | (with_reducible first | exact HB.out | apply below_alloc | apply pw_below_drewN | apply below_drew1) | exact HB.out)⟩⟩
      case round =>
        clear H'
        try clear c1
        try clear c2
        try clear c2b0
        try clear c2b1
        try clear p2
        try clear c3
        try clear c3b0
        try clear c3b1
        obtain ⟨x3_1, x4_1, rfl, HA, HK1, HO_3, HB⟩ := hrel
        cases gk with
        | zero => exact absurd HA.out (by simp [laws_toTaskS.l0])
        | succ k1 =>
          have H := HA.out
          clear HA
          simp only [laws_toTaskS.l0] at H
          by_cases c6 : x4_1 < (l0.length : Int)
          · rw [if_pos c6] at H
            have c6b0 : decide (x4_1 < (l0.length : Int)) = true := decide_eq_true c6
            clear c6
            by_cases c7 : 0 ≤ x4_1
            · rw [if_pos c7] at H
              have c7b0 : decide (0 ≤ x4_1) = true := decide_eq_true c7
              clear c7
              replace H := Option.bind_eq_some_iff.mp H
              obtain ⟨⟨t105, t106, t107⟩, A80, H⟩ := H
              replace H : (if x4_1 < (x3_1.length : Int) then (laws_toTaskS.l0 k1 l0 (x3_1.set (x4_1 : Int).toNat (⟨t105, t106, t107⟩ : S54)) (wrap64 (x4_1 + 1))) else (none)) = some r := H
              have A8 := Aside0.mk A80
              clear A80
              by_cases c9 : x4_1 < (x3_1.length : Int)
              · rw [if_pos c9] at H
                have c9b0 : decide (x4_1 < (x3_1.length : Int)) = true := decide_eq_true c9
                clear c9
                obtain ⟨y108, hy108⟩ : ∃ y_ : List (S54), y_ = (x3_1.set (x4_1 : Int).toNat (⟨t105, t106, t107⟩ : S54)) := ⟨_, rfl⟩
                replace H : (laws_toTaskS.l0 k1 l0 y108 (wrap64 (x4_1 + 1))) = some r := by first | (rw [hy108]; with_reducible exact H) | (have H2_ := (Option.bind_some _ _).symm.trans H; rw [hy108]; with_reducible exact H2_) | (have H2_ := (Option.bind_some _ _).symm.trans H; with_reducible exact H2_) | with_reducible exact H | (rw [hy108]; exact H) | exact H
                have Ny108 := Aside0.mk hy108
                clear hy108
                have H' := Aside0.mk H
                clear H
                have p104 : 0 ≤ (x4_1 : Int) := of_decide_eq_true (by first | (with_reducible assumption) | assumption)
                have q104 : x4_1 < (l0.length : Int) := of_decide_eq_true (by first | (with_reducible assumption) | assumption)
                obtain ⟨ad104, e104, hx104_0, hx104_1, hx104_2⟩ := at_T56 HR0.out x4_1 p104 q104
                cases e104
                replace hx104_0 := (HB.out.cell (World.block_lt_of_cell? w _ hx104_0)).trans hx104_0
                replace hx104_1 := (HB.out.cell (World.block_lt_of_cell? w _ hx104_1)).trans hx104_1
                replace hx104_2 := (HB.out.cell (World.block_lt_of_cell? w _ hx104_2)).trans hx104_2
                replace p104 := eq_true p104
                replace q104 := eq_true q104
                go_wp2_with (first | ((with_reducible refine gate_callee (f := 32) rfl ?_); refine goesL_ (some 20) rfl rfl Try.func32 (by kernel_rfl) rfl #[.agg #[.int .i64 ((rd_T56 l0 x4_1).f0), .int .i64 ((rd_T56 l0 x4_1).f1), .int .i64 ((rd_T56 l0 x4_1).f2)]] rfl (by (try simp only [List.map_toArray, List.map_cons, List.map_nil]); first | done | rfl | (simp only [List.length_drop, List.length_take]; rfl)) ?_; (with_reducible refine (laws_toTask.calls ((rd_T56 l0 x4_1).f0) ((rd_T56 l0 x4_1).f1) ((rd_T56 l0 x4_1).f2) t105 t106 t107 _ A8.out).mono ?_); rintro e w11 ⟨rfl, hb⟩; refine ⟨_, rfl, ?_⟩; have n0_ := Aside0.mk (Kd.R_below (by (with_reducible repeat (first | apply Kd.R_alloc | apply Kd.R_drewN | apply Kd.R_drew)); exact HO_3.out) hb); have n1_ := Aside0.mk (below_step (by repeat (first | (with_reducible first | exact HB.out | apply below_alloc | apply pw_below_drewN | apply below_drew1) | exact HB.out)) hb); clear HO_3; clear HB; have HO_3 := n0_; have HB := n1_; clear n0_ n1_; (try clear hb); (try clear hb2); (try clear hk); (try clear hi); have p10 : 0 ≤ (x4_1 : Int) := of_decide_eq_true (by first | (with_reducible assumption) | assumption); have q10 : (x4_1 : Int) < ((x3_1.length : Int) : Int) := of_decide_eq_true (by first | (with_reducible assumption) | assumption); obtain ⟨go10, co10, eo10, gb10, gl10, cl10, HG10⟩ := Kd.R_form HO_3.out (by omega); (first | cases eo10 | (injection eo10 with ea_ en_ ec_; (first | subst ea_ | (injection ea_ with ea_; subst ea_)); subst ec_; clear en_)); have GB10 := Aside0.mk gb10; have GG10 := Aside0.mk HG10; clear gb10 gl10 HG10; obtain ⟨ce10, hcl10, hM10, hcc10, hfr10⟩ := Kd.R_elem HO_3.out z54 (x4_1 : Int) p10 q10; obtain rfl := k54_openM hM10; have hx10_0 : w11.cell? ⟨go10, (x4_1 : Int).toNat * 3, none⟩ = some (.int .i64 ((rd_T54 x3_1 x4_1).f0)) := hcc10 0 _ rfl; have hx10_1 : w11.cell? ⟨go10, (x4_1 : Int).toNat * 3 + 1, none⟩ = some (.int .i64 ((rd_T54 x3_1 x4_1).f1)) := hcc10 1 _ rfl; have hx10_2 : w11.cell? ⟨go10, (x4_1 : Int).toNat * 3 + 2, none⟩ = some (.int .i64 ((rd_T54 x3_1 x4_1).f2)) := hcc10 2 _ rfl; have hf10_0 : w11.frozen? ⟨go10, (x4_1 : Int).toNat * 3, none⟩ = false := hfr10 0; have hf10_1 : w11.frozen? ⟨go10, (x4_1 : Int).toNat * 3 + 1, none⟩ = false := hfr10 1; have hf10_2 : w11.frozen? ⟨go10, (x4_1 : Int).toNat * 3 + 2, none⟩ = false := hfr10 2; clear hcl10 hcc10 hfr10 hM10; replace p10 := eq_true p10; replace q10 := eq_true q10; have HX12 := Aside0.mk (show Kd.R k54 54 w11 w.heap.size (fun _ => True) (.slice (some ⟨go10, 0, none⟩) x3_1.length co10) x3_1 from (by (with_reducible repeat (first | apply Kd.R_alloc | apply Kd.R_drewN | apply Kd.R_drew)); exact HO_3.out)); obtain ⟨ce12, hcl12, hM12, hcc12, hfr12⟩ := Kd.R_elem HX12.out z54 (x4_1 : Int) (of_decide_eq_true (by first | (with_reducible assumption) | assumption)) (by have h_ : (x4_1 : Int) < ((x3_1.length : Int) : Int) := of_decide_eq_true (by first | (with_reducible assumption) | assumption); first | exact h_ | (have e_ := (Kd.R_reads' HO_3.out).1; omega) | simpa using h_); obtain rfl := k54_openM hM12; have HP12 := Kd.R_seg HX12.out (x4_1 : Int) (of_decide_eq_true (by first | (with_reducible assumption) | assumption)) (by have h_ : (x4_1 : Int) < ((x3_1.length : Int) : Int) := of_decide_eq_true (by first | (with_reducible assumption) | assumption); first | exact h_ | (have e_ := (Kd.R_reads' HO_3.out).1; omega) | simpa using h_) (seg := [.int .i64 t105, .int .i64 t106, .int .i64 t107]) (j := 0) hcl12 hcc12 (show 3 ≤ 3 from by decide) (x' := (⟨t105, t106, t107⟩ : S54)) (k54_mkM _ _ _ (⟨t105, t106, t107⟩ : S54) ) (fun _ hk => hk); have hx12_0 := hcc12 0 _ rfl; (try simp only [show (k54).sz = 3 from rfl, Nat.mul_one, Nat.add_zero] at hx12_0); have hf12_0 := hfr12 0; (try simp only [show (k54).sz = 3 from rfl, Nat.mul_one, Nat.add_zero] at hf12_0); have hx12_1 := hcc12 1 _ rfl; (try simp only [show (k54).sz = 3 from rfl, Nat.mul_one, Nat.add_zero] at hx12_1); have hf12_1 := hfr12 1; (try simp only [show (k54).sz = 3 from rfl, Nat.mul_one, Nat.add_zero] at hf12_1); have hx12_2 := hcc12 2 _ rfl; (try simp only [show (k54).sz = 3 from rfl, Nat.mul_one, Nat.add_zero] at hx12_2); have hf12_2 := hfr12 2; (try simp only [show (k54).sz = 3 from rfl, Nat.mul_one, Nat.add_zero] at hf12_2); clear hcl12 hcc12 hfr12 hM12) | ((with_reducible refine gate_store (t := 54) (p := 21) rfl ?_); refine store_event (t := 54) (p := 21) (v := ?vo_w13) (w1 := (((w11.setCell ⟨go10, (x4_1 : Int).toNat * 3, none⟩ (.int .i64 t105)).setCell ⟨go10, (x4_1 : Int).toNat * 3 + 1, none⟩ (.int .i64 t106)).setCell ⟨go10, (x4_1 : Int).toNat * 3 + 2, none⟩ (.int .i64 t107))) ?hg ?ho ?hn ?hr ?_; (case ho => rfl); (case hg => rfl); (case hn => rfl); (case hr => first | (go_simp; done) | (go_simp; rfl)); intro w13 hw; have hg : w11.grownBy w13 (some go10) := (by rw [hw]; exact HP12.2); have hp_ : Kd.R k54 54 w13 w.heap.size (fun _ => True) (.slice (some ⟨go10, 0, none⟩) x3_1.length co10) y108 := (by rw [hw, Ny108.out]; exact HP12.1); clear HP12; have n0_ := Aside0.mk (hp_); have n1_ := Aside0.mk ((by rw [hw]; exact below_set (below_set (below_set (HB.out) GB10.out) GB10.out) GB10.out : Below w.heap.size w w13)); clear HO_3; clear HB; have HO_3 := n0_; have HB := n1_; clear n0_ n1_; clear hg hw hp_))
                go_roundg k1
                case measure => have := HK1.out; omega
                case rel => exact ⟨(y108), (wrap64 (x4_1 + 1)), (by first | rfl | (simp; done) | (simp [*]; done)), H', ⟨by have := HK1.out; omega⟩, ⟨by (with_reducible repeat (first | apply Kd.R_alloc | apply Kd.R_drewN | apply Kd.R_drew)); exact HO_3.out⟩, ⟨by repeat (first | (with_reducible first | exact HB.out | apply below_alloc | apply pw_below_drewN | apply below_drew1) | exact HB.out)⟩⟩
              · rw [if_neg c9] at H
                exact absurd H (by simp)
            · rw [if_neg c7] at H
              exact absurd H (by simp)
          · rw [if_neg c6] at H
            have c6b0 : decide (x4_1 < (l0.length : Int)) = false := decide_eq_false c6
            clear c6
            obtain rfl := Option.some.inj H
            go_wp2
            go_ret
            exact ⟨_, by first | rfl | (simp [errW_none, errW_some] <;> rfl) | (simp [*, errW_none, errW_some] <;> rfl), by (with_reducible repeat (first | apply Kd.R_alloc | apply Kd.R_drewN | apply Kd.R_drew)); exact HO_3.out, by repeat (first | (with_reducible first | exact HB.out | apply below_alloc | apply pw_below_drewN | apply below_drew1) | exact HB.out)⟩
    · rw [if_neg c3] at H
      exact absurd H (by simp)
  · rw [if_neg c2] at H
    exact absurd H (by simp)

-- HAND with laws.toTaskS
def taskOf (x : S56) : S54 := ⟨x.f0, x.f1, x.f2⟩
theorem toTaskS_loop (l : List S56) (hlen : l.length < 9223372036854775807) : ∀ (d i : Nat) (x : List S54), l.length - i = d → i ≤ l.length → x.length = l.length → (∀ j, j < i → x[j]? = (l[j]?).map taskOf) → Ev (fun k => laws_toTaskS.l0 k l x i) (l.map taskOf) := by
  intro d
  induction d with
  | zero =>
    intro i x hd hi hx hj
    refine Ev.succ (fun k => by simp only [laws_toTaskS.l0]; rw [if_neg (by omega)]) (Ev.const (congrArg some ?_))
    apply List.ext_getElem?
    intro j
    rw [List.getElem?_map]
    rcases Nat.lt_or_ge j i with h | h
    · exact hj j h
    · rw [List.getElem?_eq_none (by omega), List.getElem?_eq_none (by omega)]
      rfl
  | succ d ih =>
    intro i x hd hi hx hj
    refine Ev.succ (fun k => by simp only [laws_toTaskS.l0]; rw [if_pos (by omega), if_pos (by omega)]) ?_
    refine Ev.bindc (a := ((rd_T56 l i).f0, (rd_T56 l i).f1, (rd_T56 l i).f2)) rfl ?_
    refine Ev.to (fun k => by rw [if_pos (by omega), wrap_succ (by omega) (by omega), Int.toNat_natCast]) ?_
    refine ih (i + 1) _ (by omega) (by omega) (by simpa using hx) (fun j hji => ?_)
    rw [List.getElem?_set]
    by_cases e : i = j
    · subst e
      have hil : i < l.length := by omega
      simp [hx, hil, rd_T56, List.getD, taskOf]
    · rw [if_neg e]
      exact hj j (by omega)
theorem toTaskS_ok (l : List S56) (hlen : l.length ≤ 11728124029610) : Ev (fun k => laws_toTaskS.f k l) (l.map taskOf) := by
  refine Ev.to (fun k => by unfold laws_toTaskS.f; rw [if_pos (by omega), if_pos (by omega)]) ?_
  exact toTaskS_loop l (by omega) l.length 0 _ (by omega) (by omega) (by simp) (fun j h => absurd h (Nat.not_lt_zero _))

/-! ### impl_within: function 36 -/
def impl_within.f (a0 : Int) (a1 : Int) (a2 : Int) : Option (Bool) := if a1 ≤ a0 then (some (decide (a0 ≤ a2))) else (some false)
set_option maxHeartbeats 8000000 in
set_option maxRecDepth 100000 in
theorem impl_within.calls (a0 : Int) (a1 : Int) (a2 : Int) (r : Bool) (w : World) (h : impl_within.f a0 a1 a2 = some r) :
    Calls Try.prog 36 #[.int .i64 a0, .int .i64 a1, .int .i64 a2] w fun e w' => e = .returned (.bool r) ∧ Drawn0 w w' := by
  have H : (if a1 ≤ a0 then (some (decide (a0 ≤ a2))) else (some false)) = some r := h
  clear h
  by_cases c4 : a1 ≤ a0
  · rw [if_pos c4] at H
    have c4b0 : decide (a1 ≤ a0) = true := decide_eq_true c4
    clear c4
    obtain rfl := Option.some.inj H
    go_enter Try.func36, Try.ntmps36
    go_wp2
    go_ret
    exact ⟨by first | rfl | (simp; done) | (simp [*]; done), by repeat (first | exact Drawn0.refl _ | apply Drawn0.step)⟩
  · rw [if_neg c4] at H
    have c4b0 : decide (a1 ≤ a0) = false := decide_eq_false c4
    clear c4
    obtain rfl := Option.some.inj H
    go_enter Try.func36, Try.ntmps36
    go_wp2
    go_ret
    exact ⟨by first | rfl | (simp; done) | (simp [*]; done), by repeat (first | exact Drawn0.refl _ | apply Drawn0.step)⟩

-- HAND with impl.within
theorem within_ok (x a b : Int) : impl_within.f x a b = some (decide (a ≤ x) && decide (x ≤ b)) := by
  unfold impl_within.f
  by_cases h : a ≤ x
  · rw [if_pos h]; simp [h]
  · rw [if_neg h]; simp [h]

/-! ### impl_isSize: function 33 -/
def impl_isSize.f (a0 : Int) : Option (Bool) := (impl_within.f a0 1 7).bind fun t101 => (some t101)
set_option maxHeartbeats 8000000 in
set_option maxRecDepth 100000 in
theorem impl_isSize.calls (a0 : Int) (r : Bool) (w : World) (h : impl_isSize.f a0 = some r) :
    Calls Try.prog 33 #[.int .i64 a0] w fun e w' => e = .returned (.bool r) ∧ Drawn0 w w' := by
  have H : ((impl_within.f a0 1 7).bind fun t101 => (some t101)) = some r := h
  clear h
  replace H := Option.bind_eq_some_iff.mp H
  obtain ⟨t101, A20, H⟩ := H
  replace H : (some t101) = some r := H
  have A2 := Aside0.mk A20
  clear A20
  obtain rfl := Option.some.inj H
  go_enter Try.func33, Try.ntmps33
  go_wp2_with (first | ((with_reducible refine gate_callee (f := 36) rfl ?_); refine goesL_ (some 4) rfl rfl Try.func36 (by kernel_rfl) rfl #[.int .i64 a0, .int .i64 1, .int .i64 7] rfl (by (try simp only [List.map_toArray, List.map_cons, List.map_nil]); first | done | rfl | (simp only [List.length_drop, List.length_take]; rfl)) ?_; (with_reducible refine (impl_within.calls a0 1 7 t101 _ A2.out).mono ?_); rintro e w' ⟨rfl, ⟨nd, rfl⟩⟩; refine ⟨_, rfl, ?_⟩))
  go_ret
  exact ⟨by first | rfl | (simp; done) | (simp [*]; done), by repeat (first | exact Drawn0.refl _ | apply Drawn0.step)⟩

-- HAND with impl.isSize
theorem isSize_ok (n : Int) : impl_isSize.f n = some (decide (1 ≤ n) && decide (n ≤ 7)) := by
  unfold impl_isSize.f impl_within.f
  by_cases h : 1 ≤ n
  · rw [if_pos h]; simp [h]
  · rw [if_neg h]; simp [h]

-- HAND impl_Task_57: function 57
/-- A predicate's value, asked of the entries of a list. -/
def PredTask (g : Nat) (lb : Array Value) (p : S54 → Bool) (l : List S54) (w : World) : Prop :=
  ∀ (W : World) (x : S54), x ∈ l → Below w.heap.size w W → Calls Try.prog g (#[.agg #[.int .i64 x.f0, .int .i64 x.f1, .int .i64 x.f2]] ++ lb) W fun e w' => e = .returned (.bool (p x)) ∧ Below W.heap.size W w'
set_option maxHeartbeats 8000000 in
set_option maxRecDepth 100000 in
theorem slices_IndexFunc_Task.calls (g : Nat) (lb : Array Value) (eg : ∀ args w, (callFunc g args).run Try.prog w = .ok (.enter g args) w) (p : S54 → Bool) (A : Option Addr) (c : Nat) (l : List S54) (w : World) (hr : Kd.C k54 w A l.length l) (hc : l.length ≤ c) (hp : PredTask g lb p l w) :
    Calls Try.prog 57 #[.slice A l.length c, .func (.func g) #[] lb] w fun e w' => e = .returned (.int .i64 (idxG p l)) ∧ Below w.heap.size w w' := by
  have hu := Try.underlying54
  have HR := Aside0.mk hr
  have HC := Aside0.mk hc
  have HP := Aside0.mk hp
  have hm := Kd.C_max hr
  clear hr hc hp
  go_enter Try.func57, Try.ntmps57
  go_wp2
  go_loopw [8] (fun v8 wr => ∃ i : Int, Aside0 (0 ≤ i ∧ i ≤ l.length) ∧ v8 = .int .i64 i ∧ Aside0 (allG (fun x => !p x) l i = true) ∧ Aside0 (Below w.heap.size w wr)) (fun v8 _ => l.length - (intOf v8).toNat)
  case atStart => exact ⟨0, ⟨by omega⟩, rfl, ⟨rfl⟩, ⟨by repeat (first | exact Below.refl _ _ | apply pw_below_drewN | apply below_drew1)⟩⟩
  case round =>
    obtain ⟨i, hi, rfl, hz, HB⟩ := hrel
    by_cases hlt : i < l.length
    · have i0 := hi.out.1
      have HZ := Aside0.mk (allG_succ z54 (fun x => !p x) l i i0 hlt)
      have HMEM := Aside0.mk (getD_mem z54 i0 hlt)
      have HHIT : Aside0 (p (l.getD i.toNat z54) = true → idxG p l = i) := ⟨idxG_hit z54 i0 hlt hz.out⟩
      obtain ⟨ad, e, hc0, hc1, hc2⟩ := at_T54 (Kd.C_below HR.out HB.out) i i0 hlt
      cases e
      rw [show rd_T54 l i = l.getD i.toNat z54 from rfl] at hc0 hc1 hc2
      have HCALL := Aside0.mk (HP.out wr (l.getD i.toNat z54) HMEM.out HB.out)
      generalize l.getD i.toNat z54 = x at *
      cases hq : p x with
      | true =>
        have HYES := Aside0.mk (HHIT.out hq)
        rw [hq] at HCALL
        go_wp2_with (go_at_fn g; refine HCALL.out.mono ?_; rintro e w' ⟨rfl, hb'⟩; have HB' := Aside0.mk (below_step HB.out hb'); clear hb')
        go_ret
        exact ⟨by rw [HYES.out]; rfl, HB'.out⟩
      | false =>
        have HNO := Aside0.mk hq
        rw [hq] at HCALL
        clear hq
        go_wp2_with (go_at_fn g; refine HCALL.out.mono ?_; rintro e w' ⟨rfl, hb'⟩; have HB' := Aside0.mk (below_step HB.out hb'); clear hb')
        go_roundw
        case rel => exact ⟨i + 1, ⟨by omega⟩, by first | rfl | go_num, ⟨by rw [HZ.out, hz.out, HNO.out]; rfl⟩, ⟨by repeat (first | exact HB'.out | apply pw_below_drewN | apply below_drew1)⟩⟩
        case measure => simp [intOf]; omega
    · have HNO : Aside0 (idxG p l = -1) := ⟨by have := hz.out; rw [allG_end _ _ _ (by have := hi.out; omega)] at this; exact idxG_miss this⟩
      clear hz
      go_wp2
      go_ret
      exact ⟨by rw [HNO.out]; rfl, HB.out⟩

-- HAND impl_Task_34: function 34
set_option maxHeartbeats 8000000 in
set_option maxRecDepth 100000 in
theorem slices_ContainsFunc_Task.calls (g : Nat) (lb : Array Value) (eg : ∀ args w, (callFunc g args).run Try.prog w = .ok (.enter g args) w) (p : S54 → Bool) (A : Option Addr) (c : Nat) (l : List S54) (w : World) (hr : Kd.C k54 w A l.length l) (hc : l.length ≤ c) (hp : PredTask g lb p l w) :
    Calls Try.prog 34 #[.slice A l.length c, .func (.func g) #[] lb] w fun e w' => e = .returned (.bool (l.any p)) ∧ Below w.heap.size w w' := by
  have HI := Aside0.mk (slices_IndexFunc_Task.calls g lb eg p A c l w hr hc hp)
  have HA := Aside0.mk (idxG_any p l)
  clear hr hc hp
  go_enter Try.func34, Try.ntmps34
  go_wp2_with (go_at_call 57; refine HI.out.mono ?_; rintro e w' ⟨rfl, hb'⟩)
  go_ret
  exact ⟨by rw [← HA.out]; rfl, hb'⟩

end Go.Proofs.Ytneibmhbcjbmjaa.Q
