/- Contracts of functions that the laws reach: a call returns what the plain Lean function of the same name tells. Conditions: those of each theorem. Made by gen.py, a program of this session, over the print of the translation. -/
import Derived.Test.YtaommmdeikojpaaDoorPx0
import Derived.Lib.ItoaNum
import Derived.Lib.Join
import Derived.Laws.Concat
namespace Go.Proofs.YtaommmdeikojpaaDoor.Q
open Go.RowKit Go.Proofs.YtaommmdeikojpaaDoorW.PrintWords Go.Proofs.YtaommmdeikojpaaDoorW.PrintLast Go.Proofs.YtaommmdeikojpaaDoorW.PrintMore
attribute [local go_sem] max2_int min2_int max_two min_two max_three min_three max_four min_four   -- for this text's walks alone
set_option linter.unusedVariables false
set_option linter.unusedSimpArgs false

-- HAND lib bits
theorem wrap_nat (n : Nat) (h : n < 9223372036854775808) : IntKind.i64.wrap (n : Int) = n := by
 unfold IntKind.wrap IntKind.bits IntKind.signed
 simp only [Bool.true_and, decide_eq_true_eq]
 have : ((n : Int) % 2 ^ 64) = n := by omega
 rw [this]
 split <;> omega
theorem ofInt_nat (n : Nat) : BitVec.ofInt 64 (n : Int) = BitVec.ofNat 64 n := by simp
theorem toNat64 (n : Nat) (h : n < 9223372036854775808) : (BitVec.ofNat 64 n).toNat = n := by simp; omega
theorem bits_or (a b : Nat) (ha : a < 9223372036854775808) (hb : b < 9223372036854775808) : Go.bits .or .i64 (a : Int) (b : Int) = ((a ||| b : Nat) : Int) := by
 show IntKind.i64.wrap ((BitVec.ofInt 64 (a : Int) ||| BitVec.ofInt 64 (b : Int)).toNat : Int) = _
 rw [ofInt_nat, ofInt_nat, BitVec.toNat_or, toNat64 a ha, toNat64 b hb]
 exact wrap_nat _ (Nat.or_lt_two_pow (n := 63) ha hb)
theorem bits_xor (a b : Nat) (ha : a < 9223372036854775808) (hb : b < 9223372036854775808) : Go.bits .xor .i64 (a : Int) (b : Int) = ((a ^^^ b : Nat) : Int) := by
 show IntKind.i64.wrap ((BitVec.ofInt 64 (a : Int) ^^^ BitVec.ofInt 64 (b : Int)).toNat : Int) = _
 rw [ofInt_nat, ofInt_nat, BitVec.toNat_xor, toNat64 a ha, toNat64 b hb]
 exact wrap_nat _ (Nat.xor_lt_two_pow (n := 63) ha hb)
/-- What a has and b has not. -/
def nd (a b : Nat) : Nat := a ^^^ (a &&& b)
theorem nd_testBit (a b i : Nat) : (nd a b).testBit i = (a.testBit i && !b.testBit i) := by
 simp only [nd, Nat.testBit_xor, Nat.testBit_and]
 cases a.testBit i <;> cases b.testBit i <;> rfl
theorem nd_lt {a b n : Nat} (h : a < 2 ^ n) : nd a b < 2 ^ n := Nat.xor_lt_two_pow h (Nat.lt_of_le_of_lt Nat.and_le_left h)
theorem bits_nd (a b : Nat) (ha : a < 9223372036854775808) (hb : b < 9223372036854775808) : Go.bits .andNot .i64 (a : Int) (b : Int) = ((nd a b : Nat) : Int) := by
 show IntKind.i64.wrap ((BitVec.ofInt 64 (a : Int) &&& ~~~ BitVec.ofInt 64 (b : Int)).toNat : Int) = _
 rw [ofInt_nat, ofInt_nat]
 have h : (BitVec.ofNat 64 a &&& ~~~ BitVec.ofNat 64 b).toNat = nd a b := by
  apply Nat.eq_of_testBit_eq
  intro i
  rw [nd_testBit, BitVec.testBit_toNat, BitVec.getLsbD_and, BitVec.getLsbD_not, ← BitVec.testBit_toNat, ← BitVec.testBit_toNat, toNat64 a ha, toNat64 b hb]
  by_cases hi : i < 64
  ·
   simp [hi]
  ·
   have : a.testBit i = false := Nat.testBit_lt_two_pow (Nat.lt_of_lt_of_le ha (Nat.le_trans (by decide) (Nat.pow_le_pow_right (by decide) (Nat.le_of_not_lt hi))))
   simp [this]
 rw [h]
 exact wrap_nat _ (nd_lt (n := 63) ha)
theorem pow_lt63 (i : Nat) (h : i < 63) : 2 ^ i < 9223372036854775808 := Nat.pow_lt_pow_right (by decide) h
theorem shl_one (i : Nat) (h : i < 63) : shl .i64 1 (i : Int) = ((2 ^ i : Nat) : Int) := by
 unfold shl
 rw [Int.toNat_natCast, Nat.min_eq_left (show i ≤ IntKind.i64.bits from show i ≤ 64 by omega), Int.one_mul]
 exact (by simpa using wrap_nat (2 ^ i) (pow_lt63 i h))
theorem shr_nat (a i : Nat) (h : i < 64) : shr .i64 (a : Int) (i : Int) = ((a / 2 ^ i : Nat) : Int) := by
 unfold shr
 rw [Int.toNat_natCast, Nat.min_eq_left (show i ≤ IntKind.i64.bits from show i ≤ 64 by omega)]
 simp
/-- The items of a set, as numbers. -/
def itemsN (x : Nat) : List Nat := [0, 1, 2, 3, 4, 5, 6].filter fun i => x.testBit i
def itemsL (x : Int) : List Int := (itemsN x.toNat).map fun (i : Nat) => (i : Int)
theorem itemsN_lt {x i : Nat} (h : i ∈ itemsN x) : i < 7 := by
 simp [itemsN] at h
 omega
theorem itemsN_bit {x i : Nat} (h : i ∈ itemsN x) : x.testBit i = true := by
 simp only [itemsN, List.mem_filter] at h
 exact h.2
/-- Bit by bit below 7, a number that tells where something holds. -/
def maskOf (p : Nat → Bool) : Nat := [0, 1, 2, 3, 4, 5, 6].foldl (fun a i => if p i then a ||| 2 ^ i else a) 0
theorem orFold_lt (p : Nat → Bool) : ∀ (l : List Nat) (a : Nat), (∀ i ∈ l, i < 7) → a < 128 → l.foldl (fun a i => if p i then a ||| 2 ^ i else a) a < 128
 | [], a, _, h => h
 | i :: l, a, hl, h => by
  have hi := hl i (by simp)
  refine orFold_lt p l _ (fun j hj => hl j (by simp [hj])) ?_
  show (if p i = true then a ||| 2 ^ i else a) < 128
  split
  ·
   exact Nat.or_lt_two_pow (n := 7) h (Nat.pow_lt_pow_right (by decide) hi)
  ·
   exact h
theorem orFold_bit (p : Nat → Bool) (j : Nat) : ∀ (l : List Nat) (a : Nat), (l.foldl (fun a i => if p i then a ||| 2 ^ i else a) a).testBit j = (a.testBit j || (decide (j ∈ l) && p j))
 | [], a => by simp
 | i :: l, a => by
  rw [List.foldl_cons, orFold_bit p j l]
  by_cases e : j = i
  ·
   subst e
   by_cases hp : p j = true
   ·
    simp [hp, Nat.testBit_or, Nat.testBit_two_pow]
   ·
    simp [hp]
  ·
   have e' : ¬ i = j := fun h => e h.symm
   by_cases hp : p i = true
   ·
    simp [hp, Nat.testBit_or, Nat.testBit_two_pow, e, e']
   ·
    simp [hp, e]
theorem itemsFold (p : Nat → Bool) (x : Nat) : (itemsN x).foldl (fun a i => if p i then a ||| 2 ^ i else a) 0 = maskOf (fun i => x.testBit i && p i) := by
 apply Nat.eq_of_testBit_eq
 intro j
 simp only [maskOf, orFold_bit, itemsN, List.mem_filter]
 cases x.testBit j <;> simp
/-- What a walk knows of '1 << i'. -/
theorem shl_ways {i j : Int} (h : shl .i64 1 i = j) (hle : i ≤ 64) :
  (IntKind.i64.wrap (1 * 2 ^ min i.toNat 64)) = j ∧ (IntKind.i64.wrap (1 * 2 ^ i.toNat)) = j ∧ (IntKind.i64.wrap (2 ^ min i.toNat 64)) = j ∧ (IntKind.i64.wrap (2 ^ i.toNat)) = j ∧ (wrap64 (1 * 2 ^ min i.toNat 64)) = j ∧ (wrap64 (1 * 2 ^ i.toNat)) = j ∧ (wrap64 (2 ^ min i.toNat 64)) = j ∧ (wrap64 (2 ^ i.toNat)) = j := by
 have h1 : (IntKind.i64.wrap (1 * 2 ^ min i.toNat 64)) = j := h
 have h2 : (IntKind.i64.wrap (1 * 2 ^ i.toNat)) = j := shl_small h hle
 have h3 := h1
 have h4 := h2
 rw [Int.one_mul] at h3 h4
 exact ⟨h1, h2, h3, h4, (i64_w _).symm.trans h1, (i64_w _).symm.trans h2, (i64_w _).symm.trans h3, (i64_w _).symm.trans h4⟩
theorem shl_nat {i : Int} (h0 : 0 ≤ i) (h1 : i < 63) : shl .i64 1 i = ((2 ^ i.toNat : Nat) : Int) := by
 obtain ⟨n, rfl⟩ := Int.eq_ofNat_of_zero_le h0
 rw [shl_one n (by omega), Int.toNat_natCast]
theorem lt63 {n : Nat} (h : n < 128) : n < 9223372036854775808 := by omega
theorem pow_lt128 {i : Int} (h0 : 0 ≤ i) (h1 : i < 7) : 2 ^ i.toNat < 128 := show 2 ^ i.toNat < 2 ^ 7 from Nat.pow_lt_pow_right (by decide) (by omega)
/-- The same of whole numbers below 128. -/
def I128 (x : Int) : Prop := 0 ≤ x ∧ x < 128
-- HAND lib zerofam
/-- The zero value of a family. (The loader of a small seat tells none of so many cells.) -/
def Tryd.zeroCells51 : Array Value := Array.replicate 128 (.bool false)
@[simp] theorem Tryd.zeroValue51 (w : World) : (zeroValue 51).run Tryd.prog w = .ok (.agg Tryd.zeroCells51) w := by kernel_rfl
@[simp] theorem Tryd.zeroCells51_size : Tryd.zeroCells51.size = 128 := by kernel_rfl
@[simp] theorem Tryd.zeroCells51_ne : Tryd.zeroCells51 ≠ #[] := by
  intro h
  have h2 := Tryd.zeroCells51_size
  rw [h] at h2
  cases h2

-- HAND lib family
/-- A block that holds a family. -/
structure FamAt (w : World) (b : Nat) (F : List Bool) : Prop where
  len : F.length = 128
  blk : w.heap[b]? = some (.cells (F.map Value.bool).toArray 51 (0, 0))

def famOf (l : List Int) : List Bool := (List.range 128).map fun (i : Nat) => decide ((i : Int) ∈ l)
theorem famOf_length (l : List Int) : (famOf l).length = 128 := by simp [famOf]
theorem zeroFam : Tryd.zeroCells51 = ((famOf []).map Value.bool).toArray := by kernel_rfl
theorem FamAt.lt {w : World} {b : Nat} {F : List Bool} (h : FamAt w b F) : b < w.heap.size := blk_lt h.blk
theorem FamAt.below {w w' : World} {b : Nat} {F : List Bool} (h : FamAt w b F) (hb : Below w.heap.size w w') : FamAt w' b F := ⟨h.len, (hb.block b h.lt).trans h.blk⟩
theorem FamAt.at_ {w : World} {b : Nat} {F : List Bool} (h : FamAt w b F) (i : Int) (h0 : 0 ≤ i) (h1 : i < 128) : w.cell? ⟨b, i.toNat, none⟩ = some (.bool (F.getD i.toNat false)) := by
  rw [blk_cell h.blk]
  have hl := h.len
  have : i.toNat < F.length := by omega
  simp [List.getElem?_map, List.getD, this]
theorem FamAt.fr {w : World} {b : Nat} {F : List Bool} (h : FamAt w b F) (i : Nat) : w.frozen? ⟨b, i, none⟩ = false := blk_frozen h.blk i
theorem FamAt.set {w : World} {b : Nat} {F : List Bool} (h : FamAt w b F) (i : Nat) (v : Bool) : FamAt (w.setCell ⟨b, i, none⟩ (.bool v)) b (F.set i v) := by
  refine ⟨by simp [h.len], ?_⟩
  rw [blk_set h.blk]
  simp [List.map_set]
theorem FamAt.far {w : World} {b : Nat} {F : List Bool} (h : FamAt w b F) {p : Addr} (hp : b ≠ p.block) (u : Value) : FamAt (w.setCell p u) b F := ⟨h.len, blk_far h.blk hp u⟩
theorem FamAt.new (w : World) (F : List Bool) (hF : F.length = 128) : FamAt (w.alloc (.cells (F.map Value.bool).toArray 51)) w.heap.size F := ⟨hF, heap_alloc_new w _⟩
theorem FamAt.alloc {w : World} {b : Nat} {F : List Bool} (h : FamAt w b F) (o : Obj) : FamAt (w.alloc o) b F := h.below (below_alloc (Below.refl _ _) o)
theorem FamAt.drewN {w : World} {b : Nat} {F : List Bool} (h : FamAt w b F) (n : Nat) : FamAt (w.drewN n) b F := h.below (pw_below_drewN (Below.refl _ _) n)
theorem famOf_get (l : List Int) (i : Nat) (hi : i < 128) : (famOf l).getD i false = decide ((i : Int) ∈ l) := by simp [famOf, List.getD, hi]
theorem famOf_snoc (l : List Int) (x : Int) (h0 : 0 ≤ x) : (famOf l).set x.toNat true = famOf (l ++ [x]) := by
  apply List.ext_getElem?
  intro j
  by_cases hj : j < 128
  · by_cases e : x.toNat = j
    · have : (j : Int) = x := by omega
      simp [famOf, List.getElem?_set, e, hj, this]
    · have : ¬ (j : Int) = x := by omega
      simp [famOf, List.getElem?_set, e, hj, this]
  · simp [famOf, List.getElem?_set, hj]
theorem rd_mem {l : List Int} {i : Int} (h0 : 0 ≤ i) (h1 : i < l.length) : rd l i ∈ l := by
  have : i.toNat < l.length := by omega
  simp [rd, List.getD, this]
theorem take_rd (l : List Int) (k : Nat) (h : k < l.length) : l.take (k + 1) = l.take k ++ [rd l k] := by
  rw [List.take_succ_eq_append_getElem h]
  simp [rd, List.getD, h]

/-- The fringes of a set in a family. -/
def innerF (F : List Bool) (x : Nat) : Nat := maskOf fun i => x.testBit i && F.getD (nd x (2 ^ i)) false
def outerF (F : List Bool) (x : Nat) : Nat := maskOf fun i => !x.testBit i && F.getD (x ||| 2 ^ i) false

-- HAND lib famc
/-- A family that is read at an address. -/
structure FamC (w : World) (ad : Addr) (F : List Bool) : Prop where
  len : F.length = 128
  at_ : ∀ i : Int, 0 ≤ i → i < 128 → w.cell? (ad.add i.toNat) = some (.bool (F.getD i.toNat false))
theorem FamC.below {w w' : World} {ad : Addr} {F : List Bool} (h : FamC w ad F) (hb : Below w.heap.size w w') : FamC w' ad F := ⟨h.len, fun i h0 h1 => pw_cell_below hb (h.at_ i h0 h1)⟩
theorem FamC.drewN {w : World} {ad : Addr} {F : List Bool} (h : FamC w ad F) (n : Nat) : FamC (w.drewN n) ad F := h.below (pw_below_drewN (Below.refl _ _) n)
theorem FamAt.c {w : World} {b : Nat} {F : List Bool} (h : FamAt w b F) : FamC w ⟨b, 0, none⟩ F := ⟨h.len, fun i h0 h1 => by
  have := h.at_ i h0 h1
  by_cases e : i.toNat = 0
  · rw [e] at this ⊢; exact this
  · simpa [Addr.add, e] using this⟩
theorem FamC.of_reads {w : World} {A : Option Addr} {F : List Bool} (h : Kd.C Kd.bool w A F.length F) (hl : F.length = 128) : ∃ ad, A = some ad ∧ FamC w ad F := by
  obtain ⟨ad, e, _⟩ := Kd.at_bool h 0 (by omega) (by omega)
  subst e
  refine ⟨ad, rfl, hl, fun i h0 h1 => ?_⟩
  obtain ⟨ad', e, hc⟩ := Kd.at_bool h i h0 (by omega)
  cases e
  exact hc
/-- The pointer to what a slice tells. -/
@[reducible] def ptrOf (v : Value) : Value := match v with
  | .slice a _ _ => .pointer a
  | v => v
theorem FamAt.own {w : World} {b base : Nat} {F : List Bool} (h : FamAt w b F) (hb : base ≤ b) : Kd.R Kd.bool 51 w base (fun _ => True) (.slice (some ⟨b, 0, none⟩) F.length 128) F := by
  refine Kd.R_of_own ?_ (fun _ _ => trivial)
  refine ⟨by simp [encs], .inr ⟨b, 128, _, rfl, hb, h.blk, by rw [h.len]; exact Nat.le_refl _, by decide, by simp [h.len], ?_⟩⟩
  simp [encs, h.len]
  exact List.take_of_length_le (by simp [h.len])
-- HAND lib evs
theorem Ev.succ {α : Type} {l g : Nat → Option α} {r : α} (h : ∀ k, l (k + 1) = g k) (hg : Ev g r) : Ev l r := by
  obtain ⟨K, hK⟩ := hg
  refine ⟨K + 1, fun k hk => ?_⟩
  obtain ⟨m, rfl⟩ : ∃ m, k = m + 1 := ⟨k - 1, by omega⟩
  rw [h, hK m (by omega)]
theorem Ev.to {α : Type} {g f : Nat → Option α} {r : α} (h : ∀ k, f k = g k) (hg : Ev g r) : Ev f r := by
  obtain ⟨K, hK⟩ := hg
  exact ⟨K, fun k hk => (h k).trans (hK k hk)⟩
theorem Ev.val {α : Type} {g : Nat → Option α} {r q : α} (hg : Ev g r) (e : r = q) : Ev g q := e ▸ hg
theorem Ev.const {α : Type} {o : Option α} {r : α} (h : o = some r) : Ev (fun _ => o) r := ⟨0, fun _ _ => h⟩
theorem Ev.bindc {α β : Type} {o : Option α} {f : Nat → α → Option β} {a : α} {r : β} (h : o = some a) (k : Ev (fun n => f n a) r) : Ev (fun n => o.bind (f n)) r := by
  subst h
  exact k
theorem wrap_succ {i : Int} (h0 : -1 ≤ i) (h : i < 9223372036854775807) : wrap64 (i + 1) = i + 1 := by
  unfold wrap64
  omega
theorem wrap_in {i : Int} (h0 : -9223372036854775808 ≤ i) (h : i ≤ 9223372036854775807) : wrap64 i = i := by
  unfold wrap64
  omega
theorem rd_get {l : List Int} {i : Nat} (h : i < l.length) : rd l (i : Int) = l[i] := by simp [rd, List.getD, h]
/-- Increasing. -/
def Rise (l : List Int) : Prop := ∀ i j : Nat, i < j → j < l.length → rd l i < rd l j
theorem Rise.mem_iff {l : List Int} (h : Rise l) (x : Int) (p : Nat) (hlo : ∀ i : Nat, i < p → i < l.length → rd l i < x) (hhi : ∀ i : Nat, p ≤ i → i < l.length → x ≤ rd l i) :
    (x ∈ l) ↔ (p < l.length ∧ rd l p = x) := by
  constructor
  · intro hx
    obtain ⟨i, hi, rfl⟩ := List.getElem_of_mem hx
    rw [← rd_get hi]
    have hle : p ≤ i := by
      rcases Nat.lt_or_ge i p with hlt | hge
      · have := hlo i hlt hi
        rw [rd_get hi] at this
        omega
      · exact hge
    rcases Nat.lt_or_ge p i with hlt | hge
    · have h1 := hhi p (Nat.le_refl _) (by omega)
      have h2 := h p i hlt hi
      rw [rd_get hi] at h2
      omega
    · obtain rfl : p = i := by omega
      exact ⟨hi, rfl⟩
  · rintro ⟨hp, rfl⟩
    exact rd_mem (by omega) (by omega)

-- HAND lib space
/-- Is the entry i in range, and behind the one before it? -/
def okAt (n : Int) (l : List Int) (i : Int) : Bool := decide (0 ≤ rd l i) && decide (rd l i < 2 ^ n.toNat) && (decide (i = 0) || decide (rd l (i - 1) < rd l i))
def risingB (n : Int) (l : List Int) : Bool := (List.range l.length).all fun (i : Nat) => okAt n l i
def unionRow (F : List Bool) (l : List Int) (x : Int) : Bool := l.all fun y => F.getD (x.toNat ||| y.toNat) false
def unionsB (F : List Bool) (l : List Int) : Bool := l.all fun x => (decide (x = 0) || !decide (innerF F x.toNat = 0)) && unionRow F l x
/-- Is it a space? -/
def isSpaceB (n : Int) (l : List Int) : Bool :=
 decide (1 ≤ n) && decide (n ≤ 7) && decide ((l.length : Int) ≤ 2 ^ n.toNat) && risingB n l && (famOf l).getD 0 false && (famOf l).getD (2 ^ n.toNat - 1) false && unionsB (famOf l) l
theorem pow128 {n : Int} (h0 : 0 ≤ n) (h1 : n ≤ 7) : (2 : Int) ^ n.toNat ≤ 128 ∧ 1 ≤ (2 : Int) ^ n.toNat := by
 have h : 2 ^ n.toNat ≤ 2 ^ 7 := Nat.pow_le_pow_right (by decide) (by omega)
 have h2 : 0 < 2 ^ n.toNat := Nat.pow_pos (by decide)
 constructor
 ·
  exact_mod_cast h
 ·
  exact_mod_cast h2
theorem risingB_mem {n : Int} {l : List Int} (h : risingB n l = true) {x : Int} (hx : x ∈ l) : 0 ≤ x ∧ x < 2 ^ n.toNat := by
 obtain ⟨i, hi, rfl⟩ := List.getElem_of_mem hx
 simp only [risingB, List.all_eq_true, List.mem_range] at h
 have := h i hi
 simp only [okAt, Bool.and_eq_true, decide_eq_true_eq] at this
 have e : rd l (i : Int) = l[i] := by simp [rd, List.getD, hi]
 rw [e] at this
 exact this.1
/-- The box of a space that came in. -/
structure SpBox (w W : World) (g : Nat) (a0 : Int) (A : Option Addr) (n c : Nat) : Prop where
 new : w.heap.size ≤ g
 bel : Below w.heap.size w W
 c0 : W.cell? ⟨g, 0, none⟩ = some (.int .i64 a0)
 c1 : W.cell? ⟨g, 1, none⟩ = some (.slice A n c)
theorem SpBox.next {w W W' : World} {g : Nat} {a0 : Int} {A : Option Addr} {n c : Nat} (h : SpBox w W g a0 A n c) (hb : Below W.heap.size W W') : SpBox w W' g a0 A n c :=
 ⟨h.new, below_step h.bel hb, pw_cell_below hb h.c0, pw_cell_below hb h.c1⟩
theorem SpBox.mk_ {w W : World} {g : Nat} {a0 : Int} {A : Option Addr} {n c : Nat} {t : TypeId} (hg : g = w.heap.size) (hbox : W.heap[g]? = some (.cells #[.int .i64 a0, .slice A n c] t (0, 0))) (hb : Below w.heap.size w W) : SpBox w W g a0 A n c :=
 ⟨by omega, hb, (blk_cell hbox 0).trans rfl, (blk_cell hbox 1).trans rfl⟩
theorem toNat_pow {n m : Int} (h : m = 2 ^ n.toNat - 1) : 2 ^ n.toNat - 1 = m.toNat := by
 have e : ((2 ^ n.toNat : Nat) : Int) = (2 : Int) ^ n.toNat := by push_cast; rfl
 omega
def unionItem (F : List Bool) (l : List Int) (x : Int) : Bool := (decide (x = 0) || !decide (innerF F x.toNat = 0)) && unionRow F l x
theorem all_not {P : Int → Bool} {l : List Int} {x : Int} (hx : x ∈ l) (hb : P x = false) : l.all P = false := by
 rw [Bool.eq_false_iff]
 intro hc
 rw [List.all_eq_true] at hc
 rw [hc x hx] at hb
 cases hb
/-- Does it hold of all ahead of the index i? -/
def allTo (P : Int → Bool) (l : List Int) (i : Int) : Bool := (l.take i.toNat).all P
theorem allTo_succ (P : Int → Bool) (l : List Int) (i : Int) (h0 : 0 ≤ i) (h1 : i < l.length) : allTo P l (i + 1) = (allTo P l i && P (rd l i)) := by
 have h := take_rd l i.toNat (by omega)
 unfold allTo
 rw [show (i + 1).toNat = i.toNat + 1 by omega, h, List.all_append, show ((i.toNat : Nat) : Int) = i by omega]
 simp
theorem allTo_end (P : Int → Bool) (l : List Int) (i : Int) (h : i = l.length) : allTo P l i = l.all P := by
 unfold allTo
 rw [h, Int.toNat_natCast, List.take_length]
theorem wrapPow {n : Int} (h0 : 0 ≤ n) (h1 : n ≤ 7) : wrap64 (shl .i64 1 n - 1) = 2 ^ n.toNat - 1 := by
 have hp := pow128 h0 h1
 rw [shl_nat h0 (by omega)]
 push_cast
 unfold wrap64
 omega
theorem xor_bit {x i : Nat} (h : x.testBit i = true) : x ^^^ 2 ^ i = nd x (2 ^ i) := by
 apply Nat.eq_of_testBit_eq
 intro j
 rw [nd_testBit, Nat.testBit_xor, Nat.testBit_two_pow]
 by_cases e : i = j
 ·
  subst e; simp [h]
 ·
  simp [e]
theorem famOf_getD (l : List Int) (i : Nat) (hi : i < 128) : (famOf l).getD i false = decide ((i : Int) ∈ l) := famOf_get l i hi
def innK (F : List Bool) (x k : Nat) : Nat := (List.range k).foldl (fun a i => if (x.testBit i && F.getD (nd x (2 ^ i)) false) = true then a ||| 2 ^ i else a) 0
theorem innK_succ (F : List Bool) (x k : Nat) : innK F x (k + 1) = if (x.testBit k && F.getD (nd x (2 ^ k)) false) = true then innK F x k ||| 2 ^ k else innK F x k := by
 simp only [innK, List.range_succ, List.foldl_append, List.foldl_cons, List.foldl_nil]
theorem innK_7 (F : List Bool) (x : Nat) : innK F x 7 = innerF F x := rfl
theorem innK_lt (F : List Bool) (x k : Nat) (h : k ≤ 7) : innK F x k < 128 := orFold_lt (fun i => x.testBit i && F.getD (nd x (2 ^ i)) false) _ _ (fun i hi => by have := List.mem_range.1 hi; omega) (by decide)
theorem two_lt128 {i : Nat} (h : i < 7) : 2 ^ i < 128 := show 2 ^ i < 2 ^ 7 from Nat.pow_lt_pow_right (by decide) h
def risen' (n : Int) (l : List Int) (k : Nat) : Bool := (List.range k).all fun (i : Nat) => okAt n l i
theorem risen'_succ (n : Int) (l : List Int) (k : Nat) : risen' n l (k + 1) = (risen' n l k && okAt n l k) := by simp [risen', List.range_succ]
theorem risingB_not {n : Int} {l : List Int} {i : Nat} (h : i < l.length) (hb : okAt n l i = false) : risingB n l = false := by
 rw [Bool.eq_false_iff]
 intro hc
 simp only [risingB, List.all_eq_true, List.mem_range] at hc
 rw [hc i h] at hb
 cases hb
theorem risingB_rise {n : Int} {l : List Int} (h : risingB n l = true) : Rise l := by
 have h1 : ∀ i : Nat, i + 1 < l.length → rd l (i : Int) < rd l ((i + 1 : Nat) : Int) := by
  intro i hi
  simp only [risingB, List.all_eq_true, List.mem_range] at h
  have := h (i + 1) hi
  simp only [okAt, Bool.and_eq_true, Bool.or_eq_true, decide_eq_true_eq] at this
  have h2 := this.2
  rw [show (((i + 1 : Nat) : Int) - 1) = i by omega] at h2
  omega
 intro i j hij hj
 obtain ⟨d, rfl⟩ : ∃ d, j = i + 1 + d := ⟨j - i - 1, by omega⟩
 clear hij
 induction d with
 | zero => exact h1 i hj
 | succ d ih =>
  have := ih (by omega)
  have h2 := h1 (i + 1 + d) (by omega)
  rw [show i + 1 + (d + 1) = i + 1 + d + 1 by omega]
  omega
theorem allTo_nat (P : Int → Bool) (l : List Int) (i : Nat) (h : i < l.length) : allTo P l ((i + 1 : Nat) : Int) = (allTo P l i && P (rd l i)) := by
 have := allTo_succ P l i (by omega) (by omega)
 push_cast
 exact this
theorem getD_pow {n : Int} (l : List Int) (h1 : 1 ≤ n) (h7 : n ≤ 7) : (famOf l).getD (2 ^ n.toNat - 1) false = decide ((2 ^ n.toNat - 1 : Int) ∈ l) := by
 have hp := pow128 (n := n) (by omega) h7
 have e : ((2 ^ n.toNat : Nat) : Int) = (2 : Int) ^ n.toNat := by push_cast; rfl
 rw [famOf_getD l _ (by omega)]
 congr 2
 omega
def outK (F : List Bool) (x k : Nat) : Nat := (List.range k).foldl (fun a i => if (!x.testBit i && F.getD (x ||| 2 ^ i) false) = true then a ||| 2 ^ i else a) 0
theorem isSpaceB_parts {n : Int} {l : List Int} (h : isSpaceB n l = true) : 1 ≤ n ∧ n ≤ 7 ∧ (l.length : Int) ≤ 2 ^ n.toNat ∧ risingB n l = true ∧ (famOf l).getD 0 false = true ∧ (famOf l).getD (2 ^ n.toNat - 1) false = true ∧ unionsB (famOf l) l = true := by
 unfold isSpaceB at h
 simp only [Bool.and_eq_true, decide_eq_true_eq] at h
 obtain ⟨⟨⟨⟨⟨⟨h1, h2⟩, h3⟩, h4⟩, h5⟩, h6⟩, h7⟩ := h
 exact ⟨h1, h2, h3, h4, h5, h6, h7⟩
theorem isSpaceB_mem {n : Int} {l : List Int} (h : isSpaceB n l = true) : ∀ x ∈ l, 0 ≤ x ∧ x < 2 ^ n.toNat := fun x hx => risingB_mem (isSpaceB_parts h).2.2.2.1 hx
theorem isSpaceB_128 {n : Int} {l : List Int} (h : isSpaceB n l = true) : ∀ x ∈ l, 0 ≤ x ∧ x < 128 := fun x hx => by
 have h1 := isSpaceB_mem h x hx
 have h2 := isSpaceB_parts h
 have := pow128 (n := n) (by omega) h2.2.1
 omega
def hasSetB (n : Int) (l : List Int) (x : Int) : Bool := isSpaceB n l && (decide (0 ≤ x) && decide (x < 2 ^ n.toNat))
def isKnownB (n : Int) (l : List Int) (x : Int) : Bool := isSpaceB n l && decide (x ∈ l)
/-- Does it hold of all ahead of the index i? (entries of any type) -/
def allG {α : Type} (P : α → Bool) (l : List α) (i : Int) : Bool := (l.take i.toNat).all P
def idxG {α : Type} (p : α → Bool) (l : List α) : Int := match l.findIdx? p with | some i => (i : Int) | none => -1
-- HAND lib order
/-- Is no entry met before? -/
def newAt (l : List Int) (k : Nat) : Bool := !decide (rd l k ∈ l.take k)
def newTo (l : List Int) (k : Nat) : Bool := (List.range k).all (newAt l)
/-- Each of n numbers once. -/
def isOrderB (l : List Int) (n : Int) : Bool := decide ((l.length : Int) = n) && (decide (1 ≤ n) && decide (n ≤ 7)) && l.all (fun x => decide (0 ≤ x) && decide (x < n)) && newTo l l.length
/-- The items of a list, as a set. -/
def maskL (l : List Int) : Nat := l.foldl (fun a x => a ||| 2 ^ x.toNat) 0
theorem rd_append (a b : List Int) (x : Int) : rd (a ++ x :: b) (a.length : Int) = x := by simp [rd, List.getD]
/-- The sets of the beginnings. -/
def chainFrom (s : Nat) : List Int → List Int
  | [] => []
  | x :: r => ((s ||| 2 ^ x.toNat : Nat) : Int) :: chainFrom (s ||| 2 ^ x.toNat) r
-- HAND lib short
/-- A world that stands some plain steps (draws, new blocks) behind another one. -/
class UpFrom (W W0 : World) : Prop where
  below : Below W0.heap.size W0 W
instance upSame (W : World) : UpFrom W W := ⟨Below.refl _ _⟩
instance upDrewN (W W0 : World) (n : Nat) [u : UpFrom W W0] : UpFrom (W.drewN n) W0 := ⟨pw_below_drewN u.below n⟩
instance upDrew (W W0 : World) [u : UpFrom W W0] : UpFrom W.drew W0 := ⟨below_drew1 u.below⟩
instance upAlloc (W W0 : World) (o : Obj) [u : UpFrom W W0] : UpFrom (W.alloc o) W0 := ⟨below_alloc u.below o⟩
theorem upB {W W0 : World} {g : Nat} {o : Obj} (h : W0.heap[g]? = some o) [u : UpFrom W W0] : W.heap[g]? = some o := (u.below.block g (blk_lt h)).trans h
theorem upR {α : Type} {d : Kd α} {e base : Nat} {ok : Nat → Prop} {W W0 : World} {v : Value} {xs : List α} (h : d.R e W0 base ok v xs) [u : UpFrom W W0] : d.R e W base ok v xs := Kd.R_below h u.below
theorem asd {p : Prop} (h : p) : Aside0 p := ⟨h⟩
-- HAND lib strL
/-- The bytes of a number's text, of numbers with commas, of a space's text. -/
def digQ (u : Nat) : List UInt8 := if u < 10 then [UInt8.ofNat (48 + u)] else if u < 100 then [UInt8.ofNat (48 + u / 10), UInt8.ofNat (48 + u % 10)] else [UInt8.ofNat (48 + u / 100), UInt8.ofNat (48 + u / 10 % 10), UInt8.ofNat (48 + u % 10)]
theorem dec_digQ {u : Nat} (h : u < 128) : Lib.decDigits u = digQ u := by
  unfold digQ
  by_cases h1 : u < 10
  · rw [Lib.decDigits, dif_pos h1, if_pos h1]
  · rw [if_neg h1, Lib.decDigits, dif_neg h1]
    by_cases h2 : u < 100
    · rw [if_pos h2, Lib.decDigits, dif_pos (show u / 10 < 10 by omega)]
      rfl
    · rw [if_neg h2, Lib.decDigits, dif_neg (show ¬u / 10 < 10 by omega), Lib.decDigits, dif_pos (show u / 10 / 10 < 10 by omega), Nat.div_div_eq_div_mul]
      rfl
theorem itoa_digQ {n : Int} (h0 : 0 ≤ n) (h1 : n < 128) : Lib.itoa n = digQ n.toNat := by
  unfold Lib.itoa
  rw [if_neg (by omega), dec_digQ (by omega)]
theorem digQ_len (u : Nat) : 1 ≤ (digQ u).length ∧ (digQ u).length ≤ 3 := by
  unfold digQ
  split
  · exact ⟨by simp, by simp⟩
  · split
    · exact ⟨by simp, by simp⟩
    · exact ⟨by simp, by simp⟩
def strB (L : List UInt8) : ByteArray := ⟨L.toArray⟩
def numB (n : Int) : ByteArray := strB (digQ n.toNat)
def joinQ (l : List Int) : List UInt8 := Lib.join (l.map fun n => digQ n.toNat) [44]
def textQ (n : Int) (l : List Int) : List UInt8 := digQ n.toNat ++ [58] ++ joinQ l
theorem strB_append (x y : List UInt8) : strB x ++ strB y = strB (x ++ y) := ByteArray.mk_append_mk x y
theorem strB_size (x : List UInt8) : (strB x).size = x.length := by
  show x.toArray.size = _
  exact List.size_toArray ..
theorem joinTail_len (l : List Int) : (Lib.joinTail [44] (l.map fun n => digQ n.toNat)).length ≤ 4 * l.length := by
  unfold Lib.joinTail
  induction l with
  | nil => exact Nat.le_refl _
  | cons a l ih =>
    have h := digQ_len a.toNat
    simp only [List.map_cons, List.flatten_cons, List.length_append, List.length_cons, List.length_nil] at ih ⊢
    omega
theorem joinQ_len (l : List Int) : (joinQ l).length ≤ 4 * l.length := by
  unfold joinQ
  cases l with
  | nil => exact Nat.le_refl _
  | cons a l =>
    have h := digQ_len a.toNat
    have h2 := joinTail_len l
    rw [List.map_cons, Lib.join_cons, List.length_append, List.length_cons]
    omega

/-! ### laws_szIntS: function 9 -/
def laws_szIntS.f (l0 : List Int) (a1 : Int) : Option (Int) := if (wrap64 (a1 - (l0.length : Int))) < 0 then (some (-1)) else (some (wrap64 (a1 - (l0.length : Int))))
set_option maxHeartbeats 8000000 in
set_option maxRecDepth 100000 in
theorem laws_szIntS.calls (A0 : Option Addr) (c0 : Nat) (l0 : List Int) (a1 : Int) (r : Int) (w : World) (hr0 : Kd.C (Kd.int .i64) w A0 l0.length l0) (hc0 : l0.length ≤ c0) (h : laws_szIntS.f l0 a1 = some r) :
    Calls Tryd.prog 9 #[.slice A0 l0.length c0, .int .i64 a1] w fun e w' => e = .returned (.int .i64 r) ∧ Drawn0 w w' := by
  have HR0 := Aside0.mk hr0
  have HC0 := Aside0.mk hc0
  clear hr0 hc0
  have H : (if (wrap64 (a1 - (l0.length : Int))) < 0 then (some (-1)) else (some (wrap64 (a1 - (l0.length : Int))))) = some r := h
  clear h
  by_cases c3 : (wrap64 (a1 - (l0.length : Int))) < 0
  · rw [if_pos c3] at H
    have c3b0 : decide ((wrap64 (a1 - (l0.length : Int))) < 0) = true := decide_eq_true c3
    clear c3
    obtain rfl := Option.some.inj H
    go_enter Tryd.func9, Tryd.ntmps9
    go_wp2
    go_ret
    exact ⟨by first | rfl | (simp; done) | (simp [*]; done), by repeat (first | exact Drawn0.refl _ | apply Drawn0.step)⟩
  · rw [if_neg c3] at H
    have c3b0 : decide ((wrap64 (a1 - (l0.length : Int))) < 0) = false := decide_eq_false c3
    clear c3
    obtain rfl := Option.some.inj H
    go_enter Tryd.func9, Tryd.ntmps9
    go_wp2
    go_ret
    exact ⟨by first | rfl | (simp; done) | (simp [*]; done), by repeat (first | exact Drawn0.refl _ | apply Drawn0.step)⟩

/-! ### laws_szSpace: function 4 -/
def laws_szSpace.f (a0_0 : Int) (l0_1 : List Int) (a1 : Int) : Option (Int) := (laws_szIntS.f l0_1 a1).bind fun t102 => (if t102 < 0 then (some (-1)) else (some t102))
set_option maxHeartbeats 8000000 in
set_option maxRecDepth 100000 in
theorem laws_szSpace.calls (a0_0 : Int) (A0_1 : Option Addr) (c0_1 : Nat) (l0_1 : List Int) (a1 : Int) (r : Int) (w : World) (hr0_1 : Kd.C (Kd.int .i64) w A0_1 l0_1.length l0_1) (hc0_1 : l0_1.length ≤ c0_1) (h : laws_szSpace.f a0_0 l0_1 a1 = some r) :
    Calls Tryd.prog 4 #[.agg #[.int .i64 a0_0, .slice A0_1 l0_1.length c0_1], .int .i64 a1] w fun e w' => e = .returned (.int .i64 r) ∧ Below w.heap.size w w' := by
  have hu24 := Tryd.underlying24
  have HR0_1 := Aside0.mk hr0_1
  have HC0_1 := Aside0.mk hc0_1
  clear hr0_1 hc0_1
  have HB := Aside0.mk (Below.refl w.heap.size w)
  have H : ((laws_szIntS.f l0_1 a1).bind fun t102 => (if t102 < 0 then (some (-1)) else (some t102))) = some r := h
  clear h
  replace H := Option.bind_eq_some_iff.mp H
  obtain ⟨t102, A30, H⟩ := H
  replace H : (if t102 < 0 then (some (-1)) else (some t102)) = some r := H
  have A3 := Aside0.mk A30
  clear A30
  by_cases c4 : t102 < 0
  · rw [if_pos c4] at H
    have c4b0 : decide (t102 < 0) = true := decide_eq_true c4
    clear c4
    obtain rfl := Option.some.inj H
    go_enter Tryd.func4, Tryd.ntmps4
    go_wp2_with (first | ((with_reducible refine gate_dst (N := 2) rfl ?_); refine box_event ?hg (N := 2) ?hd (cs := #[.int .i64 a0_0, .slice A0_1 l0_1.length c0_1]) (t := 24) ?hr ?_; (case hd => rfl); (case hg => rfl); (case hr => first | (go_simp; done) | (go_simp; rfl)); intro gb101 hg w5 hbox hb; have n0_ := Aside0.mk (below_step (by repeat (first | (with_reducible first | exact HB.out | apply below_alloc | apply pw_below_drewN | apply below_drew1) | exact HB.out)) hb); have n1_ := Aside0.mk (hbox); have n2_ := Aside0.mk ((by rw [hg]; exact (below_size (by repeat (first | (with_reducible first | exact HB.out | apply below_alloc | apply pw_below_drewN | apply below_drew1) | exact HB.out))) : w.heap.size ≤ gb101)); have n3_ := Aside0.mk ((by rw [hg]; exact (below_size (by repeat (first | (with_reducible first | exact HB.out | apply below_alloc | apply pw_below_drewN | apply below_drew1) | exact HB.out))) : w.heap.size ≤ gb101)); clear HB; have HB := n0_; have BK101 := n1_; have GW101 := n2_; have GE101 := n3_; clear n0_ n1_ n2_ n3_; clear hb hbox hg; have hcz6_0 : w5.cell? ⟨gb101, 0, none⟩ = some (.int .i64 a0_0) := (blk_cell BK101.out 0).trans rfl; have hcz6_1 : w5.cell? ⟨gb101, 1, none⟩ = some (.slice A0_1 l0_1.length c0_1) := (blk_cell BK101.out 1).trans rfl; have hfz6_0 := blk_frozen BK101.out 0; have hfz6_1 := blk_frozen BK101.out 1) | ((with_reducible refine gate_callee (f := 9) rfl ?_); refine goesL_ (some 8) rfl rfl Tryd.func9 (by kernel_rfl) rfl #[.slice A0_1 l0_1.length c0_1, .int .i64 a1] rfl (by (try simp only [List.map_toArray, List.map_cons, List.map_nil]); first | done | rfl | (simp only [List.length_drop, List.length_take]; rfl)) ?_; (with_reducible refine (laws_szIntS.calls _ _ l0_1 a1 t102 _ ?side1 ?side2 A3.out).mono ?_); (case side1 => repeat (first | exact (Kd.C_below HR0_1.out HB.out) | (with_reducible refine Kd.C_alloc ?_ _) | (with_reducible refine Kd.C_drewN ?_ _) | (with_reducible refine Kd.C_drew ?_))); (case side2 => exact HC0_1.out); rintro e w' ⟨rfl, ⟨nd, rfl⟩⟩; refine ⟨_, rfl, ?_⟩))
    go_ret
    exact ⟨by first | rfl | (simp [errW_none, errW_some] <;> rfl) | (simp [*, errW_none, errW_some] <;> rfl), by repeat (first | (with_reducible first | exact HB.out | apply below_alloc | apply pw_below_drewN | apply below_drew1 | refine below_set ?_ GE101.out) | exact HB.out)⟩
  · rw [if_neg c4] at H
    have c4b0 : decide (t102 < 0) = false := decide_eq_false c4
    clear c4
    obtain rfl := Option.some.inj H
    go_enter Tryd.func4, Tryd.ntmps4
    go_wp2_with (first | ((with_reducible refine gate_dst (N := 2) rfl ?_); refine box_event ?hg (N := 2) ?hd (cs := #[.int .i64 a0_0, .slice A0_1 l0_1.length c0_1]) (t := 24) ?hr ?_; (case hd => rfl); (case hg => rfl); (case hr => first | (go_simp; done) | (go_simp; rfl)); intro gb101 hg w7 hbox hb; have n0_ := Aside0.mk (below_step (by repeat (first | (with_reducible first | exact HB.out | apply below_alloc | apply pw_below_drewN | apply below_drew1) | exact HB.out)) hb); have n1_ := Aside0.mk (hbox); have n2_ := Aside0.mk ((by rw [hg]; exact (below_size (by repeat (first | (with_reducible first | exact HB.out | apply below_alloc | apply pw_below_drewN | apply below_drew1) | exact HB.out))) : w.heap.size ≤ gb101)); have n3_ := Aside0.mk ((by rw [hg]; exact (below_size (by repeat (first | (with_reducible first | exact HB.out | apply below_alloc | apply pw_below_drewN | apply below_drew1) | exact HB.out))) : w.heap.size ≤ gb101)); clear HB; have HB := n0_; have BK101 := n1_; have GW101 := n2_; have GE101 := n3_; clear n0_ n1_ n2_ n3_; clear hb hbox hg; have hcz8_0 : w7.cell? ⟨gb101, 0, none⟩ = some (.int .i64 a0_0) := (blk_cell BK101.out 0).trans rfl; have hcz8_1 : w7.cell? ⟨gb101, 1, none⟩ = some (.slice A0_1 l0_1.length c0_1) := (blk_cell BK101.out 1).trans rfl; have hfz8_0 := blk_frozen BK101.out 0; have hfz8_1 := blk_frozen BK101.out 1) | ((with_reducible refine gate_callee (f := 9) rfl ?_); refine goesL_ (some 8) rfl rfl Tryd.func9 (by kernel_rfl) rfl #[.slice A0_1 l0_1.length c0_1, .int .i64 a1] rfl (by (try simp only [List.map_toArray, List.map_cons, List.map_nil]); first | done | rfl | (simp only [List.length_drop, List.length_take]; rfl)) ?_; (with_reducible refine (laws_szIntS.calls _ _ l0_1 a1 t102 _ ?side1 ?side2 A3.out).mono ?_); (case side1 => repeat (first | exact (Kd.C_below HR0_1.out HB.out) | (with_reducible refine Kd.C_alloc ?_ _) | (with_reducible refine Kd.C_drewN ?_ _) | (with_reducible refine Kd.C_drew ?_))); (case side2 => exact HC0_1.out); rintro e w' ⟨rfl, ⟨nd, rfl⟩⟩; refine ⟨_, rfl, ?_⟩))
    go_ret
    exact ⟨by first | rfl | (simp [errW_none, errW_some] <;> rfl) | (simp [*, errW_none, errW_some] <;> rfl), by repeat (first | (with_reducible first | exact HB.out | apply below_alloc | apply pw_below_drewN | apply below_drew1 | refine below_set ?_ GE101.out) | exact HB.out)⟩

-- HAND with laws.szSpace
theorem szSpace_over (n : Int) (l : List Int) (a : Int) (ha : a ≤ 1048576) (hl : l.length ≤ 9223372036854775807) (h : a < l.length) (h0 : 0 ≤ a) : laws_szSpace.f n l a = some (-1) := by
  have hw : wrap64 (a - (l.length : Int)) = a - l.length := wrap_in (by omega) (by omega)
  unfold laws_szSpace.f laws_szIntS.f
  rw [hw, if_pos (by omega)]
  rfl
theorem szSpace_fits (n : Int) (l : List Int) (a : Int) (ha : a ≤ 1048576) (h : (l.length : Int) ≤ a) : laws_szSpace.f n l a = some (a - l.length) := by
  have hw : wrap64 (a - (l.length : Int)) = a - l.length := wrap_in (by omega) (by omega)
  unfold laws_szSpace.f laws_szIntS.f
  rw [hw, if_neg (by omega)]
  show (if a - (l.length : Int) < 0 then _ else _) = _
  rw [if_neg (by omega)]

/-! ### spec_l1In: function 28 -/
def spec_l1In.f (a0 : Int) (a1 : Int) (a2 : Int) : Option (Bool) := if a0 ≥ a1 then (some (decide (a0 ≤ a2))) else (some false)
set_option maxHeartbeats 8000000 in
set_option maxRecDepth 100000 in
theorem spec_l1In.calls (a0 : Int) (a1 : Int) (a2 : Int) (r : Bool) (w : World) (h : spec_l1In.f a0 a1 a2 = some r) :
    Calls Tryd.prog 28 #[.int .i64 a0, .int .i64 a1, .int .i64 a2] w fun e w' => e = .returned (.bool r) ∧ Drawn0 w w' := by
  have H : (if a0 ≥ a1 then (some (decide (a0 ≤ a2))) else (some false)) = some r := h
  clear h
  by_cases c4 : a0 ≥ a1
  · rw [if_pos c4] at H
    have c4b0 : decide (a1 ≤ a0) = true := decide_eq_true c4
    clear c4
    obtain rfl := Option.some.inj H
    go_enter Tryd.func28, Tryd.ntmps28
    go_wp2
    go_ret
    exact ⟨by first | rfl | (simp; done) | (simp [*]; done), by repeat (first | exact Drawn0.refl _ | apply Drawn0.step)⟩
  · rw [if_neg c4] at H
    have c4b0 : decide (a1 ≤ a0) = false := decide_eq_false c4
    clear c4
    obtain rfl := Option.some.inj H
    go_enter Tryd.func28, Tryd.ntmps28
    go_wp2
    go_ret
    exact ⟨by first | rfl | (simp; done) | (simp [*]; done), by repeat (first | exact Drawn0.refl _ | apply Drawn0.step)⟩

-- HAND with spec.l1In
theorem l1In_ok (x a b : Int) : spec_l1In.f x a b = some (decide (a ≤ x) && decide (x ≤ b)) := by
  unfold spec_l1In.f
  by_cases h : a ≤ x
  · rw [if_pos h]; simp [h]
  · rw [if_neg h]; simp [h]

/-! ### spec_spItems: function 16 -/
def spec_spItems.f (a0 : Int) : Option (Bool) := (spec_l1In.f a0 1 7).bind fun t101 => (some t101)
set_option maxHeartbeats 8000000 in
set_option maxRecDepth 100000 in
theorem spec_spItems.calls (a0 : Int) (r : Bool) (w : World) (h : spec_spItems.f a0 = some r) :
    Calls Tryd.prog 16 #[.int .i64 a0] w fun e w' => e = .returned (.bool r) ∧ Drawn0 w w' := by
  have H : ((spec_l1In.f a0 1 7).bind fun t101 => (some t101)) = some r := h
  clear h
  replace H := Option.bind_eq_some_iff.mp H
  obtain ⟨t101, A20, H⟩ := H
  replace H : (some t101) = some r := H
  have A2 := Aside0.mk A20
  clear A20
  obtain rfl := Option.some.inj H
  go_enter Tryd.func16, Tryd.ntmps16
  go_wp2_with (first | ((with_reducible refine gate_callee (f := 28) rfl ?_); refine goesL_ (some 4) rfl rfl Tryd.func28 (by kernel_rfl) rfl #[.int .i64 a0, .int .i64 1, .int .i64 7] rfl (by (try simp only [List.map_toArray, List.map_cons, List.map_nil]); first | done | rfl | (simp only [List.length_drop, List.length_take]; rfl)) ?_; (with_reducible refine (spec_l1In.calls a0 1 7 t101 _ A2.out).mono ?_); rintro e w' ⟨rfl, ⟨nd, rfl⟩⟩; refine ⟨_, rfl, ?_⟩))
  go_ret
  exact ⟨by first | rfl | (simp; done) | (simp [*]; done), by repeat (first | exact Drawn0.refl _ | apply Drawn0.step)⟩

-- HAND with spec.spItems
theorem spItems_ok (n : Int) : spec_spItems.f n = some (decide (1 ≤ n) && decide (n ≤ 7)) := by
  unfold spec_spItems.f
  rw [l1In_ok]
  rfl

/-! ### spec_l1Rising: function 17 -/
def spec_l1Rising.l0 : Nat → List Int → Int → Int → List Int → Int → Int → Option (Bool)
 | 0, _, _, _, _, _, _ => none
 | k + 1, x0, x1, x2, x9, x10, x11 => if x11 < x10 then (if 0 ≤ x11 then (if x11 < (x9.length : Int) then ((spec_l1In.f (rd x9 x11) x1 x2).bind fun t102 => (if t102 = true then (if x11 > 0 then (if 0 ≤ (wrap64 (x11 - 1)) then (if (wrap64 (x11 - 1)) < (x0.length : Int) then (if (rd x0 (wrap64 (x11 - 1))) ≥ (rd x9 x11) then (some false) else (spec_l1Rising.l0 k x0 x1 x2 x9 x10 (wrap64 (x11 + 1)))) else (none)) else (none)) else (spec_l1Rising.l0 k x0 x1 x2 x9 x10 (wrap64 (x11 + 1)))) else (some false))) else (none)) else (none)) else (some true)
def spec_l1Rising.f (k : Nat) (l0 : List Int) (a1 : Int) (a2 : Int) : Option (Bool) := spec_l1Rising.l0 k l0 a1 a2 l0 (l0.length : Int) 0
theorem spec_l1Rising.mono_l : ∀ k, (∀ y0 y1 y2 y3 y4 y5, LeO (spec_l1Rising.l0 k y0 y1 y2 y3 y4 y5) (spec_l1Rising.l0 (k + 1) y0 y1 y2 y3 y4 y5))
 | 0 => fun _ _ _ _ _ _ r h => by simp [spec_l1Rising.l0] at h
 | k + 1 => by
  have ih0 := spec_l1Rising.mono_l k
  ·
   intro y0 y1 y2 y3 y4 y5
   unfold spec_l1Rising.l0
   repeat' first
   | (with_reducible exact ih0 _ _ _ _ _ _)
   | (with_reducible exact LeO.refl _)
   | (with_reducible exact LeO.none _)
   | (with_reducible refine LeO.ite ?_ ?_)
   | (with_reducible refine LeO.bind ?_ (fun _ => ?_))
   | exact ih0 _ _ _ _ _ _
   | exact LeO.none _
   | refine LeO.ite ?_ ?_
   | refine LeO.bind ?_ (fun _ => ?_)
theorem spec_l1Rising.mono : ∀ a0 a1 a2 k, LeO (spec_l1Rising.f k a0 a1 a2) (spec_l1Rising.f (k + 1) a0 a1 a2) := by
 intro a0 a1 a2 k
 have ih0 := spec_l1Rising.mono_l k
 unfold spec_l1Rising.f
 repeat' first
   | (with_reducible exact ih0 _ _ _ _ _ _)
   | (with_reducible exact LeO.refl _)
   | (with_reducible exact LeO.none _)
   | (with_reducible refine LeO.ite ?_ ?_)
   | (with_reducible refine LeO.bind ?_ (fun _ => ?_))
   | exact ih0 _ _ _ _ _ _
   | exact LeO.none _
   | refine LeO.ite ?_ ?_
   | refine LeO.bind ?_ (fun _ => ?_)
set_option maxHeartbeats 8000000 in
set_option maxRecDepth 100000 in
theorem spec_l1Rising.calls (k : Nat) (A0 : Option Addr) (c0 : Nat) (l0 : List Int) (a1 : Int) (a2 : Int) (r : Bool) (w : World) (hr0 : Kd.C (Kd.int .i64) w A0 l0.length l0) (hc0 : l0.length ≤ c0) (h : spec_l1Rising.f k l0 a1 a2 = some r) :
  Calls Tryd.prog 17 #[.slice A0 l0.length c0, .int .i64 a1, .int .i64 a2] w fun e w' => e = .returned (.bool r) ∧ Drawn0 w w' := by
 have HR0 := asd hr0
 have HC0 := asd hc0
 clear hr0 hc0
 have H : (spec_l1Rising.l0 k l0 a1 a2 l0 (l0.length : Int) 0) = some r := h
 clear h
 have H' := asd H
 clear H
 go_enter Tryd.func17, Tryd.ntmps17
 go_wp2
 go_loopg [11] k (fun kq v11 w' => ∃ (x11_1 : Int), v11 = .int .i64 x11_1 ∧ Aside0 (spec_l1Rising.l0 kq l0 a1 a2 l0 (l0.length : Int) x11_1 = some r) ∧ Aside0 (kq ≤ k) ∧ Drawn0 w w')
 case atStart => exact ⟨(0), (by first | rfl | (simp; done) | (simp [*]; done)), H', ⟨Nat.le_refl _⟩, by repeat (first | exact Drawn0.refl _ | apply Drawn0.step)⟩
 case round =>
  clear H'
  try clear c1
  try clear p2
  skip
  obtain ⟨x11_1, rfl, HA, HK1, ⟨m1, rfl⟩⟩ := hrel
  cases gk with
  | zero => exact absurd HA.out (by simp [spec_l1Rising.l0])
  | succ k1 =>
   have H := HA.out
   clear HA
   simp only [spec_l1Rising.l0] at H
   by_cases c4 : x11_1 < (l0.length : Int)
   ·
    rw [if_pos c4] at H
    have c4b0 : decide (x11_1 < (l0.length : Int)) = true := decide_eq_true c4
    clear c4
    by_cases c5 : 0 ≤ x11_1
    ·
     rw [if_pos c5] at H
     have c5b0 : decide (0 ≤ x11_1) = true := decide_eq_true c5
     clear c5
     by_cases c6 : x11_1 < (l0.length : Int)
     ·
      rw [if_pos c6] at H
      have c6b0 : decide (x11_1 < (l0.length : Int)) = true := decide_eq_true c6
      clear c6
      replace H := Option.bind_eq_some_iff.mp H
      obtain ⟨t102, A70, H⟩ := H
      replace H : (if t102 = true then (if x11_1 > 0 then (if 0 ≤ (wrap64 (x11_1 - 1)) then (if (wrap64 (x11_1 - 1)) < (l0.length : Int) then (if (rd l0 (wrap64 (x11_1 - 1))) ≥ (rd l0 x11_1) then (some false) else (spec_l1Rising.l0 k1 l0 a1 a2 l0 (l0.length : Int) (wrap64 (x11_1 + 1)))) else (none)) else (none)) else (spec_l1Rising.l0 k1 l0 a1 a2 l0 (l0.length : Int) (wrap64 (x11_1 + 1)))) else (some false)) = some r := H
      have A7 := asd A70
      clear A70
      by_cases c8 : t102 = true
      ·
       subst c8
       have H1 : (if x11_1 > 0 then (if 0 ≤ (wrap64 (x11_1 - 1)) then (if (wrap64 (x11_1 - 1)) < (l0.length : Int) then (if (rd l0 (wrap64 (x11_1 - 1))) ≥ (rd l0 x11_1) then (some false) else (spec_l1Rising.l0 k1 l0 a1 a2 l0 (l0.length : Int) (wrap64 (x11_1 + 1)))) else (none)) else (none)) else (spec_l1Rising.l0 k1 l0 a1 a2 l0 (l0.length : Int) (wrap64 (x11_1 + 1)))) = some r := by rw [if_pos rfl] at H; exact H
       clear H
       have H := H1
       clear H1
       by_cases c9 : x11_1 > 0
       ·
        rw [if_pos c9] at H
        have c9b0 : decide (0 < x11_1) = true := decide_eq_true c9
        clear c9
        obtain ⟨ji10, hji10⟩ : ∃ j_ : Int, (wrap64 (x11_1 - 1)) = j_ := ⟨_, rfl⟩
        replace H : (if 0 ≤ (ji10) then (if (ji10) < (l0.length : Int) then (if (rd l0 (ji10)) ≥ (rd l0 x11_1) then (some false) else (spec_l1Rising.l0 k1 l0 a1 a2 l0 (l0.length : Int) (wrap64 (x11_1 + 1)))) else (none)) else (none)) = some r := by first | (rw [hji10] at H; exact H) | (simp only [hji10] at H ⊢; exact H)
        (try rw [hji10] at A7)
        have hji10w : (IntKind.i64.wrap (x11_1 - 1)) = ji10 := (i64_w _).trans hji10
        by_cases c11 : 0 ≤ (ji10)
        ·
         rw [if_pos c11] at H
         have c11b0 : decide (0 ≤ (ji10)) = true := decide_eq_true c11
         clear c11
         by_cases c12 : (ji10) < (l0.length : Int)
         ·
          rw [if_pos c12] at H
          have c12b0 : decide ((ji10) < (l0.length : Int)) = true := decide_eq_true c12
          clear c12
          by_cases c13 : (rd l0 (ji10)) ≥ (rd l0 x11_1)
          ·
           rw [if_pos c13] at H
           have c13b0 : decide ((rd l0 x11_1) ≤ (rd l0 (ji10))) = true := decide_eq_true c13
           clear c13
           obtain rfl := Option.some.inj H
           have p101 : 0 ≤ (x11_1 : Int) := of_decide_eq_true (by first | (with_reducible assumption) | assumption)
           have q101 : x11_1 < (l0.length : Int) := of_decide_eq_true (by first | (with_reducible assumption) | assumption)
           obtain ⟨ad101, e101, hx101_0⟩ := Kd.at_int HR0.out x11_1 p101 q101
           cases e101
           replace p101 := eq_true p101
           replace q101 := eq_true q101
           go_wp2_with (first | ((with_reducible refine gate_callee (f := 28) rfl ?_); refine goesL_ (some 19) rfl rfl Tryd.func28 (by kernel_rfl) rfl #[.int .i64 (rd l0 x11_1), .int .i64 a1, .int .i64 a2] rfl (by (try simp only [List.map_toArray, List.map_cons, List.map_nil]); first | done | rfl | (simp only [List.length_drop, List.length_take]; rfl)) ?_; (with_reducible refine (spec_l1In.calls (rd l0 x11_1) a1 a2 true _ A7.out).mono ?_); rintro e w' ⟨rfl, ⟨nd, rfl⟩⟩; refine ⟨_, rfl, ?_⟩; have p103 : 0 ≤ ((ji10) : Int) := of_decide_eq_true (by first | (with_reducible assumption) | assumption); have q103 : (ji10) < (l0.length : Int) := of_decide_eq_true (by first | (with_reducible assumption) | assumption); obtain ⟨ad103, e103, hx103_0⟩ := Kd.at_int HR0.out (ji10) p103 q103; obtain rfl : ad101 = ad103 := (by injection e103); replace p103 := eq_true p103; replace q103 := eq_true q103))
           go_ret
           exact ⟨by first | rfl | (simp; done) | (simp only [← hji10] <;> (first | rfl | simp)) | (simp [*]; done), by repeat (first | exact Drawn0.refl _ | apply Drawn0.step)⟩
          ·
           rw [if_neg c13] at H
           have c13b0 : decide ((rd l0 x11_1) ≤ (rd l0 (ji10))) = false := decide_eq_false c13
           clear c13
           have H' := asd H
           clear H
           have p101 : 0 ≤ (x11_1 : Int) := of_decide_eq_true (by first | (with_reducible assumption) | assumption)
           have q101 : x11_1 < (l0.length : Int) := of_decide_eq_true (by first | (with_reducible assumption) | assumption)
           obtain ⟨ad101, e101, hx101_0⟩ := Kd.at_int HR0.out x11_1 p101 q101
           cases e101
           replace p101 := eq_true p101
           replace q101 := eq_true q101
           go_wp2_with (first | ((with_reducible refine gate_callee (f := 28) rfl ?_); refine goesL_ (some 19) rfl rfl Tryd.func28 (by kernel_rfl) rfl #[.int .i64 (rd l0 x11_1), .int .i64 a1, .int .i64 a2] rfl (by (try simp only [List.map_toArray, List.map_cons, List.map_nil]); first | done | rfl | (simp only [List.length_drop, List.length_take]; rfl)) ?_; (with_reducible refine (spec_l1In.calls (rd l0 x11_1) a1 a2 true _ A7.out).mono ?_); rintro e w' ⟨rfl, ⟨nd, rfl⟩⟩; refine ⟨_, rfl, ?_⟩; have p103 : 0 ≤ ((ji10) : Int) := of_decide_eq_true (by first | (with_reducible assumption) | assumption); have q103 : (ji10) < (l0.length : Int) := of_decide_eq_true (by first | (with_reducible assumption) | assumption); obtain ⟨ad103, e103, hx103_0⟩ := Kd.at_int HR0.out (ji10) p103 q103; obtain rfl : ad101 = ad103 := (by injection e103); replace p103 := eq_true p103; replace q103 := eq_true q103))
           go_roundg k1
           case measure => have := HK1.out; omega
           case rel => exact ⟨(wrap64 (x11_1 + 1)), (by first | rfl | (simp; done) | (simp [*]; done)), H', ⟨by have := HK1.out; omega⟩, by repeat (first | exact Drawn0.refl _ | apply Drawn0.step)⟩
         ·
          rw [if_neg c12] at H
          exact absurd H (by simp)
        ·
         rw [if_neg c11] at H
         exact absurd H (by simp)
       ·
        rw [if_neg c9] at H
        have c9b0 : decide (0 < x11_1) = false := decide_eq_false c9
        clear c9
        have H' := asd H
        clear H
        have p101 : 0 ≤ (x11_1 : Int) := of_decide_eq_true (by first | (with_reducible assumption) | assumption)
        have q101 : x11_1 < (l0.length : Int) := of_decide_eq_true (by first | (with_reducible assumption) | assumption)
        obtain ⟨ad101, e101, hx101_0⟩ := Kd.at_int HR0.out x11_1 p101 q101
        cases e101
        replace p101 := eq_true p101
        replace q101 := eq_true q101
        go_wp2_with (first | ((with_reducible refine gate_callee (f := 28) rfl ?_); refine goesL_ (some 19) rfl rfl Tryd.func28 (by kernel_rfl) rfl #[.int .i64 (rd l0 x11_1), .int .i64 a1, .int .i64 a2] rfl (by (try simp only [List.map_toArray, List.map_cons, List.map_nil]); first | done | rfl | (simp only [List.length_drop, List.length_take]; rfl)) ?_; (with_reducible refine (spec_l1In.calls (rd l0 x11_1) a1 a2 true _ A7.out).mono ?_); rintro e w' ⟨rfl, ⟨nd, rfl⟩⟩; refine ⟨_, rfl, ?_⟩))
        go_roundg k1
        case measure => have := HK1.out; omega
        case rel => exact ⟨(wrap64 (x11_1 + 1)), (by first | rfl | (simp; done) | (simp [*]; done)), H', ⟨by have := HK1.out; omega⟩, by repeat (first | exact Drawn0.refl _ | apply Drawn0.step)⟩
      ·
       replace c8 := Bool.eq_false_iff.mpr c8
       subst c8
       have H1 : (some false) = some r := by rw [if_neg (show ¬ (false = true) by decide)] at H; exact H
       clear H
       have H := H1
       clear H1
       obtain rfl := Option.some.inj H
       have p101 : 0 ≤ (x11_1 : Int) := of_decide_eq_true (by first | (with_reducible assumption) | assumption)
       have q101 : x11_1 < (l0.length : Int) := of_decide_eq_true (by first | (with_reducible assumption) | assumption)
       obtain ⟨ad101, e101, hx101_0⟩ := Kd.at_int HR0.out x11_1 p101 q101
       cases e101
       replace p101 := eq_true p101
       replace q101 := eq_true q101
       go_wp2_with (first | ((with_reducible refine gate_callee (f := 28) rfl ?_); refine goesL_ (some 19) rfl rfl Tryd.func28 (by kernel_rfl) rfl #[.int .i64 (rd l0 x11_1), .int .i64 a1, .int .i64 a2] rfl (by (try simp only [List.map_toArray, List.map_cons, List.map_nil]); first | done | rfl | (simp only [List.length_drop, List.length_take]; rfl)) ?_; (with_reducible refine (spec_l1In.calls (rd l0 x11_1) a1 a2 false _ A7.out).mono ?_); rintro e w' ⟨rfl, ⟨nd, rfl⟩⟩; refine ⟨_, rfl, ?_⟩))
       go_ret
       exact ⟨by first | rfl | (simp; done) | (simp [*]; done), by repeat (first | exact Drawn0.refl _ | apply Drawn0.step)⟩
     ·
      rw [if_neg c6] at H
      exact absurd H (by simp)
    ·
     rw [if_neg c5] at H
     exact absurd H (by simp)
   ·
    rw [if_neg c4] at H
    have c4b0 : decide (x11_1 < (l0.length : Int)) = false := decide_eq_false c4
    clear c4
    obtain rfl := Option.some.inj H
    go_wp2
    go_ret
    exact ⟨by first | rfl | (simp; done) | (simp [*]; done), by repeat (first | exact Drawn0.refl _ | apply Drawn0.step)⟩

-- HAND with spec.l1Rising
theorem l1Rising_loop (n : Int) (l : List Int) (hlen : l.length < 9223372036854775807) : ∀ (d i : Nat), l.length - i = d → i ≤ l.length → risen' n l i = true → Ev (fun k => spec_l1Rising.l0 k l 0 (2 ^ n.toNat - 1) l l.length i) (risingB n l) := by
  intro d
  induction d with
  | zero =>
    intro i hd hi hz
    obtain rfl : i = l.length := by omega
    exact Ev.succ (fun k => by simp only [spec_l1Rising.l0]; rw [if_neg (by omega)]) (Ev.const (congrArg some hz.symm))
  | succ d ih =>
    intro i hd hi hz
    have hil : i < l.length := by omega
    have hok : okAt n l i = ((decide (0 ≤ rd l i) && decide (rd l i < 2 ^ n.toNat)) && (decide ((i : Int) = 0) || decide (rd l (i - 1) < rd l i))) := rfl
    have he : decide (rd l i ≤ 2 ^ n.toNat - 1) = decide (rd l i < 2 ^ n.toNat) := decide_eq_decide.2 (by omega)
    by_cases hin : (decide (0 ≤ rd l i) && decide (rd l i < 2 ^ n.toNat)) = true
    · rw [hin, Bool.true_and] at hok
      by_cases hpos : 0 < i
      · have hw : wrap64 ((i : Int) - 1) = i - 1 := wrap_in (by omega) (by omega)
        by_cases hc : rd l ((i : Int) - 1) ≥ rd l i
        · refine Ev.succ (fun k => by simp only [spec_l1Rising.l0]; rw [if_pos (by omega), if_pos (by omega), if_pos (by omega)]) ?_
          refine Ev.bindc (l1In_ok _ _ _) ?_
          rw [he, hin]
          refine Ev.to (fun k => by rw [if_pos rfl, if_pos (by omega), hw, if_pos (by omega), if_pos (by omega), if_pos hc]) (Ev.const (congrArg some ?_))
          exact (risingB_not hil (hok.trans (by simp; omega))).symm
        · refine Ev.succ (fun k => by simp only [spec_l1Rising.l0]; rw [if_pos (by omega), if_pos (by omega), if_pos (by omega)]) ?_
          refine Ev.bindc (l1In_ok _ _ _) ?_
          rw [he, hin]
          refine Ev.to (fun k => by rw [if_pos rfl, if_pos (by omega), hw, if_pos (by omega), if_pos (by omega), if_neg hc, wrap_succ (by omega) (by omega)]) ?_
          exact ih (i + 1) (by omega) (by omega) (by rw [risen'_succ, hz, hok]; simp; omega)
      · refine Ev.succ (fun k => by simp only [spec_l1Rising.l0]; rw [if_pos (by omega), if_pos (by omega), if_pos (by omega)]) ?_
        refine Ev.bindc (l1In_ok _ _ _) ?_
        rw [he, hin]
        refine Ev.to (fun k => by rw [if_pos rfl, if_neg (by omega), wrap_succ (by omega) (by omega)]) ?_
        exact ih (i + 1) (by omega) (by omega) (by rw [risen'_succ, hz, hok]; simp; omega)
    · have hin' : (decide (0 ≤ rd l i) && decide (rd l i < 2 ^ n.toNat)) = false := by simpa using hin
      refine Ev.succ (fun k => by simp only [spec_l1Rising.l0]; rw [if_pos (by omega), if_pos (by omega), if_pos (by omega)]) ?_
      refine Ev.bindc (l1In_ok _ _ _) ?_
      rw [he, hin']
      refine Ev.to (fun k => by rw [if_neg (by decide)]) (Ev.const (congrArg some ?_))
      exact (risingB_not hil (hok.trans (by rw [hin']; rfl))).symm

/-! ### spec_spHas: function 18 -/
def spec_spHas.l0 : Nat → List Int → Int → Int → Int → Option (Bool)
 | 0, _, _, _, _ => none
 | k + 1, x0, x1, x5, x6 => if x5 < x6 then (if 0 ≤ (wrap64 (Int.tdiv (wrap64 (x5 + x6)) 2)) then (if (wrap64 (Int.tdiv (wrap64 (x5 + x6)) 2)) < (x0.length : Int) then (if (rd x0 (wrap64 (Int.tdiv (wrap64 (x5 + x6)) 2))) < x1 then (spec_spHas.l0 k x0 x1 (wrap64 ((wrap64 (Int.tdiv (wrap64 (x5 + x6)) 2)) + 1)) x6) else (spec_spHas.l0 k x0 x1 x5 (wrap64 (Int.tdiv (wrap64 (x5 + x6)) 2)))) else (none)) else (none)) else (if x5 < (x0.length : Int) then (if 0 ≤ x5 then (some ((rd x0 x5) == x1)) else (none)) else (some false))
def spec_spHas.f (k : Nat) (l0 : List Int) (a1 : Int) : Option (Bool) := spec_spHas.l0 k l0 a1 0 (l0.length : Int)
theorem spec_spHas.mono_l : ∀ k, (∀ y0 y1 y2 y3, LeO (spec_spHas.l0 k y0 y1 y2 y3) (spec_spHas.l0 (k + 1) y0 y1 y2 y3))
 | 0 => fun _ _ _ _ r h => by simp [spec_spHas.l0] at h
 | k + 1 => by
  have ih0 := spec_spHas.mono_l k
  ·
   intro y0 y1 y2 y3
   unfold spec_spHas.l0
   repeat' first
   | (with_reducible exact ih0 _ _ _ _)
   | (with_reducible exact LeO.refl _)
   | (with_reducible exact LeO.none _)
   | (with_reducible refine LeO.ite ?_ ?_)
   | (with_reducible refine LeO.bind ?_ (fun _ => ?_))
   | exact ih0 _ _ _ _
   | exact LeO.none _
   | refine LeO.ite ?_ ?_
   | refine LeO.bind ?_ (fun _ => ?_)
theorem spec_spHas.mono : ∀ a0 a1 k, LeO (spec_spHas.f k a0 a1) (spec_spHas.f (k + 1) a0 a1) := by
 intro a0 a1 k
 have ih0 := spec_spHas.mono_l k
 unfold spec_spHas.f
 repeat' first
   | (with_reducible exact ih0 _ _ _ _)
   | (with_reducible exact LeO.refl _)
   | (with_reducible exact LeO.none _)
   | (with_reducible refine LeO.ite ?_ ?_)
   | (with_reducible refine LeO.bind ?_ (fun _ => ?_))
   | exact ih0 _ _ _ _
   | exact LeO.none _
   | refine LeO.ite ?_ ?_
   | refine LeO.bind ?_ (fun _ => ?_)
set_option maxHeartbeats 8000000 in
set_option maxRecDepth 100000 in
theorem spec_spHas.calls (k : Nat) (A0 : Option Addr) (c0 : Nat) (l0 : List Int) (a1 : Int) (r : Bool) (w : World) (hr0 : Kd.C (Kd.int .i64) w A0 l0.length l0) (hc0 : l0.length ≤ c0) (h : spec_spHas.f k l0 a1 = some r) :
  Calls Tryd.prog 18 #[.slice A0 l0.length c0, .int .i64 a1] w fun e w' => e = .returned (.bool r) ∧ Drawn0 w w' := by
 have HR0 := asd hr0
 have HC0 := asd hc0
 clear hr0 hc0
 have H : (spec_spHas.l0 k l0 a1 0 (l0.length : Int)) = some r := h
 clear h
 have H' := asd H
 clear H
 go_enter Tryd.func18, Tryd.ntmps18
 go_wp2
 go_loopg [5, 6] k (fun kq v5 v6 w' => ∃ (x5_1 : Int) (x6_1 : Int), v5 = .int .i64 x5_1 ∧ v6 = .int .i64 x6_1 ∧ Aside0 (spec_spHas.l0 kq l0 a1 x5_1 x6_1 = some r) ∧ Aside0 (kq ≤ k) ∧ Drawn0 w w')
 case atStart => exact ⟨(0), ((l0.length : Int)), (by first | rfl | (simp; done) | (simp [*]; done)), (by first | rfl | (simp; done) | (simp [*]; done)), H', ⟨Nat.le_refl _⟩, by repeat (first | exact Drawn0.refl _ | apply Drawn0.step)⟩
 case round =>
  clear H'
  try clear c1
  try clear p2
  skip
  obtain ⟨x5_1, x6_1, rfl, rfl, HA, HK1, ⟨m1, rfl⟩⟩ := hrel
  cases gk with
  | zero => exact absurd HA.out (by simp [spec_spHas.l0])
  | succ k1 =>
   have H := HA.out
   clear HA
   simp only [spec_spHas.l0] at H
   by_cases c3 : x5_1 < x6_1
   ·
    rw [if_pos c3] at H
    have c3b0 : decide (x5_1 < x6_1) = true := decide_eq_true c3
    clear c3
    obtain ⟨ji4, hji4⟩ : ∃ j_ : Int, (wrap64 (Int.tdiv (wrap64 (x5_1 + x6_1)) 2)) = j_ := ⟨_, rfl⟩
    replace H : (if 0 ≤ (ji4) then (if (ji4) < (l0.length : Int) then (if (rd l0 (ji4)) < a1 then (spec_spHas.l0 k1 l0 a1 (wrap64 ((ji4) + 1)) x6_1) else (spec_spHas.l0 k1 l0 a1 x5_1 ji4)) else (none)) else (none)) = some r := by first | (rw [hji4] at H; exact H) | (simp only [hji4] at H ⊢; exact H)
    have hji4w : (IntKind.i64.wrap (Int.tdiv (wrap64 (x5_1 + x6_1)) 2)) = ji4 := (i64_w _).trans hji4
    by_cases c5 : 0 ≤ (ji4)
    ·
     rw [if_pos c5] at H
     have c5b0 : decide (0 ≤ (ji4)) = true := decide_eq_true c5
     clear c5
     by_cases c6 : (ji4) < (l0.length : Int)
     ·
      rw [if_pos c6] at H
      have c6b0 : decide ((ji4) < (l0.length : Int)) = true := decide_eq_true c6
      clear c6
      by_cases c7 : (rd l0 (ji4)) < a1
      ·
       rw [if_pos c7] at H
       have c7b0 : decide ((rd l0 (ji4)) < a1) = true := decide_eq_true c7
       clear c7
       have H' := asd H
       clear H
       have p101 : 0 ≤ ((ji4) : Int) := of_decide_eq_true (by first | (with_reducible assumption) | assumption)
       have q101 : (ji4) < (l0.length : Int) := of_decide_eq_true (by first | (with_reducible assumption) | assumption)
       obtain ⟨ad101, e101, hx101_0⟩ := Kd.at_int HR0.out (ji4) p101 q101
       cases e101
       replace p101 := eq_true p101
       replace q101 := eq_true q101
       go_wp2
       go_roundg k1
       case measure => have := HK1.out; omega
       case rel => exact ⟨(wrap64 ((ji4) + 1)), (x6_1), (by first | rfl | (simp; done) | (simp only [← hji4] <;> (first | rfl | simp)) | (simp [*]; done)), (by first | rfl | (simp; done) | (simp [*]; done)), H', ⟨by have := HK1.out; omega⟩, by repeat (first | exact Drawn0.refl _ | apply Drawn0.step)⟩
      ·
       rw [if_neg c7] at H
       have c7b0 : decide ((rd l0 (ji4)) < a1) = false := decide_eq_false c7
       clear c7
       have H' := asd H
       clear H
       have p101 : 0 ≤ ((ji4) : Int) := of_decide_eq_true (by first | (with_reducible assumption) | assumption)
       have q101 : (ji4) < (l0.length : Int) := of_decide_eq_true (by first | (with_reducible assumption) | assumption)
       obtain ⟨ad101, e101, hx101_0⟩ := Kd.at_int HR0.out (ji4) p101 q101
       cases e101
       replace p101 := eq_true p101
       replace q101 := eq_true q101
       go_wp2
       go_roundg k1
       case measure => have := HK1.out; omega
       case rel => exact ⟨(x5_1), (ji4), (by first | rfl | (simp; done) | (simp [*]; done)), (by first | rfl | (simp; done) | (simp only [← hji4] <;> (first | rfl | simp)) | (simp [*]; done)), H', ⟨by have := HK1.out; omega⟩, by repeat (first | exact Drawn0.refl _ | apply Drawn0.step)⟩
     ·
      rw [if_neg c6] at H
      exact absurd H (by simp)
    ·
     rw [if_neg c5] at H
     exact absurd H (by simp)
   ·
    rw [if_neg c3] at H
    have c3b0 : decide (x5_1 < x6_1) = false := decide_eq_false c3
    clear c3
    by_cases c8 : x5_1 < (l0.length : Int)
    ·
     rw [if_pos c8] at H
     have c8b0 : decide (x5_1 < (l0.length : Int)) = true := decide_eq_true c8
     clear c8
     by_cases c9 : 0 ≤ x5_1
     ·
      rw [if_pos c9] at H
      have c9b0 : decide (0 ≤ x5_1) = true := decide_eq_true c9
      clear c9
      obtain rfl := Option.some.inj H
      have p102 : 0 ≤ (x5_1 : Int) := of_decide_eq_true (by first | (with_reducible assumption) | assumption)
      have q102 : x5_1 < (l0.length : Int) := of_decide_eq_true (by first | (with_reducible assumption) | assumption)
      obtain ⟨ad102, e102, hx102_0⟩ := Kd.at_int HR0.out x5_1 p102 q102
      cases e102
      replace p102 := eq_true p102
      replace q102 := eq_true q102
      go_wp2
      go_ret
      exact ⟨by first | rfl | (simp; done) | (simp [*]; done), by repeat (first | exact Drawn0.refl _ | apply Drawn0.step)⟩
     ·
      rw [if_neg c9] at H
      exact absurd H (by simp)
    ·
     rw [if_neg c8] at H
     have c8b0 : decide (x5_1 < (l0.length : Int)) = false := decide_eq_false c8
     clear c8
     obtain rfl := Option.some.inj H
     go_wp2
     go_ret
     exact ⟨by first | rfl | (simp; done) | (simp [*]; done), by repeat (first | exact Drawn0.refl _ | apply Drawn0.step)⟩

-- HAND with spec.spHas
theorem spHas_loop (l : List Int) (x : Int) (hr : Rise l) (hlen : l.length < 4611686018427387904) : ∀ (d : Nat) (lo hi : Nat), hi - lo ≤ d → lo ≤ hi → hi ≤ l.length → (∀ i : Nat, i < lo → rd l i < x) → (∀ i : Nat, hi ≤ i → i < l.length → x ≤ rd l i) →
    Ev (fun k => spec_spHas.l0 k l x lo hi) (decide (x ∈ l)) := by
  intro d
  induction d with
  | zero =>
    intro lo hi hd hle hhi hL hH
    obtain rfl : lo = hi := by omega
    have hm := hr.mem_iff x lo (fun i h _ => hL i h) hH
    by_cases h1 : (lo : Int) < l.length
    · refine Ev.succ (fun k => by simp only [spec_spHas.l0]; rw [if_neg (by omega), if_pos h1, if_pos (by omega)]) (Ev.const (congrArg some ?_))
      rw [Bool.eq_iff_iff, decide_eq_true_eq, hm, beq_iff_eq]
      exact ⟨fun h => ⟨by omega, h⟩, fun h => h.2⟩
    · refine Ev.succ (fun k => by simp only [spec_spHas.l0]; rw [if_neg (by omega), if_neg h1]) (Ev.const (congrArg some ?_))
      rw [Bool.eq_iff_iff, decide_eq_true_eq, hm]
      simp
      omega
  | succ d ih =>
    intro lo hi hd hle hhi hL hH
    by_cases heq : lo = hi
    · exact ih lo hi (by omega) hle hhi hL hH
    · have hw : wrap64 ((lo : Int) + hi) = lo + hi := wrap_in (by omega) (by omega)
      have hm : wrap64 (Int.tdiv (wrap64 ((lo : Int) + hi)) 2) = (((lo + hi) / 2 : Nat) : Int) := by
        rw [hw, show ((lo : Int) + hi) = ((lo + hi : Nat) : Int) by push_cast; rfl]
        rw [show Int.tdiv ((lo + hi : Nat) : Int) 2 = (((lo + hi) / 2 : Nat) : Int) from rfl]
        exact wrap_in (by omega) (by omega)
      obtain ⟨m, hmd⟩ : ∃ m, m = (lo + hi) / 2 := ⟨_, rfl⟩
      rw [← hmd] at hm
      by_cases hc : rd l (m : Int) < x
      · refine Ev.succ (fun k => by simp only [spec_spHas.l0]; rw [if_pos (by omega), hm, if_pos (by omega), if_pos (by omega), if_pos hc, wrap_succ (by omega) (by omega)]) ?_
        have := ih (m + 1) hi (by omega) (by omega) hhi (fun i hi' => ?_) hH
        · push_cast at this
          exact this
        · rcases Nat.lt_or_ge i m with h | h
          · have := hr i m h (by omega)
            omega
          · obtain rfl : i = m := by omega
            exact hc
      · refine Ev.succ (fun k => by simp only [spec_spHas.l0]; rw [if_pos (by omega), hm, if_pos (by omega), if_pos (by omega), if_neg hc]) ?_
        refine ih lo m (by omega) (by omega) (by omega) hL (fun i h1 h2 => ?_)
        rcases Nat.lt_or_ge m i with h | h
        · have := hr m i h h2
          omega
        · obtain rfl : i = m := by omega
          omega
theorem spHas_ok {l : List Int} (hr : Rise l) (hlen : l.length < 4611686018427387904) (x : Int) : Ev (fun k => spec_spHas.f k l x) (decide (x ∈ l)) := by
  have := spHas_loop l x hr hlen l.length 0 l.length (by omega) (by omega) (Nat.le_refl _) (fun i h => absurd h (Nat.not_lt_zero _)) (fun i h1 h2 => by omega)
  exact this

end Go.Proofs.YtaommmdeikojpaaDoor.Q
