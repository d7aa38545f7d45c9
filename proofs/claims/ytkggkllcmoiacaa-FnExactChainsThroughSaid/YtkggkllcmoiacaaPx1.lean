/- Contracts of functions that the laws reach: a call returns what the plain Lean function of the same name tells. Conditions: those of each theorem. Made by gen.py, a program of this session, over the print of the translation. -/
import Derived.Test.YtkggkllcmoiacaaPx0
namespace Go.Proofs.Ytkggkllcmoiacaa.Q
open Go.RowKit Go.Proofs.YtkggkllcmoiacaaW.PrintWords Go.Proofs.YtkggkllcmoiacaaW.PrintLast Go.Proofs.YtkggkllcmoiacaaW.PrintMore
attribute [local go_sem] max2_int min2_int max_two min_two max_three min_three max_four min_four   -- for this text's walks alone
set_option linter.unusedVariables false
set_option linter.unusedSimpArgs false

-- HAND lib bits
theorem wrap_nat (n : Nat) (h : n < 9223372036854775808) : IntKind.i64.wrap (n : Int) = n := by
  unfold IntKind.wrap IntKind.bits IntKind.signed
  simp only [Bool.true_and, decide_eq_true_eq]
  have : ((n : Int) % 2 ^ 64) = n := by omega
  rw [this]
  split <;> omega
theorem ofInt_nat (n : Nat) : BitVec.ofInt 64 (n : Int) = BitVec.ofNat 64 n := by simp
theorem toNat64 (n : Nat) (h : n < 9223372036854775808) : (BitVec.ofNat 64 n).toNat = n := by simp; omega
theorem bits_or (a b : Nat) (ha : a < 9223372036854775808) (hb : b < 9223372036854775808) : Go.bits .or .i64 (a : Int) (b : Int) = ((a ||| b : Nat) : Int) := by
  show IntKind.i64.wrap ((BitVec.ofInt 64 (a : Int) ||| BitVec.ofInt 64 (b : Int)).toNat : Int) = _
  rw [ofInt_nat, ofInt_nat, BitVec.toNat_or, toNat64 a ha, toNat64 b hb]
  exact wrap_nat _ (Nat.or_lt_two_pow (n := 63) ha hb)
theorem bits_and (a b : Nat) (ha : a < 9223372036854775808) (hb : b < 9223372036854775808) : Go.bits .and .i64 (a : Int) (b : Int) = ((a &&& b : Nat) : Int) := by
  show IntKind.i64.wrap ((BitVec.ofInt 64 (a : Int) &&& BitVec.ofInt 64 (b : Int)).toNat : Int) = _
  rw [ofInt_nat, ofInt_nat, BitVec.toNat_and, toNat64 a ha, toNat64 b hb]
  exact wrap_nat _ (Nat.lt_of_le_of_lt Nat.and_le_left ha)
theorem bits_xor (a b : Nat) (ha : a < 9223372036854775808) (hb : b < 9223372036854775808) : Go.bits .xor .i64 (a : Int) (b : Int) = ((a ^^^ b : Nat) : Int) := by
  show IntKind.i64.wrap ((BitVec.ofInt 64 (a : Int) ^^^ BitVec.ofInt 64 (b : Int)).toNat : Int) = _
  rw [ofInt_nat, ofInt_nat, BitVec.toNat_xor, toNat64 a ha, toNat64 b hb]
  exact wrap_nat _ (Nat.xor_lt_two_pow (n := 63) ha hb)
/-- What a has and b has not. -/
def nd (a b : Nat) : Nat := a ^^^ (a &&& b)
theorem nd_testBit (a b i : Nat) : (nd a b).testBit i = (a.testBit i && !b.testBit i) := by
  simp only [nd, Nat.testBit_xor, Nat.testBit_and]
  cases a.testBit i <;> cases b.testBit i <;> rfl
theorem nd_lt {a b n : Nat} (h : a < 2 ^ n) : nd a b < 2 ^ n := Nat.xor_lt_two_pow h (Nat.lt_of_le_of_lt Nat.and_le_left h)
theorem bits_nd (a b : Nat) (ha : a < 9223372036854775808) (hb : b < 9223372036854775808) : Go.bits .andNot .i64 (a : Int) (b : Int) = ((nd a b : Nat) : Int) := by
  show IntKind.i64.wrap ((BitVec.ofInt 64 (a : Int) &&& ~~~ BitVec.ofInt 64 (b : Int)).toNat : Int) = _
  rw [ofInt_nat, ofInt_nat]
  have h : (BitVec.ofNat 64 a &&& ~~~ BitVec.ofNat 64 b).toNat = nd a b := by
    apply Nat.eq_of_testBit_eq
    intro i
    rw [nd_testBit, BitVec.testBit_toNat, BitVec.getLsbD_and, BitVec.getLsbD_not, ← BitVec.testBit_toNat, ← BitVec.testBit_toNat, toNat64 a ha, toNat64 b hb]
    by_cases hi : i < 64
    · simp [hi]
    · have : a.testBit i = false := Nat.testBit_lt_two_pow (Nat.lt_of_lt_of_le ha (Nat.le_trans (by decide) (Nat.pow_le_pow_right (by decide) (Nat.le_of_not_lt hi))))
      simp [this]
  rw [h]
  exact wrap_nat _ (nd_lt (n := 63) ha)
theorem pow_lt63 (i : Nat) (h : i < 63) : 2 ^ i < 9223372036854775808 := Nat.pow_lt_pow_right (by decide) h
theorem shl_one (i : Nat) (h : i < 63) : shl .i64 1 (i : Int) = ((2 ^ i : Nat) : Int) := by
  unfold shl
  rw [Int.toNat_natCast, Nat.min_eq_left (show i ≤ IntKind.i64.bits from show i ≤ 64 by omega), Int.one_mul]
  exact (by simpa using wrap_nat (2 ^ i) (pow_lt63 i h))
theorem wrap_pow (i : Nat) (h : i < 63) : IntKind.i64.wrap (2 ^ i : Int) = ((2 ^ i : Nat) : Int) := by simpa using wrap_nat (2 ^ i) (pow_lt63 i h)
theorem shr_nat (a i : Nat) (h : i < 64) : shr .i64 (a : Int) (i : Int) = ((a / 2 ^ i : Nat) : Int) := by
  unfold shr
  rw [Int.toNat_natCast, Nat.min_eq_left (show i ≤ IntKind.i64.bits from show i ≤ 64 by omega)]
  simp
theorem bit_and (a i : Nat) (h : a < 9223372036854775808) : Go.bits .and .i64 ((a / 2 ^ i : Nat) : Int) 1 = if a.testBit i then 1 else 0 := by
  have e := bits_and (a / 2 ^ i) 1 (Nat.lt_of_le_of_lt (Nat.div_le_self _ _) h) (by decide)
  rw [show ((1 : Nat) : Int) = 1 from rfl] at e
  rw [e, Nat.and_one_is_mod, Nat.testBit_eq_decide_div_mod_eq]
  have := Nat.mod_two_eq_zero_or_one (a / 2 ^ i)
  rcases this with h | h <;> simp [h]

/-- The items of a set, as numbers. -/
def itemsN (x : Nat) : List Nat := [0, 1, 2, 3, 4, 5, 6].filter fun i => x.testBit i
def itemsL (x : Int) : List Int := (itemsN x.toNat).map fun (i : Nat) => (i : Int)
theorem itemsN_lt {x i : Nat} (h : i ∈ itemsN x) : i < 7 := by
  simp [itemsN] at h
  omega
theorem itemsN_bit {x i : Nat} (h : i ∈ itemsN x) : x.testBit i = true := by
  simp only [itemsN, List.mem_filter] at h
  exact h.2
/-- Bit by bit below 7, a number that tells where something holds. -/
def maskOf (p : Nat → Bool) : Nat := [0, 1, 2, 3, 4, 5, 6].foldl (fun a i => if p i then a ||| 2 ^ i else a) 0
theorem orFold_lt (p : Nat → Bool) : ∀ (l : List Nat) (a : Nat), (∀ i ∈ l, i < 7) → a < 128 → l.foldl (fun a i => if p i then a ||| 2 ^ i else a) a < 128
  | [], a, _, h => h
  | i :: l, a, hl, h => by
    have hi := hl i (by simp)
    refine orFold_lt p l _ (fun j hj => hl j (by simp [hj])) ?_
    show (if p i = true then a ||| 2 ^ i else a) < 128
    split
    · exact Nat.or_lt_two_pow (n := 7) h (Nat.pow_lt_pow_right (by decide) hi)
    · exact h
theorem orFold_bit (p : Nat → Bool) (j : Nat) : ∀ (l : List Nat) (a : Nat), (l.foldl (fun a i => if p i then a ||| 2 ^ i else a) a).testBit j = (a.testBit j || (decide (j ∈ l) && p j))
  | [], a => by simp
  | i :: l, a => by
    rw [List.foldl_cons, orFold_bit p j l]
    by_cases e : j = i
    · subst e
      by_cases hp : p j = true
      · simp [hp, Nat.testBit_or, Nat.testBit_two_pow]
      · simp [hp]
    · have e' : ¬ i = j := fun h => e h.symm
      by_cases hp : p i = true
      · simp [hp, Nat.testBit_or, Nat.testBit_two_pow, e, e']
      · simp [hp, e]
theorem maskOf_bit (p : Nat → Bool) (j : Nat) (h : j < 7) : (maskOf p).testBit j = p j := by
  have : j ∈ [0, 1, 2, 3, 4, 5, 6] := by simp; omega
  simp only [maskOf, orFold_bit, this]
  simp
theorem maskOf_lt (p : Nat → Bool) : maskOf p < 128 := orFold_lt p _ _ (by simp) (by decide)
theorem itemsFold (p : Nat → Bool) (x : Nat) : (itemsN x).foldl (fun a i => if p i then a ||| 2 ^ i else a) 0 = maskOf (fun i => x.testBit i && p i) := by
  apply Nat.eq_of_testBit_eq
  intro j
  simp only [maskOf, orFold_bit, itemsN, List.mem_filter]
  cases x.testBit j <;> simp
/-- What a walk knows of '1 << i'. -/
theorem shl_ways {i j : Int} (h : shl .i64 1 i = j) (hle : i ≤ 64) :
    (IntKind.i64.wrap (1 * 2 ^ min i.toNat 64)) = j ∧ (IntKind.i64.wrap (1 * 2 ^ i.toNat)) = j ∧ (IntKind.i64.wrap (2 ^ min i.toNat 64)) = j ∧ (IntKind.i64.wrap (2 ^ i.toNat)) = j ∧ (wrap64 (1 * 2 ^ min i.toNat 64)) = j ∧ (wrap64 (1 * 2 ^ i.toNat)) = j ∧ (wrap64 (2 ^ min i.toNat 64)) = j ∧ (wrap64 (2 ^ i.toNat)) = j := by
  have h1 : (IntKind.i64.wrap (1 * 2 ^ min i.toNat 64)) = j := h
  have h2 : (IntKind.i64.wrap (1 * 2 ^ i.toNat)) = j := shl_small h hle
  have h3 := h1
  have h4 := h2
  rw [Int.one_mul] at h3 h4
  exact ⟨h1, h2, h3, h4, (i64_w _).symm.trans h1, (i64_w _).symm.trans h2, (i64_w _).symm.trans h3, (i64_w _).symm.trans h4⟩
theorem shl_nat {i : Int} (h0 : 0 ≤ i) (h1 : i < 63) : shl .i64 1 i = ((2 ^ i.toNat : Nat) : Int) := by
  obtain ⟨n, rfl⟩ := Int.eq_ofNat_of_zero_le h0
  rw [shl_one n (by omega), Int.toNat_natCast]
theorem lt63 {n : Nat} (h : n < 128) : n < 9223372036854775808 := by omega
theorem pow_lt128 {i : Int} (h0 : 0 ≤ i) (h1 : i < 7) : 2 ^ i.toNat < 128 := show 2 ^ i.toNat < 2 ^ 7 from Nat.pow_lt_pow_right (by decide) (by omega)
/-- The same of whole numbers below 128. -/
def I128 (x : Int) : Prop := 0 ≤ x ∧ x < 128
theorem and_int {x y : Int} (hx : I128 x) (hy : I128 y) : Go.bits .and .i64 x y = ((x.toNat &&& y.toNat : Nat) : Int) := by
  obtain ⟨x0, x1⟩ := hx
  obtain ⟨y0, y1⟩ := hy
  have := bits_and x.toNat y.toNat (by omega) (by omega)
  rwa [show ((x.toNat : Nat) : Int) = x by omega, show ((y.toNat : Nat) : Int) = y by omega] at this
theorem nd_int {x y : Int} (hx : I128 x) (hy : I128 y) : Go.bits .andNot .i64 x y = ((nd x.toNat y.toNat : Nat) : Int) := by
  obtain ⟨x0, x1⟩ := hx
  obtain ⟨y0, y1⟩ := hy
  have := bits_nd x.toNat y.toNat (by omega) (by omega)
  rwa [show ((x.toNat : Nat) : Int) = x by omega, show ((y.toNat : Nat) : Int) = y by omega] at this
theorem or_int {x y : Int} (hx : I128 x) (hy : I128 y) : Go.bits .or .i64 x y = ((x.toNat ||| y.toNat : Nat) : Int) := by
  obtain ⟨x0, x1⟩ := hx
  obtain ⟨y0, y1⟩ := hy
  have := bits_or x.toNat y.toNat (by omega) (by omega)
  rwa [show ((x.toNat : Nat) : Int) = x by omega, show ((y.toNat : Nat) : Int) = y by omega] at this
theorem and_i128 {x y : Int} (hx : I128 x) : I128 ((x.toNat &&& y.toNat : Nat) : Int) := by
  obtain ⟨x0, x1⟩ := hx
  have : x.toNat &&& y.toNat ≤ x.toNat := Nat.and_le_left
  exact ⟨Int.natCast_nonneg _, by omega⟩
theorem nd_i128 {x y : Int} (hx : I128 x) : I128 ((nd x.toNat y.toNat : Nat) : Int) := by
  obtain ⟨x0, x1⟩ := hx
  have : nd x.toNat y.toNat < 2 ^ 7 := nd_lt (by omega)
  exact ⟨Int.natCast_nonneg _, by omega⟩
theorem or_i128 {x y : Int} (hx : I128 x) (hy : I128 y) : I128 ((x.toNat ||| y.toNat : Nat) : Int) := by
  obtain ⟨x0, x1⟩ := hx
  obtain ⟨y0, y1⟩ := hy
  have : x.toNat ||| y.toNat < 2 ^ 7 := Nat.or_lt_two_pow (by omega) (by omega)
  exact ⟨Int.natCast_nonneg _, by omega⟩
theorem calls_cut {P : Program} {f : FuncId} {l : List Int} {j : Int} {A : Option Addr} {c : Nat} {v : Value} {w : World} {Q : Ending → World → Prop} (h0 : 0 ≤ j) (hm : j ≤ l.length) (h : Calls P f #[.slice A (l.take j.toNat).length c, v] w Q) : Calls P f #[.slice A j.toNat c, v] w Q := by
  rwa [List.length_take, Nat.min_eq_left (by omega)] at h

-- HAND lib family
/-- A block that holds a family. -/
structure FamAt (w : World) (b : Nat) (F : List Bool) : Prop where
  len : F.length = 128
  blk : w.heap[b]? = some (.cells (F.map Value.bool).toArray 62 (0, 0))

def famOf (l : List Int) : List Bool := (List.range 128).map fun (i : Nat) => decide ((i : Int) ∈ l)
theorem famOf_length (l : List Int) : (famOf l).length = 128 := by simp [famOf]
theorem zeroFam : Try.zeroCells62 = ((famOf []).map Value.bool).toArray := by kernel_rfl
theorem FamAt.lt {w : World} {b : Nat} {F : List Bool} (h : FamAt w b F) : b < w.heap.size := blk_lt h.blk
theorem FamAt.below {w w' : World} {b : Nat} {F : List Bool} (h : FamAt w b F) (hb : Below w.heap.size w w') : FamAt w' b F := ⟨h.len, (hb.block b h.lt).trans h.blk⟩
theorem FamAt.at_ {w : World} {b : Nat} {F : List Bool} (h : FamAt w b F) (i : Int) (h0 : 0 ≤ i) (h1 : i < 128) : w.cell? ⟨b, i.toNat, none⟩ = some (.bool (F.getD i.toNat false)) := by
  rw [blk_cell h.blk]
  have hl := h.len
  have : i.toNat < F.length := by omega
  simp [List.getElem?_map, List.getD, this]
theorem FamAt.fr {w : World} {b : Nat} {F : List Bool} (h : FamAt w b F) (i : Nat) : w.frozen? ⟨b, i, none⟩ = false := blk_frozen h.blk i
theorem FamAt.set {w : World} {b : Nat} {F : List Bool} (h : FamAt w b F) (i : Nat) (v : Bool) : FamAt (w.setCell ⟨b, i, none⟩ (.bool v)) b (F.set i v) := by
  refine ⟨by simp [h.len], ?_⟩
  rw [blk_set h.blk]
  simp [List.map_set]
theorem FamAt.far {w : World} {b : Nat} {F : List Bool} (h : FamAt w b F) {p : Addr} (hp : b ≠ p.block) (u : Value) : FamAt (w.setCell p u) b F := ⟨h.len, blk_far h.blk hp u⟩
theorem FamAt.new (w : World) (F : List Bool) (hF : F.length = 128) : FamAt (w.alloc (.cells (F.map Value.bool).toArray 62)) w.heap.size F := ⟨hF, heap_alloc_new w _⟩
theorem FamAt.alloc {w : World} {b : Nat} {F : List Bool} (h : FamAt w b F) (o : Obj) : FamAt (w.alloc o) b F := h.below (below_alloc (Below.refl _ _) o)
theorem FamAt.drewN {w : World} {b : Nat} {F : List Bool} (h : FamAt w b F) (n : Nat) : FamAt (w.drewN n) b F := h.below (pw_below_drewN (Below.refl _ _) n)
theorem famOf_get (l : List Int) (i : Nat) (hi : i < 128) : (famOf l).getD i false = decide ((i : Int) ∈ l) := by simp [famOf, List.getD, hi]
theorem famOf_snoc (l : List Int) (x : Int) (h0 : 0 ≤ x) : (famOf l).set x.toNat true = famOf (l ++ [x]) := by
  apply List.ext_getElem?
  intro j
  by_cases hj : j < 128
  · by_cases e : x.toNat = j
    · have : (j : Int) = x := by omega
      simp [famOf, List.getElem?_set, e, hj, this]
    · have : ¬ (j : Int) = x := by omega
      simp [famOf, List.getElem?_set, e, hj, this]
  · simp [famOf, List.getElem?_set, hj]
theorem rd_mem {l : List Int} {i : Int} (h0 : 0 ≤ i) (h1 : i < l.length) : rd l i ∈ l := by
  have : i.toNat < l.length := by omega
  simp [rd, List.getD, this]
theorem take_rd (l : List Int) (k : Nat) (h : k < l.length) : l.take (k + 1) = l.take k ++ [rd l k] := by
  rw [List.take_succ_eq_append_getElem h]
  simp [rd, List.getD, h]

/-- The fringes of a set in a family. -/
def innerF (F : List Bool) (x : Nat) : Nat := maskOf fun i => x.testBit i && F.getD (nd x (2 ^ i)) false
def outerF (F : List Bool) (x : Nat) : Nat := maskOf fun i => !x.testBit i && F.getD (x ||| 2 ^ i) false

-- HAND lib famc
/-- A family that is read at an address. -/
structure FamC (w : World) (ad : Addr) (F : List Bool) : Prop where
  len : F.length = 128
  at_ : ∀ i : Int, 0 ≤ i → i < 128 → w.cell? (ad.add i.toNat) = some (.bool (F.getD i.toNat false))
theorem FamC.below {w w' : World} {ad : Addr} {F : List Bool} (h : FamC w ad F) (hb : Below w.heap.size w w') : FamC w' ad F := ⟨h.len, fun i h0 h1 => pw_cell_below hb (h.at_ i h0 h1)⟩
theorem FamC.drewN {w : World} {ad : Addr} {F : List Bool} (h : FamC w ad F) (n : Nat) : FamC (w.drewN n) ad F := h.below (pw_below_drewN (Below.refl _ _) n)
theorem FamAt.c {w : World} {b : Nat} {F : List Bool} (h : FamAt w b F) : FamC w ⟨b, 0, none⟩ F := ⟨h.len, fun i h0 h1 => by
  have := h.at_ i h0 h1
  by_cases e : i.toNat = 0
  · rw [e] at this ⊢; exact this
  · simpa [Addr.add, e] using this⟩
theorem FamC.of_reads {w : World} {A : Option Addr} {F : List Bool} (h : Kd.C Kd.bool w A F.length F) (hl : F.length = 128) : ∃ ad, A = some ad ∧ FamC w ad F := by
  obtain ⟨ad, e, _⟩ := Kd.at_bool h 0 (by omega) (by omega)
  subst e
  refine ⟨ad, rfl, hl, fun i h0 h1 => ?_⟩
  obtain ⟨ad', e, hc⟩ := Kd.at_bool h i h0 (by omega)
  cases e
  exact hc
/-- The pointer to what a slice tells. -/
@[reducible] def ptrOf (v : Value) : Value := match v with
  | .slice a _ _ => .pointer a
  | v => v
theorem ptrOf_slice (A : Option Addr) (n c : Nat) : ptrOf (.slice A n c) = .pointer A := rfl
theorem FamAt.own {w : World} {b base : Nat} {F : List Bool} (h : FamAt w b F) (hb : base ≤ b) : Kd.R Kd.bool 62 w base (fun _ => True) (.slice (some ⟨b, 0, none⟩) F.length 128) F := by
  refine Kd.R_of_own ?_ (fun _ _ => trivial)
  refine ⟨by simp [encs], .inr ⟨b, 128, _, rfl, hb, h.blk, by rw [h.len]; exact Nat.le_refl _, by decide, by simp [h.len], ?_⟩⟩
  simp [encs, h.len]
  exact List.take_of_length_le (by simp [h.len])
theorem fam_lit {P : Program} {ops : Array Oper} {o : Oper} {rest : List Oper} {a : Act} {Q : Exit → Act → World → Prop} {W : World} (hgd : o.guard = none) {N : Tmp} (_hd : o.dst = some N)
    (hrun : (execOp a.eval o).run P W = .ok (.value (.pointer (some ⟨W.heap.size, 0, none⟩))) (W.alloc (.cells Try.zeroCells62 62 (0, 0))))
    (h : ∀ v1 w1, Kd.R Kd.bool 62 w1 W.heap.size (fun _ => True) v1 (List.replicate 128 false) → Below W.heap.size W w1 → W.grownBy w1 none → (∃ b, v1.ownBlock = some b ∧ W.heap.size ≤ b) → wpList P ops Q rest (a.put o.dst (ptrOf v1)) w1) : wpList P ops Q (o :: rest) a W := by
  have e0 : famOf [] = List.replicate 128 false := by kernel_rfl
  have hF : FamAt (W.alloc (.cells Try.zeroCells62 62 (0, 0))) W.heap.size (List.replicate 128 false) := by
    have := FamAt.new W (famOf []) (famOf_length _)
    rw [← zeroFam, e0] at this
    exact this
  refine Kd.event_run hgd hrun (h _ _ (hF.own (Nat.le_refl _)) (below_alloc (Below.refl _ _) _) (World.grownBy_alloc W _ none) ⟨W.heap.size, rfl, Nat.le_refl _⟩)

-- HAND lib evs
theorem Ev.succ {α : Type} {l g : Nat → Option α} {r : α} (h : ∀ k, l (k + 1) = g k) (hg : Ev g r) : Ev l r := by
  obtain ⟨K, hK⟩ := hg
  refine ⟨K + 1, fun k hk => ?_⟩
  obtain ⟨m, rfl⟩ : ∃ m, k = m + 1 := ⟨k - 1, by omega⟩
  rw [h, hK m (by omega)]
theorem Ev.to {α : Type} {g f : Nat → Option α} {r : α} (h : ∀ k, f k = g k) (hg : Ev g r) : Ev f r := by
  obtain ⟨K, hK⟩ := hg
  exact ⟨K, fun k hk => (h k).trans (hK k hk)⟩
theorem Ev.val {α : Type} {g : Nat → Option α} {r q : α} (hg : Ev g r) (e : r = q) : Ev g q := e ▸ hg
theorem Ev.const {α : Type} {o : Option α} {r : α} (h : o = some r) : Ev (fun _ => o) r := ⟨0, fun _ _ => h⟩
theorem Ev.bindc {α β : Type} {o : Option α} {f : Nat → α → Option β} {a : α} {r : β} (h : o = some a) (k : Ev (fun n => f n a) r) : Ev (fun n => o.bind (f n)) r := by
  subst h
  exact k
theorem wrap_succ {i : Int} (h0 : -1 ≤ i) (h : i < 9223372036854775807) : wrap64 (i + 1) = i + 1 := by
  unfold wrap64
  omega
theorem wrap_in {i : Int} (h0 : -9223372036854775808 ≤ i) (h : i ≤ 9223372036854775807) : wrap64 i = i := by
  unfold wrap64
  omega
theorem rd_get {l : List Int} {i : Nat} (h : i < l.length) : rd l (i : Int) = l[i] := by simp [rd, List.getD, h]
/-- Increasing. -/
def Rise (l : List Int) : Prop := ∀ i j : Nat, i < j → j < l.length → rd l i < rd l j
theorem Rise.mem_iff {l : List Int} (h : Rise l) (x : Int) (p : Nat) (hlo : ∀ i : Nat, i < p → i < l.length → rd l i < x) (hhi : ∀ i : Nat, p ≤ i → i < l.length → x ≤ rd l i) :
    (x ∈ l) ↔ (p < l.length ∧ rd l p = x) := by
  constructor
  · intro hx
    obtain ⟨i, hi, rfl⟩ := List.getElem_of_mem hx
    rw [← rd_get hi]
    have hle : p ≤ i := by
      rcases Nat.lt_or_ge i p with hlt | hge
      · have := hlo i hlt hi
        rw [rd_get hi] at this
        omega
      · exact hge
    rcases Nat.lt_or_ge p i with hlt | hge
    · have h1 := hhi p (Nat.le_refl _) (by omega)
      have h2 := h p i hlt hi
      rw [rd_get hi] at h2
      omega
    · obtain rfl : p = i := by omega
      exact ⟨hi, rfl⟩
  · rintro ⟨hp, rfl⟩
    exact rd_mem (by omega) (by omega)

-- HAND lib space
theorem Kd.at_rows {w : World} {A : Option Addr} {n e : Nat} {xs : List (List Int)} (h : Kd.C (Kd.slice e (Kd.int .i64)) w A n xs) (i : Int) (h0 : 0 ≤ i) (h1 : i < n) : ∃ ad A0 c0, A = some ad ∧ w.cell? (ad.add i.toNat) = some (.slice A0 (xs.getD i.toNat []).length c0) ∧ (xs.getD i.toNat []).length ≤ c0 ∧ (Kd.int .i64).C w A0 (xs.getD i.toNat []).length (xs.getD i.toNat []) := by
  obtain ⟨ad, c, e, _, hK, hc0⟩ := Kd.C_get h ([] : List Int) i h0 h1
  have hc : ∀ j u, c[j]? = some u → w.cell? (ad.add (i.toNat * 1 + j)) = some u := hc0
  obtain ⟨A0, c0, rfl, l0, g0⟩ := hK
  exact ⟨ad, A0, c0, e, by have hq := hc 0 _ rfl; rwa [Nat.mul_one, Nat.add_zero] at hq, l0, g0⟩
/-- Is the entry i in range, and behind the one before it? -/
def okAt (n : Int) (l : List Int) (i : Int) : Bool := decide (0 ≤ rd l i) && decide (rd l i < 2 ^ n.toNat) && (decide (i = 0) || decide (rd l (i - 1) < rd l i))
def risingB (n : Int) (l : List Int) : Bool := (List.range l.length).all fun (i : Nat) => okAt n l i
def unionRow (F : List Bool) (l : List Int) (x : Int) : Bool := l.all fun y => F.getD (x.toNat ||| y.toNat) false
def unionsB (F : List Bool) (l : List Int) : Bool := l.all fun x => (decide (x = 0) || !decide (innerF F x.toNat = 0)) && unionRow F l x
/-- Is it a space? -/
def isSpaceB (n : Int) (l : List Int) : Bool :=
  decide (1 ≤ n) && decide (n ≤ 7) && decide ((l.length : Int) ≤ 2 ^ n.toNat) && risingB n l && (famOf l).getD 0 false && (famOf l).getD (2 ^ n.toNat - 1) false && unionsB (famOf l) l
theorem pow128 {n : Int} (h0 : 0 ≤ n) (h1 : n ≤ 7) : (2 : Int) ^ n.toNat ≤ 128 ∧ 1 ≤ (2 : Int) ^ n.toNat := by
  have h : 2 ^ n.toNat ≤ 2 ^ 7 := Nat.pow_le_pow_right (by decide) (by omega)
  have h2 : 0 < 2 ^ n.toNat := Nat.pow_pos (by decide)
  constructor
  · exact_mod_cast h
  · exact_mod_cast h2
theorem risingB_mem {n : Int} {l : List Int} (h : risingB n l = true) {x : Int} (hx : x ∈ l) : 0 ≤ x ∧ x < 2 ^ n.toNat := by
  obtain ⟨i, hi, rfl⟩ := List.getElem_of_mem hx
  simp only [risingB, List.all_eq_true, List.mem_range] at h
  have := h i hi
  simp only [okAt, Bool.and_eq_true, decide_eq_true_eq] at this
  have e : rd l (i : Int) = l[i] := by simp [rd, List.getD, hi]
  rw [e] at this
  exact this.1
/-- The box of a space that came in. -/
structure SpBox (w W : World) (g : Nat) (a0 : Int) (A : Option Addr) (n c : Nat) : Prop where
  new : w.heap.size ≤ g
  bel : Below w.heap.size w W
  c0 : W.cell? ⟨g, 0, none⟩ = some (.int .i64 a0)
  c1 : W.cell? ⟨g, 1, none⟩ = some (.slice A n c)
theorem SpBox.next {w W W' : World} {g : Nat} {a0 : Int} {A : Option Addr} {n c : Nat} (h : SpBox w W g a0 A n c) (hb : Below W.heap.size W W') : SpBox w W' g a0 A n c :=
  ⟨h.new, below_step h.bel hb, pw_cell_below hb h.c0, pw_cell_below hb h.c1⟩
theorem below_since {W W2 : World} {n : Nat} (h : Below (W.drewN n).heap.size (W.drewN n) W2) : Below W.heap.size W W2 := ⟨h.os, h.tape, h.output, h.size, h.block⟩
theorem below_since1 {W W2 : World} (h : Below W.drew.heap.size W.drew W2) : Below W.heap.size W W2 := ⟨h.os, h.tape, h.output, h.size, h.block⟩
theorem SpBox.rebase {w W1 W : World} {g : Nat} {a0 : Int} {A : Option Addr} {n c : Nat} (h : SpBox W1 W g a0 A n c) (hb : Below w.heap.size w W1) : SpBox w W g a0 A n c :=
  ⟨Nat.le_trans hb.size h.new, below_step hb h.bel, h.c0, h.c1⟩
theorem SpBox.mk_ {w W : World} {g : Nat} {a0 : Int} {A : Option Addr} {n c : Nat} {t : TypeId} (hg : g = w.heap.size) (hbox : W.heap[g]? = some (.cells #[.int .i64 a0, .slice A n c] t (0, 0))) (hb : Below w.heap.size w W) : SpBox w W g a0 A n c :=
  ⟨by omega, hb, (blk_cell hbox 0).trans rfl, (blk_cell hbox 1).trans rfl⟩
theorem toNat_pow {n m : Int} (h : m = 2 ^ n.toNat - 1) : 2 ^ n.toNat - 1 = m.toNat := by
  have e : ((2 ^ n.toNat : Nat) : Int) = (2 : Int) ^ n.toNat := by push_cast; rfl
  omega
def unionItem (F : List Bool) (l : List Int) (x : Int) : Bool := (decide (x = 0) || !decide (innerF F x.toNat = 0)) && unionRow F l x
theorem all_not {P : Int → Bool} {l : List Int} {x : Int} (hx : x ∈ l) (hb : P x = false) : l.all P = false := by
  rw [Bool.eq_false_iff]
  intro hc
  rw [List.all_eq_true] at hc
  rw [hc x hx] at hb
  cases hb
/-- Does it hold of all ahead of the index i? -/
def allTo (P : Int → Bool) (l : List Int) (i : Int) : Bool := (l.take i.toNat).all P
theorem allTo_zero (P : Int → Bool) (l : List Int) : allTo P l 0 = true := rfl
theorem allTo_succ (P : Int → Bool) (l : List Int) (i : Int) (h0 : 0 ≤ i) (h1 : i < l.length) : allTo P l (i + 1) = (allTo P l i && P (rd l i)) := by
  have h := take_rd l i.toNat (by omega)
  unfold allTo
  rw [show (i + 1).toNat = i.toNat + 1 by omega, h, List.all_append, show ((i.toNat : Nat) : Int) = i by omega]
  simp
theorem allTo_end (P : Int → Bool) (l : List Int) (i : Int) (h : i = l.length) : allTo P l i = l.all P := by
  unfold allTo
  rw [h, Int.toNat_natCast, List.take_length]
theorem i64_w' (n : Int) : wrap64 n = IntKind.i64.wrap n := (i64_w n).symm
theorem wrapPow {n : Int} (h0 : 0 ≤ n) (h1 : n ≤ 7) : wrap64 (shl .i64 1 n - 1) = 2 ^ n.toNat - 1 := by
  have hp := pow128 h0 h1
  rw [shl_nat h0 (by omega)]
  push_cast
  unfold wrap64
  omega
theorem xor_bit {x i : Nat} (h : x.testBit i = true) : x ^^^ 2 ^ i = nd x (2 ^ i) := by
  apply Nat.eq_of_testBit_eq
  intro j
  rw [nd_testBit, Nat.testBit_xor, Nat.testBit_two_pow]
  by_cases e : i = j
  · subst e; simp [h]
  · simp [e]
theorem famOf_getD (l : List Int) (i : Nat) (hi : i < 128) : (famOf l).getD i false = decide ((i : Int) ∈ l) := famOf_get l i hi
def innK (F : List Bool) (x k : Nat) : Nat := (List.range k).foldl (fun a i => if (x.testBit i && F.getD (nd x (2 ^ i)) false) = true then a ||| 2 ^ i else a) 0
theorem innK_succ (F : List Bool) (x k : Nat) : innK F x (k + 1) = if (x.testBit k && F.getD (nd x (2 ^ k)) false) = true then innK F x k ||| 2 ^ k else innK F x k := by
  simp only [innK, List.range_succ, List.foldl_append, List.foldl_cons, List.foldl_nil]
theorem innK_7 (F : List Bool) (x : Nat) : innK F x 7 = innerF F x := rfl
theorem innK_lt (F : List Bool) (x k : Nat) (h : k ≤ 7) : innK F x k < 128 := orFold_lt (fun i => x.testBit i && F.getD (nd x (2 ^ i)) false) _ _ (fun i hi => by have := List.mem_range.1 hi; omega) (by decide)
theorem two_lt128 {i : Nat} (h : i < 7) : 2 ^ i < 128 := show 2 ^ i < 2 ^ 7 from Nat.pow_lt_pow_right (by decide) h
def risen' (n : Int) (l : List Int) (k : Nat) : Bool := (List.range k).all fun (i : Nat) => okAt n l i
theorem risen'_succ (n : Int) (l : List Int) (k : Nat) : risen' n l (k + 1) = (risen' n l k && okAt n l k) := by simp [risen', List.range_succ]
theorem risingB_not {n : Int} {l : List Int} {i : Nat} (h : i < l.length) (hb : okAt n l i = false) : risingB n l = false := by
  rw [Bool.eq_false_iff]
  intro hc
  simp only [risingB, List.all_eq_true, List.mem_range] at hc
  rw [hc i h] at hb
  cases hb
theorem risingB_rise {n : Int} {l : List Int} (h : risingB n l = true) : Rise l := by
  have h1 : ∀ i : Nat, i + 1 < l.length → rd l (i : Int) < rd l ((i + 1 : Nat) : Int) := by
    intro i hi
    simp only [risingB, List.all_eq_true, List.mem_range] at h
    have := h (i + 1) hi
    simp only [okAt, Bool.and_eq_true, Bool.or_eq_true, decide_eq_true_eq] at this
    have h2 := this.2
    rw [show (((i + 1 : Nat) : Int) - 1) = i by omega] at h2
    omega
  intro i j hij hj
  obtain ⟨d, rfl⟩ : ∃ d, j = i + 1 + d := ⟨j - i - 1, by omega⟩
  clear hij
  induction d with
  | zero => exact h1 i hj
  | succ d ih =>
    have := ih (by omega)
    have h2 := h1 (i + 1 + d) (by omega)
    rw [show i + 1 + (d + 1) = i + 1 + d + 1 by omega]
    omega
theorem allTo_nat (P : Int → Bool) (l : List Int) (i : Nat) (h : i < l.length) : allTo P l ((i + 1 : Nat) : Int) = (allTo P l i && P (rd l i)) := by
  have := allTo_succ P l i (by omega) (by omega)
  push_cast
  exact this
theorem getD_pow {n : Int} (l : List Int) (h1 : 1 ≤ n) (h7 : n ≤ 7) : (famOf l).getD (2 ^ n.toNat - 1) false = decide ((2 ^ n.toNat - 1 : Int) ∈ l) := by
  have hp := pow128 (n := n) (by omega) h7
  have e : ((2 ^ n.toNat : Nat) : Int) = (2 : Int) ^ n.toNat := by push_cast; rfl
  rw [famOf_getD l _ (by omega)]
  congr 2
  omega
theorem find_at {P : Int → Bool} {l : List Int} {i : Int} (h0 : 0 ≤ i) (h1 : i < l.length) (hz : allTo (fun x => !P x) l i = true) (hp : P (rd l i) = true) : l.find? P = some (rd l i) := by
  have hk : i.toNat < l.length := by omega
  have hs : l = l.take i.toNat ++ l[i.toNat] :: l.drop (i.toNat + 1) := by rw [← List.drop_eq_getElem_cons hk, List.take_append_drop]
  have hn : (l.take i.toNat).find? P = none := by
    rw [List.find?_eq_none]
    intro x hx
    simp only [allTo, List.all_eq_true] at hz
    simpa using hz x hx
  have e : rd l i = l[i.toNat] := by rw [← rd_get hk]; congr 1; omega
  rw [congrArg (List.find? P) hs, List.find?_append, hn, List.find?_cons_of_pos (by rw [← e]; exact hp), ← e]
  rfl
theorem find_no {P : Int → Bool} {l : List Int} (hz : l.all (fun x => !P x) = true) : l.find? P = none := by
  rw [List.find?_eq_none]
  intro x hx
  simp only [List.all_eq_true] at hz
  simpa using hz x hx
def outK (F : List Bool) (x k : Nat) : Nat := (List.range k).foldl (fun a i => if (!x.testBit i && F.getD (x ||| 2 ^ i) false) = true then a ||| 2 ^ i else a) 0
theorem outK_succ (F : List Bool) (x k : Nat) : outK F x (k + 1) = if (!x.testBit k && F.getD (x ||| 2 ^ k) false) = true then outK F x k ||| 2 ^ k else outK F x k := by
  simp only [outK, List.range_succ, List.foldl_append, List.foldl_cons, List.foldl_nil]
theorem outK_7 (F : List Bool) (x : Nat) : outK F x 7 = outerF F x := rfl
theorem outK_lt (F : List Bool) (x k : Nat) (h : k ≤ 7) : outK F x k < 128 := orFold_lt (fun i => !x.testBit i && F.getD (x ||| 2 ^ i) false) _ _ (fun i hi => by have := List.mem_range.1 hi; omega) (by decide)
theorem shr_ways {x i j : Int} (h : shr .i64 x i = j) (hle : i ≤ 64) : x / 2 ^ min i.toNat 64 = j ∧ x / 2 ^ i.toNat = j := ⟨h, shr_small h hle⟩
theorem and_one (x : Nat) (i : Int) (h0 : 0 ≤ i) (h1 : i < 64) (hx : x < 128) : ∃ j : Int, 0 ≤ j ∧ j < 128 ∧ shr .i64 (x : Int) i = j ∧ Go.bits .and .i64 j 1 = if x.testBit i.toNat then 1 else 0 := by
  obtain ⟨n, rfl⟩ := Int.eq_ofNat_of_zero_le h0
  refine ⟨((x / 2 ^ n : Nat) : Int), Int.natCast_nonneg _, ?_, shr_nat x n (by omega), ?_⟩
  · exact Int.ofNat_lt.2 (Nat.lt_of_le_of_lt (Nat.div_le_self x (2 ^ n)) hx)
  · rw [Int.toNat_natCast]
    exact bit_and x n (lt63 hx)
theorem famOf_out {n : Int} {l : List Int} (h0 : 0 ≤ n) (h7 : n ≤ 7) (hM : ∀ x ∈ l, 0 ≤ x ∧ x < 2 ^ n.toNat) {i x : Nat} (hi : n.toNat ≤ i) (hb : x.testBit i = true) : (famOf l).getD x false = false := by
  by_cases hx : x < 128
  · rw [famOf_getD l x hx, decide_eq_false_iff_not]
    intro hm
    have h1 := (hM _ hm).2
    have e : ((2 ^ n.toNat : Nat) : Int) = (2 : Int) ^ n.toNat := by push_cast; rfl
    have h2 : x < 2 ^ n.toNat := by omega
    have h3 : x < 2 ^ i := Nat.lt_of_lt_of_le h2 (Nat.pow_le_pow_right (by decide) hi)
    rw [Nat.testBit_lt_two_pow h3] at hb
    cases hb
  · have := famOf_length l
    rw [List.getD_eq_getElem?_getD, List.getElem?_eq_none (by omega)]
    rfl
theorem outK_stop {F : List Bool} {x n : Nat} (h : ∀ i, n ≤ i → i < 7 → F.getD (x ||| 2 ^ i) false = false) : ∀ d, n + d ≤ 7 → outK F x (n + d) = outK F x n
  | 0, _ => rfl
  | d + 1, hd => by
    rw [show n + (d + 1) = n + d + 1 by omega, outK_succ, h (n + d) (by omega) (by omega), Bool.and_false, if_neg (by decide)]
    exact outK_stop h d (by omega)
theorem isSpaceB_parts {n : Int} {l : List Int} (h : isSpaceB n l = true) : 1 ≤ n ∧ n ≤ 7 ∧ (l.length : Int) ≤ 2 ^ n.toNat ∧ risingB n l = true ∧ (famOf l).getD 0 false = true ∧ (famOf l).getD (2 ^ n.toNat - 1) false = true ∧ unionsB (famOf l) l = true := by
  unfold isSpaceB at h
  simp only [Bool.and_eq_true, decide_eq_true_eq] at h
  obtain ⟨⟨⟨⟨⟨⟨h1, h2⟩, h3⟩, h4⟩, h5⟩, h6⟩, h7⟩ := h
  exact ⟨h1, h2, h3, h4, h5, h6, h7⟩
theorem isSpaceB_mem {n : Int} {l : List Int} (h : isSpaceB n l = true) : ∀ x ∈ l, 0 ≤ x ∧ x < 2 ^ n.toNat := fun x hx => risingB_mem (isSpaceB_parts h).2.2.2.1 hx
theorem isSpaceB_128 {n : Int} {l : List Int} (h : isSpaceB n l = true) : ∀ x ∈ l, 0 ≤ x ∧ x < 128 := fun x hx => by
  have h1 := isSpaceB_mem h x hx
  have h2 := isSpaceB_parts h
  have := pow128 (n := n) (by omega) h2.2.1
  omega
def hasSetB (n : Int) (l : List Int) (x : Int) : Bool := isSpaceB n l && (decide (0 ≤ x) && decide (x < 2 ^ n.toNat))
def isKnownB (n : Int) (l : List Int) (x : Int) : Bool := isSpaceB n l && decide (x ∈ l)
theorem isKnownB_split (n : Int) (l : List Int) (x : Int) : isKnownB n l x = (hasSetB n l x && decide (x ∈ l)) := by
  unfold isKnownB hasSetB
  cases h : isSpaceB n l with
  | false => rfl
  | true =>
    by_cases hx : x ∈ l
    · have := isSpaceB_mem h x hx
      simp [hx, this]
    · simp [hx]
theorem hasSetB_128 {n : Int} {l : List Int} {x : Int} (h : hasSetB n l x = true) : 0 ≤ x ∧ x < 128 := by
  unfold hasSetB at h
  simp only [Bool.and_eq_true, decide_eq_true_eq] at h
  have h2 := isSpaceB_parts h.1
  have := pow128 (n := n) (by omega) h2.2.1
  omega
/-- Does it hold of all ahead of the index i? (entries of any type) -/
def allG {α : Type} (P : α → Bool) (l : List α) (i : Int) : Bool := (l.take i.toNat).all P
theorem allG_zero {α : Type} (P : α → Bool) (l : List α) : allG P l 0 = true := rfl
theorem allG_succ {α : Type} (d : α) (P : α → Bool) (l : List α) (i : Int) (h0 : 0 ≤ i) (h1 : i < l.length) : allG P l (i + 1) = (allG P l i && P (l.getD i.toNat d)) := by
  have hk : i.toNat < l.length := by omega
  unfold allG
  rw [show (i + 1).toNat = i.toNat + 1 by omega, List.take_succ_eq_append_getElem hk, List.all_append, List.getD_eq_getElem?_getD, List.getElem?_eq_getElem hk]
  simp
theorem allG_end {α : Type} (P : α → Bool) (l : List α) (i : Int) (h : i = l.length) : allG P l i = l.all P := by
  unfold allG
  rw [h, Int.toNat_natCast, List.take_length]
theorem getD_mem {α : Type} (d : α) {l : List α} {i : Int} (h0 : 0 ≤ i) (h1 : i < l.length) : l.getD i.toNat d ∈ l := by
  have hk : i.toNat < l.length := by omega
  rw [List.getD_eq_getElem?_getD, List.getElem?_eq_getElem hk]
  exact List.getElem_mem hk
theorem allG_not {α : Type} {P : α → Bool} {l : List α} {x : α} (hx : x ∈ l) (hb : P x = false) : l.all P = false := by
  rw [Bool.eq_false_iff]
  intro hc
  rw [List.all_eq_true] at hc
  rw [hc x hx] at hb
  cases hb
def idxG {α : Type} (p : α → Bool) (l : List α) : Int := match l.findIdx? p with | some i => (i : Int) | none => -1
theorem idxG_hit {α : Type} (d : α) {p : α → Bool} {l : List α} {i : Int} (h0 : 0 ≤ i) (h1 : i < l.length) (hz : allG (fun x => !p x) l i = true) (hp : p (l.getD i.toNat d) = true) : idxG p l = i := by
  have hk : i.toNat < l.length := by omega
  rw [List.getD_eq_getElem?_getD, List.getElem?_eq_getElem hk] at hp
  have : l.findIdx? p = some i.toNat := by
    rw [List.findIdx?_eq_some_iff_getElem]
    refine ⟨hk, hp, fun j hj => ?_⟩
    simp only [allG, List.all_eq_true] at hz
    have := hz l[j] (by rw [List.mem_take_iff_getElem]; exact ⟨j, by omega, rfl⟩)
    simpa using this
  unfold idxG
  rw [this]
  simp only
  omega
theorem idxG_miss {α : Type} {p : α → Bool} {l : List α} (hz : l.all (fun x => !p x) = true) : idxG p l = -1 := by
  have : l.findIdx? p = none := by
    rw [List.findIdx?_eq_none_iff]
    intro x hx
    simp only [List.all_eq_true] at hz
    simpa using hz x hx
  unfold idxG
  rw [this]
theorem idxG_any {α : Type} (p : α → Bool) (l : List α) : decide (0 ≤ idxG p l) = l.any p := by
  unfold idxG
  cases h : l.findIdx? p with
  | none =>
    rw [List.findIdx?_eq_none_iff] at h
    have : l.any p = false := by rw [List.any_eq_false]; intro x hx; simpa using h x hx
    rw [this]
    rfl
  | some i =>
    rw [List.findIdx?_eq_some_iff_getElem] at h
    obtain ⟨hi, hp, _⟩ := h
    have : l.any p = true := by rw [List.any_eq_true]; exact ⟨l[i], List.getElem_mem hi, hp⟩
    rw [this]
    simp

-- HAND lib count
/-- How many items a set has. -/
def cntN (x : Nat) : Nat := ((List.range 7).filter (x.testBit ·)).length
theorem cntN_le (x : Nat) : cntN x ≤ 7 := by
  unfold cntN
  have := List.length_filter_le (x.testBit ·) (List.range 7)
  simpa using this
def mostL (F : List Bool) (l : List Int) : Int := l.foldl (fun m x => max m (cntN (innerF F x.toNat) + cntN (outerF F x.toNat) : Int)) 0
theorem mostL_take (F : List Bool) (l : List Int) (i : Int) (h0 : 0 ≤ i) (h : i < l.length) : mostL F (l.take (i + 1).toNat) = max (mostL F (l.take i.toNat)) (cntN (innerF F (rd l i).toNat) + cntN (outerF F (rd l i).toNat) : Int) := by
  have := take_rd l i.toNat (by omega)
  rw [show (i + 1).toNat = i.toNat + 1 by omega, this, show ((i.toNat : Nat) : Int) = i by omega]
  unfold mostL
  rw [List.foldl_append]
  rfl
theorem mostL_range (F : List Bool) (l : List Int) : 0 ≤ mostL F l ∧ mostL F l ≤ 14 := by
  have : ∀ (l : List Int) (m : Int), 0 ≤ m ∧ m ≤ 14 → 0 ≤ l.foldl (fun m x => max m (cntN (innerF F x.toNat) + cntN (outerF F x.toNat) : Int)) m ∧ l.foldl (fun m x => max m (cntN (innerF F x.toNat) + cntN (outerF F x.toNat) : Int)) m ≤ 14 := by
    intro l
    induction l with
    | nil => intro m h; exact h
    | cons x l ih =>
      intro m h
      rw [List.foldl_cons]
      apply ih
      have := cntN_le (innerF F x.toNat)
      have := cntN_le (outerF F x.toNat)
      show 0 ≤ max m (cntN (innerF F x.toNat) + cntN (outerF F x.toNat) : Int) ∧ max m (cntN (innerF F x.toNat) + cntN (outerF F x.toNat) : Int) ≤ 14
      omega
  exact this l 0 (by omega)

-- HAND lib short
/-- A world that stands some plain steps (draws, new blocks) behind another one. -/
class UpFrom (W W0 : World) : Prop where
  below : Below W0.heap.size W0 W
instance upSame (W : World) : UpFrom W W := ⟨Below.refl _ _⟩
instance upDrewN (W W0 : World) (n : Nat) [u : UpFrom W W0] : UpFrom (W.drewN n) W0 := ⟨pw_below_drewN u.below n⟩
instance upDrew (W W0 : World) [u : UpFrom W W0] : UpFrom W.drew W0 := ⟨below_drew1 u.below⟩
instance upAlloc (W W0 : World) (o : Obj) [u : UpFrom W W0] : UpFrom (W.alloc o) W0 := ⟨below_alloc u.below o⟩
theorem upB {W W0 : World} {g : Nat} {o : Obj} (h : W0.heap[g]? = some o) [u : UpFrom W W0] : W.heap[g]? = some o := (u.below.block g (blk_lt h)).trans h
theorem upR {α : Type} {d : Kd α} {e base : Nat} {ok : Nat → Prop} {W W0 : World} {v : Value} {xs : List α} (h : d.R e W0 base ok v xs) [u : UpFrom W W0] : d.R e W base ok v xs := Kd.R_below h u.below
theorem asd {p : Prop} (h : p) : Aside0 p := ⟨h⟩
theorem R_len {α : Type} {d d' : Kd α} {e e' base base' : Nat} {ok ok' : Nat → Prop} {W W' : World} {v : Value} {xs ys : List α} (h : d.R e W base ok v xs) (h' : d'.R e' W' base' ok' v ys) : xs.length = ys.length := by
  obtain ⟨A, c, e1⟩ := Kd.R_slice h
  obtain ⟨A', c', e2⟩ := Kd.R_slice h'
  rw [e1] at e2
  injection e2

-- HAND lib ask
/-- Is a set left by answers? -/
def keeps (y n a : Int) : Bool := decide (nd y.toNat a.toNat = 0) && decide (a.toNat &&& n.toNat = 0)
def leftL (l : List Int) (y n : Int) : List Int := l.filter (keeps y n)
theorem leftL_sub {l : List Int} {y n x : Int} (h : x ∈ leftL l y n) : x ∈ l := (List.mem_filter.1 h).1
theorem leftL_length (l : List Int) (y n : Int) : (leftL l y n).length ≤ l.length := List.length_filter_le _ _
/-- Do answers go with a space? -/
def answersB (n : Int) (l : List Int) (y m : Int) : Bool := hasSetB n l y && (decide (0 ≤ m) && decide (m < 2 ^ n.toNat)) && decide (y.toNat &&& m.toNat = 0)
def goOnB (n : Int) (l : List Int) (y m : Int) : Bool := answersB n l y m && decide ((leftL l y m).length > 0)
theorem answersB_parts {n : Int} {l : List Int} {y m : Int} (h : answersB n l y m = true) : isSpaceB n l = true ∧ I128 y ∧ I128 m ∧ y < 2 ^ n.toNat ∧ m < 2 ^ n.toNat ∧ y.toNat &&& m.toNat = 0 := by
  unfold answersB at h
  simp only [Bool.and_eq_true, decide_eq_true_eq] at h
  obtain ⟨⟨hs, hm⟩, h0⟩ := h
  have hy := hasSetB_128 hs
  unfold hasSetB at hs
  simp only [Bool.and_eq_true, decide_eq_true_eq] at hs
  have hp := isSpaceB_parts hs.1
  have := pow128 (n := n) (by omega) hp.2.1
  exact ⟨hs.1, hy, ⟨hm.1, by omega⟩, hs.2.2, hm.2, h0⟩
theorem isSpaceB_i128 {n : Int} {l : List Int} (h : isSpaceB n l = true) : ∀ x ∈ l, I128 x := fun x hx => isSpaceB_128 h x hx
theorem isSpaceB_len {n : Int} {l : List Int} (h : isSpaceB n l = true) : l.length ≤ 128 := by
  have hp := isSpaceB_parts h
  have := pow128 (n := n) (by omega) hp.2.1
  omega
theorem goOnB_parts {n : Int} {l : List Int} {y m : Int} (h : goOnB n l y m = true) : answersB n l y m = true := by
  unfold goOnB at h
  simp only [Bool.and_eq_true] at h
  exact h.1

-- HAND lib tzK
/-- The first item of a set. -/
def tzN (x : Nat) : Nat := (itemsN x).headD 0
theorem tz_lt : ∀ x : Fin 128, tzN x.val < 7 := by decide +kernel
theorem tz_bit : ∀ x : Fin 128, x.val ≠ 0 → x.val.testBit (tzN x.val) = true := by decide +kernel
theorem tz_below : ∀ x : Fin 128, ∀ j : Fin 7, j.val < tzN x.val → x.val.testBit j.val = false := by decide +kernel
theorem tz_pow : ∀ i : Fin 7, tzN (2 ^ i.val) = i.val := by decide +kernel
theorem cnt_pow : ∀ i : Fin 7, cntN (2 ^ i.val) = 1 := by decide +kernel
theorem cnt_none : ∀ x : Fin 128, cntN x.val = 1 → x.val ≠ 0 := by decide +kernel
/-- The paths of a space. -/
def pathsL (F : List Bool) (l : List Int) : List Int := l.filter fun x => decide (cntN (innerF F x.toNat) = 1)
/-- The end of a path. -/
def endN (F : List Bool) (x : Int) : Nat := tzN (innerF F x.toNat)
def pathsToL (F : List Bool) (l : List Int) (i : Int) : List Int := (pathsL F l).filter fun x => decide ((endN F x : Int) = i)
theorem innerF_lt (F : List Bool) (x : Nat) : innerF F x < 128 := maskOf_lt _
theorem pathsL_mem {F : List Bool} {l : List Int} {x : Int} (h : x ∈ pathsL F l) : x ∈ l ∧ innerF F x.toNat ≠ 0 := by
  obtain ⟨h1, h2⟩ := List.mem_filter.1 h
  exact ⟨h1, cnt_none ⟨_, innerF_lt F x.toNat⟩ (of_decide_eq_true h2)⟩
/-- How many items from i on are ends of more than one path. -/
def moreN (F : List Bool) (l : List Int) : Nat → Nat → Int → Int
  | 0, _, a => a
  | d + 1, i, a => moreN F l d (i + 1) (if 1 < (pathsToL F l i).length then a + 1 else a)
theorem moreN_add (F : List Bool) (l : List Int) : ∀ (d i : Nat) (a : Int), moreN F l d i a = moreN F l d i 0 + a ∧ 0 ≤ moreN F l d i 0 ∧ moreN F l d i 0 ≤ d
  | 0, i, a => ⟨by show a = 0 + a; omega, by show (0 : Int) ≤ 0; omega, by show (0 : Int) ≤ 0; omega⟩
  | d + 1, i, a => by
    show moreN F l d (i + 1) _ = moreN F l d (i + 1) _ + a ∧ 0 ≤ moreN F l d (i + 1) _ ∧ moreN F l d (i + 1) _ ≤ ((d + 1 : Nat) : Int)
    by_cases h : 1 < (pathsToL F l i).length
    · rw [if_pos h, if_pos h]
      have h1 := moreN_add F l d (i + 1) (a + 1)
      have h2 := moreN_add F l d (i + 1) (0 + 1)
      omega
    · rw [if_neg h, if_neg h]
      have h1 := moreN_add F l d (i + 1) a
      omega
theorem least_of (P : Nat → Prop) : ∀ x, P x → ∃ y, P y ∧ ∀ z, z < y → ¬ P z := by
  intro x
  induction x using Nat.strongRecOn with
  | ind x ih =>
    intro hx
    by_cases h : ∃ z, z < x ∧ P z
    · obtain ⟨z, hz, hp⟩ := h
      exact ih z hz hp
    · exact ⟨x, hx, fun z hz hp => h ⟨z, hz, hp⟩⟩

-- HAND lib lawrows
/-- What is known of the law's own things: the box of what came in, the reference's rows, the space that was handed over, the program's rows; by age. -/
structure LawRows (w W : World) (g : Nat) (o : Obj) (N2 N3 : Nat) (vw : Value) (ws : List (List Int)) (vx : Value) (xs : List Int) (vg : Value) (gs : List (List Int)) : Prop where
  bel : Below w.heap.size w W
  gN : g < N2
  nn : N2 ≤ N3
  wN : w.heap.size ≤ N2
  box : W.heap[g]? = some o
  old : Kd.S (Kd.slice 3 (Kd.int .i64)) 22 W w.heap.size (fun k => k < N2) vw ws
  row : Kd.R (Kd.int .i64) 3 W w.heap.size (fun k => N2 ≤ k ∧ k < N3) vx xs
  res : Kd.S (Kd.slice 3 (Kd.int .i64)) 22 W w.heap.size (fun k => N3 ≤ k) vg gs
theorem LawRows.below {w W W' : World} {g : Nat} {o : Obj} {N2 N3 : Nat} {vw vx vg : Value} {ws gs : List (List Int)} {xs : List Int} (h : LawRows w W g o N2 N3 vw ws vx xs vg gs) (hb : Below W.heap.size W W') : LawRows w W' g o N2 N3 vw ws vx xs vg gs :=
  ⟨below_step h.bel hb, h.gN, h.nn, h.wN, (hb.block g (blk_lt h.box)).trans h.box, Kd.S_below h.old hb, Kd.R_below h.row hb, Kd.S_below h.res hb⟩
theorem LawRows.drewN {w W : World} {g : Nat} {o : Obj} {N2 N3 : Nat} {vw vx vg : Value} {ws gs : List (List Int)} {xs : List Int} (h : LawRows w W g o N2 N3 vw ws vx xs vg gs) (m : Nat) : LawRows w (W.drewN m) g o N2 N3 vw ws vx xs vg gs := h.below (pw_below_drewN (Below.refl _ _) m)
theorem LawRows.markX {w W W' : World} {g : Nat} {o : Obj} {N2 N3 : Nat} {vw vx vg : Value} {ws gs : List (List Int)} {xs xs' : List Int} {ok : Nat → Prop} (h : LawRows w W g o N2 N3 vw ws vx xs vg gs) (hk : Kept W W' (fun k => some k = vx.ownBlock)) (hb : Below w.heap.size w W') (hR : Kd.R (Kd.int .i64) 3 W' w.heap.size ok vx xs') : LawRows w W' g o N2 N3 vw ws vx xs' vg gs :=
  ⟨hb, h.gN, h.nn, h.wN, blk_kept h.box hk (fun e => by have := (h.row.1 g e.symm).1; have := h.gN; omega), Kd.S_kept h.old hk (fun k hk2 e => by have := (h.row.1 k e.symm).1; omega), Kd.R_mono (Kd.R_tight rfl hR) (fun k hk2 => h.row.1 k hk2.symm), Kd.S_kept h.res hk (fun k hk2 e => by have := (h.row.1 k e.symm).2; omega)⟩
theorem LawRows.markG {w W W' : World} {g : Nat} {o : Obj} {N2 N3 : Nat} {vw vx vg : Value} {ws gs gs' : List (List Int)} {xs : List Int} (h : LawRows w W g o N2 N3 vw ws vx xs vg gs) (hk : Kept W W' (fun k => N3 ≤ k)) (hb : Below w.heap.size w W') (hS : Kd.S (Kd.slice 3 (Kd.int .i64)) 22 W' w.heap.size (fun k => N3 ≤ k) vg gs') : LawRows w W' g o N2 N3 vw ws vx xs vg gs' :=
  ⟨hb, h.gN, h.nn, h.wN, blk_kept h.box hk (fun e => by have := h.gN; have := h.nn; omega), Kd.S_kept h.old hk (fun k hk2 e => by have := h.nn; omega), Kd.R_kept h.row hk (fun k hk2 e => by omega), hS⟩
theorem box_cells {W : World} {g : Nat} {n : Int} {A : Option Addr} {k c t : Nat} (h : W.heap[g]? = some (.cells #[.int .i64 n, .slice A k c] t (0, 0))) : W.cell? ⟨g, 0, none⟩ = some (.int .i64 n) ∧ W.cell? ⟨g, 1, none⟩ = some (.slice A k c) := ⟨(blk_cell h 0).trans rfl, (blk_cell h 1).trans rfl⟩
def rowsB (ls : List (List Int)) : Bool := decide (ls.length ≤ 1048576) && ls.all fun x => decide (x.length ≤ 1048576)
theorem rowsB_parts {ls : List (List Int)} (h : rowsB ls = true) : ls.length ≤ 1048576 ∧ ∀ x ∈ ls, x.length ≤ 1048576 := by
  unfold rowsB at h
  rw [Bool.and_eq_true, decide_eq_true_eq, List.all_eq_true] at h
  exact ⟨h.1, fun x hx => of_decide_eq_true (h.2 x hx)⟩

-- HAND lib pairs
theorem rd_set (l : List Int) {i : Nat} (h : i < l.length) (a : Int) (j : Nat) : rd (l.set i a) (j : Int) = if i = j then a else rd l j := by
  unfold rd
  rw [Int.toNat_natCast, List.getD_eq_getElem?_getD, List.getD_eq_getElem?_getD, List.getElem?_set]
  by_cases e : i = j
  · rw [if_pos e, if_pos h, if_pos e]
    rfl
  · rw [if_neg e, if_neg e]
theorem tset (t : List Bool) {i : Nat} (h : i < t.length) (j : Nat) : rdOf false (t.set i true) (j : Int) = if i = j then true else rdOf false t j := by
  unfold rdOf
  rw [Int.toNat_natCast, List.getD_eq_getElem?_getD, List.getD_eq_getElem?_getD, List.getElem?_set]
  by_cases e : i = j
  · rw [if_pos e, if_pos h, if_pos e]
    rfl
  · rw [if_neg e, if_neg e]
theorem tset_up {t : List Bool} {i : Nat} (h : i < t.length) {j : Nat} (hj : rdOf false t (j : Int) = true) : rdOf false (t.set i true) (j : Int) = true := by
  rw [tset t h]
  split
  · rfl
  · exact hj
/-- How many are not tried. -/
def unT (t : List Bool) : Nat := t.countP fun x => !x
/-- How many are numbers. -/
def cntP (l : List Int) : Nat := l.countP fun x => decide (0 ≤ x)
theorem unT_set {t : List Bool} {i : Nat} (h : i < t.length) (hf : rdOf false t (i : Int) = false) : unT (t.set i true) + 1 = unT t := by
  have e : t[i] = false := by
    unfold rdOf at hf
    rw [Int.toNat_natCast, List.getD_eq_getElem?_getD, List.getElem?_eq_getElem h] at hf
    exact hf
  have hp : 0 < t.countP fun x => !x := List.countP_pos_iff.2 ⟨t[i], List.getElem_mem h, by rw [e]; rfl⟩
  unfold unT
  rw [List.countP_set h, e]
  simp
  omega
theorem cntP_set {l : List Int} {i : Nat} (h : i < l.length) {v : Int} (hv : 0 ≤ v) : cntP (l.set i v) = cntP l + (if rd l i < 0 then 1 else 0) := by
  have e : rd l i = l[i] := rd_get h
  unfold cntP
  rw [List.countP_set h, e, if_pos (decide_eq_true hv)]
  by_cases hn : l[i] < 0
  · rw [if_pos hn, if_neg (by rw [decide_eq_true_eq]; omega)]
    omega
  · have hp : 0 < l.countP fun x => decide (0 ≤ x) := List.countP_pos_iff.2 ⟨l[i], List.getElem_mem h, decide_eq_true (by omega)⟩
    rw [if_neg hn, if_pos (decide_eq_true (by omega))]
    omega
/-- What is ahead and what follows tell the same pairs. -/
structure Pair (n : Nat) (b o : List Int) : Prop where
  lb : b.length = n
  lo : o.length = n
  rb : ∀ x : Nat, x < n → -1 ≤ rd b x ∧ rd b x < n
  ro : ∀ x : Nat, x < n → -1 ≤ rd o x ∧ rd o x < n
  bo : ∀ x y : Nat, x < n → y < n → (rd b x = y ↔ rd o y = x)
  up : ∀ y : Nat, y < n → 0 ≤ rd o y → (y : Int) < rd o y
/-- Behind a search from v that found one. -/
structure Got (n v : Nat) (b o : List Int) (t : List Bool) (b' o' : List Int) : Prop where
  lb : b'.length = n
  lo : o'.length = n
  rb : ∀ x : Nat, x < n → -1 ≤ rd b' x ∧ rd b' x < n
  ro : ∀ x : Nat, x < n → -1 ≤ rd o' x ∧ rd o' x < n
  seen : ∀ y : Nat, y < n → rdOf false t y = true → rd o' y = rd o y
  keep : ∀ x : Nat, x < n → x ≠ v → (rd b x < 0 ∨ rdOf false t (rd b x) = true) → rd b' x = rd b x
  bo : ∀ x y : Nat, x < n → y < n → (y : Int) ≠ rd b v → (rd b' x = y ↔ rd o' y = x)
  stale : ∀ x : Nat, x < n → 0 ≤ rd b v → rd b' x ≠ rd b v
  up : ∀ y : Nat, y < n → 0 ≤ rd o' y → (y : Int) < rd o' y
  cb : cntP b' = cntP b + (if rd b v < 0 then 1 else 0)
  co : cntP o' = cntP o + 1
theorem nat_of {x : Int} {n : Nat} (h0 : 0 ≤ x) (h1 : x < n) : ∃ j : Nat, j < n ∧ x = j := ⟨x.toNat, by omega, by omega⟩
theorem Got.mono {n v : Nat} {b o b' o' : List Int} {t t2 : List Bool} (h : Got n v b o t2 b' o') (hP : Pair n b o) (ht : ∀ y : Nat, rdOf false t y = true → rdOf false t2 y = true) : Got n v b o t b' o' :=
  ⟨h.lb, h.lo, h.rb, h.ro, fun y hy hs => h.seen y hy (ht y hs), fun x hx hne hc => h.keep x hx hne (by
    by_cases h0 : rd b x < 0
    · exact .inl h0
    · obtain ⟨j, hj, e⟩ := nat_of (by omega) (hP.rb x hx).2
      have := hc.resolve_left h0
      rw [e] at this
      exact .inr (by rw [e]; exact ht j this)), h.bo, h.stale, h.up, h.cb, h.co⟩
theorem got_base {n v u : Nat} {b o : List Int} {t : List Bool} (hP : Pair n b o) (hv : v < n) (hu : u < n) (ht : t.length = n) (hf : rdOf false t (u : Int) = false) (hs : 0 ≤ rd b v → rdOf false t (rd b v) = true) (ho : rd o u < 0) (huv : u < v) : Got n v b o t (b.set v u) (o.set u v) := by
  have Sb := fun x => rd_set b (i := v) (by rw [hP.lb]; exact hv) (u : Int) x
  have So := fun y => rd_set o (i := u) (by rw [hP.lo]; exact hu) (v : Int) y
  refine ⟨by rw [List.length_set]; exact hP.lb, by rw [List.length_set]; exact hP.lo, fun x hx => ?_, fun y hy => ?_, fun y hy h => ?_, fun x hx hne _ => ?_, fun x y hx hy hne => ?_, fun x hx h0 => ?_, fun y hy h0 => ?_, ?_, ?_⟩
  · rw [Sb]
    have := hP.rb x hx
    split <;> omega
  · rw [So]
    have := hP.ro y hy
    split <;> omega
  · rw [So, if_neg]
    rintro rfl
    rw [hf] at h
    cases h
  · rw [Sb, if_neg (fun e => hne e.symm)]
  · rw [Sb, So]
    have h1 := hP.bo x y hx hy
    have h2 := hP.bo v y hv hy
    have h3 := hP.bo x u hx hu
    by_cases e1 : v = x
    · subst e1
      by_cases e2 : u = y
      · rw [if_pos rfl, if_pos e2]
        exact ⟨fun _ => rfl, fun _ => by omega⟩
      · rw [if_pos rfl, if_neg e2]
        exact ⟨fun h => absurd (Int.ofNat.inj h) e2, fun h => absurd (h1.2 h).symm hne⟩
    · by_cases e2 : u = y
      · subst e2
        rw [if_neg e1, if_pos rfl]
        exact ⟨fun h => by have := h3.1 h; omega, fun h => absurd (Int.ofNat.inj h) e1⟩
      · rw [if_neg e1, if_neg e2]
        exact h1
  · obtain ⟨j, hj, e⟩ := nat_of h0 (hP.rb v hv).2
    have hsj := hs h0
    rw [e] at hsj ⊢
    have hju : j ≠ u := by
      rintro rfl
      rw [hf] at hsj
      cases hsj
    rw [Sb]
    by_cases e1 : v = x
    · rw [if_pos e1]
      omega
    · rw [if_neg e1]
      intro h
      have h1 := (hP.bo x j hx hj).1 h
      have h2 := (hP.bo v j hv hj).1 e
      omega
  · rw [So] at h0 ⊢
    have := hP.up y hy
    split at h0
    · rename_i e
      rw [if_pos e]
      omega
    · rename_i e
      rw [if_neg e]
      exact this h0
  · rw [cntP_set (by rw [hP.lb]; exact hv) (Int.natCast_nonneg u)]
  · rw [cntP_set (by rw [hP.lo]; exact hu) (Int.natCast_nonneg v), if_pos ho]
theorem got_step {n v u i : Nat} {b o b1 o1 : List Int} {t : List Bool} (hP : Pair n b o) (hv : v < n) (hu : u < n) (hi : i < n) (ht : t.length = n) (hf : rdOf false t (u : Int) = false) (hs : 0 ≤ rd b v → rdOf false t (rd b v) = true) (ho : rd o u = (i : Int)) (huv : u < v) (G : Got n i b o (t.set u true) b1 o1) : Got n v b o t (b1.set v u) (o1.set u v) := by
  have hul : u < t.length := by rw [ht]; exact hu
  have Sb := fun x => rd_set b1 (i := v) (by rw [G.lb]; exact hv) (u : Int) x
  have So := fun y => rd_set o1 (i := u) (by rw [G.lo]; exact hu) (v : Int) y
  have hbi : rd b i = (u : Int) := (hP.bo i u hi hu).2 ho
  have hne0 : v ≠ i := by
    rintro rfl
    have := hs (by rw [hbi]; exact Int.natCast_nonneg u)
    rw [hbi, hf] at this
    cases this
  have hb1v : rd b1 v = rd b v := G.keep v hv hne0 (by
    by_cases h0 : rd b v < 0
    · exact .inl h0
    · obtain ⟨j, hj, e⟩ := nat_of (by omega) (hP.rb v hv).2
      have := hs (by omega)
      rw [e] at this
      exact .inr (by rw [e]; exact tset_up hul this))
  have ho1u : rd o1 u = (i : Int) := (G.seen u hu (by rw [tset t hul, if_pos rfl])).trans ho
  refine ⟨by rw [List.length_set]; exact G.lb, by rw [List.length_set]; exact G.lo, fun x hx => ?_, fun y hy => ?_, fun y hy h => ?_, fun x hx hne hc => ?_, fun x y hx hy hne => ?_, fun x hx h0 => ?_, fun y hy h0 => ?_, ?_, ?_⟩
  · rw [Sb]
    have := G.rb x hx
    split <;> omega
  · rw [So]
    have := G.ro y hy
    split <;> omega
  · rw [So, if_neg]
    · exact G.seen y hy (tset_up hul h)
    · rintro rfl
      rw [hf] at h
      cases h
  · rw [Sb, if_neg (fun e => hne e.symm)]
    by_cases e1 : x = i
    · subst e1
      rw [hbi] at hc
      rcases hc with hc | hc
      · omega
      · rw [hf] at hc
        cases hc
    · refine G.keep x hx e1 ?_
      by_cases h0 : rd b x < 0
      · exact .inl h0
      · obtain ⟨j, hj, e⟩ := nat_of (by omega) (hP.rb x hx).2
        have := hc.resolve_left h0
        rw [e] at this
        exact .inr (by rw [e]; exact tset_up hul this)
  · rw [Sb, So]
    by_cases e1 : v = x
    · subst e1
      by_cases e2 : u = y
      · rw [if_pos rfl, if_pos e2]
        exact ⟨fun _ => rfl, fun _ => by omega⟩
      · rw [if_pos rfl, if_neg e2]
        refine ⟨fun h => absurd (Int.ofNat.inj h) e2, fun h => absurd ?_ hne⟩
        rw [← hb1v]
        exact ((G.bo v y hx hy (by rw [hbi]; omega)).2 h).symm
    · by_cases e2 : u = y
      · subst e2
        rw [if_neg e1, if_pos rfl]
        refine ⟨fun h => absurd h ?_, fun h => absurd (Int.ofNat.inj h) e1⟩
        have := G.stale x hx (by rw [hbi]; exact Int.natCast_nonneg u)
        rwa [hbi] at this
      · rw [if_neg e1, if_neg e2]
        exact G.bo x y hx hy (by rw [hbi]; omega)
  · obtain ⟨j, hj, e⟩ := nat_of h0 (hP.rb v hv).2
    have hsj := hs h0
    rw [e] at hsj ⊢
    have hju : j ≠ u := by
      rintro rfl
      rw [hf] at hsj
      cases hsj
    rw [Sb]
    by_cases e1 : v = x
    · rw [if_pos e1]
      omega
    · rw [if_neg e1]
      intro h
      have h1 := (G.bo x j hx hj (by rw [hbi]; omega)).1 h
      rw [G.seen j hj (tset_up hul hsj)] at h1
      have h2 := (hP.bo v j hv hj).1 e
      omega
  · rw [So] at h0 ⊢
    have := G.up y hy
    split at h0
    · rename_i e
      rw [if_pos e]
      omega
    · rename_i e
      rw [if_neg e]
      exact this h0
  · rw [cntP_set (by rw [G.lb]; exact hv) (Int.natCast_nonneg u), G.cb, hbi, hb1v, if_neg (by omega)]
    rfl
  · rw [cntP_set (by rw [G.lo]; exact hu) (Int.natCast_nonneg v), G.co, ho1u, if_neg (by omega)]

-- HAND lib chains
/-- What follows in a chain. -/
def chainO (s o : List Int) : Nat → Int → List Int
  | 0, _ => []
  | f + 1, p => if 0 ≤ rd o p then rd s (rd o p) :: chainO s o f (rd o p) else []
/-- The chains that begin from one on. -/
def chainsFrom (s b o : List Int) : Nat → Int → List (List Int)
  | 0, _ => []
  | d + 1, i => if rd b i < 0 then (rd s i :: chainO s o s.length i) :: chainsFrom s b o d (i + 1) else chainsFrom s b o d (i + 1)
theorem chainO_len (s o : List Int) : ∀ (f : Nat) (p : Int), (chainO s o f p).length ≤ f
  | 0, _ => Nat.le_refl _
  | f + 1, p => by
    have := chainO_len s o f (rd o p)
    unfold chainO
    split <;> simp <;> omega
theorem chainsFrom_len (s b o : List Int) : ∀ (d : Nat) (i : Int), (chainsFrom s b o d i).length ≤ d
  | 0, _ => Nat.le_refl _
  | d + 1, i => by
    have := chainsFrom_len s b o d (i + 1)
    unfold chainsFrom
    split <;> simp <;> omega
theorem chainsFrom_mem (s b o : List Int) : ∀ (d : Nat) (i : Int) (c : List Int), c ∈ chainsFrom s b o d i → c.length ≤ s.length + 1
  | 0, _, c, h => by cases h
  | d + 1, i, c, h => by
    unfold chainsFrom at h
    have hc := chainO_len s o s.length i
    split at h
    · rcases List.mem_cons.1 h with rfl | h
      · rw [List.length_cons]
        omega
      · exact chainsFrom_mem s b o d _ c h
    · exact chainsFrom_mem s b o d _ c h

-- HAND lib pathsup
theorem rise_nodup_len {l : List Int} (hr : Rise l) (hM : ∀ x ∈ l, 0 ≤ x ∧ x < 128) : l.length ≤ 128 := by
  have key : ∀ i : Nat, i < l.length → (i : Int) ≤ rd l i := by
    intro i
    induction i with
    | zero => intro hi; exact (hM _ (rd_mem (by omega) (by omega))).1
    | succ i ih =>
      intro hi
      have h1 := ih (by omega)
      have h2 := hr i (i + 1) (by omega) hi
      push_cast at h2 ⊢
      omega
  rcases Nat.lt_or_ge 128 l.length with h | h
  · have h1 := key 128 h
    have h2 := (hM _ (rd_mem (l := l) (i := ((128 : Nat) : Int)) (by omega) (by omega))).2
    omega
  · exact h
theorem rise_of_pairwise {l : List Int} (h : l.Pairwise (· < ·)) : Rise l := by
  intro i j hij hj
  rw [rd_get (by omega), rd_get hj]
  exact List.pairwise_iff_getElem.1 h i j (by omega) hj hij
theorem pairwise_of_rise {l : List Int} (h : Rise l) : l.Pairwise (· < ·) := by
  rw [List.pairwise_iff_getElem]
  intro i j hi hj hij
  have := h i j hij hj
  rwa [rd_get hi, rd_get hj] at this
theorem paths_rise {F : List Bool} {l : List Int} (hr : Rise l) : Rise (pathsL F l) := rise_of_pairwise ((pairwise_of_rise hr).filter _)

/-! ### laws_szIntS: function 22 -/
def laws_szIntS.f (l0 : List Int) (a1 : Int) : Option (Int) := if (wrap64 (a1 - (l0.length : Int))) < 0 then (some (-1)) else (some (wrap64 (a1 - (l0.length : Int))))
set_option maxHeartbeats 8000000 in
set_option maxRecDepth 100000 in
theorem laws_szIntS.calls (A0 : Option Addr) (c0 : Nat) (l0 : List Int) (a1 : Int) (r : Int) (w : World) (hr0 : Kd.C (Kd.int .i64) w A0 l0.length l0) (hc0 : l0.length ≤ c0) (h : laws_szIntS.f l0 a1 = some r) :
    Calls Try.prog 22 #[.slice A0 l0.length c0, .int .i64 a1] w fun e w' => e = .returned (.int .i64 r) ∧ Drawn0 w w' := by
  have HR0 := Aside0.mk hr0
  have HC0 := Aside0.mk hc0
  clear hr0 hc0
  have H : (if (wrap64 (a1 - (l0.length : Int))) < 0 then (some (-1)) else (some (wrap64 (a1 - (l0.length : Int))))) = some r := h
  clear h
  by_cases c3 : (wrap64 (a1 - (l0.length : Int))) < 0
  · rw [if_pos c3] at H
    have c3b0 : decide ((wrap64 (a1 - (l0.length : Int))) < 0) = true := decide_eq_true c3
    clear c3
    obtain rfl := Option.some.inj H
    go_enter Try.func22, Try.ntmps22
    go_wp2
    go_ret
    exact ⟨by first | rfl | (simp; done) | (simp [*]; done), by repeat (first | exact Drawn0.refl _ | apply Drawn0.step)⟩
  · rw [if_neg c3] at H
    have c3b0 : decide ((wrap64 (a1 - (l0.length : Int))) < 0) = false := decide_eq_false c3
    clear c3
    obtain rfl := Option.some.inj H
    go_enter Try.func22, Try.ntmps22
    go_wp2
    go_ret
    exact ⟨by first | rfl | (simp; done) | (simp [*]; done), by repeat (first | exact Drawn0.refl _ | apply Drawn0.step)⟩

/-! ### laws_szSpace: function 7 -/
def laws_szSpace.f (a0_0 : Int) (l0_1 : List Int) (a1 : Int) : Option (Int) := (laws_szIntS.f l0_1 a1).bind fun t102 => (if t102 < 0 then (some (-1)) else (some t102))
set_option maxHeartbeats 8000000 in
set_option maxRecDepth 100000 in
theorem laws_szSpace.calls (a0_0 : Int) (A0_1 : Option Addr) (c0_1 : Nat) (l0_1 : List Int) (a1 : Int) (r : Int) (w : World) (hr0_1 : Kd.C (Kd.int .i64) w A0_1 l0_1.length l0_1) (hc0_1 : l0_1.length ≤ c0_1) (h : laws_szSpace.f a0_0 l0_1 a1 = some r) :
    Calls Try.prog 7 #[.agg #[.int .i64 a0_0, .slice A0_1 l0_1.length c0_1], .int .i64 a1] w fun e w' => e = .returned (.int .i64 r) ∧ Below w.heap.size w w' := by
  have hu24 := Try.underlying24
  have HR0_1 := Aside0.mk hr0_1
  have HC0_1 := Aside0.mk hc0_1
  clear hr0_1 hc0_1
  have HB := Aside0.mk (Below.refl w.heap.size w)
  have H : ((laws_szIntS.f l0_1 a1).bind fun t102 => (if t102 < 0 then (some (-1)) else (some t102))) = some r := h
  clear h
  replace H := Option.bind_eq_some_iff.mp H
  obtain ⟨t102, A30, H⟩ := H
  replace H : (if t102 < 0 then (some (-1)) else (some t102)) = some r := H
  have A3 := Aside0.mk A30
  clear A30
  by_cases c4 : t102 < 0
  · rw [if_pos c4] at H
    have c4b0 : decide (t102 < 0) = true := decide_eq_true c4
    clear c4
    obtain rfl := Option.some.inj H
    go_enter Try.func7, Try.ntmps7
    go_wp2_with (first | ((with_reducible refine gate_dst (N := 2) rfl ?_); refine box_event ?hg (N := 2) ?hd (cs := #[.int .i64 a0_0, .slice A0_1 l0_1.length c0_1]) (t := 24) ?hr ?_; (case hd => rfl); (case hg => rfl); (case hr => first | (go_simp; done) | (go_simp; rfl)); intro gb101 hg w5 hbox hb; have n0_ := Aside0.mk (below_step (by repeat (first | (with_reducible first | exact HB.out | apply below_alloc | apply pw_below_drewN | apply below_drew1) | exact HB.out)) hb); have n1_ := Aside0.mk (hbox); have n2_ := Aside0.mk ((by rw [hg]; exact (below_size (by repeat (first | (with_reducible first | exact HB.out | apply below_alloc | apply pw_below_drewN | apply below_drew1) | exact HB.out))) : w.heap.size ≤ gb101)); have n3_ := Aside0.mk ((by rw [hg]; exact (below_size (by repeat (first | (with_reducible first | exact HB.out | apply below_alloc | apply pw_below_drewN | apply below_drew1) | exact HB.out))) : w.heap.size ≤ gb101)); clear HB; have HB := n0_; have BK101 := n1_; have GW101 := n2_; have GE101 := n3_; clear n0_ n1_ n2_ n3_; clear hb hbox hg; have hcz6_0 : w5.cell? ⟨gb101, 0, none⟩ = some (.int .i64 a0_0) := (blk_cell BK101.out 0).trans rfl; have hcz6_1 : w5.cell? ⟨gb101, 1, none⟩ = some (.slice A0_1 l0_1.length c0_1) := (blk_cell BK101.out 1).trans rfl; have hfz6_0 := blk_frozen BK101.out 0; have hfz6_1 := blk_frozen BK101.out 1) | ((with_reducible refine gate_callee (f := 22) rfl ?_); refine goesL_ (some 8) rfl rfl Try.func22 (by kernel_rfl) rfl #[.slice A0_1 l0_1.length c0_1, .int .i64 a1] rfl (by (try simp only [List.map_toArray, List.map_cons, List.map_nil]); first | done | rfl | (simp only [List.length_drop, List.length_take]; rfl)) ?_; (with_reducible refine (laws_szIntS.calls _ _ l0_1 a1 t102 _ ?side1 ?side2 A3.out).mono ?_); (case side1 => repeat (first | exact (Kd.C_below HR0_1.out HB.out) | (with_reducible refine Kd.C_alloc ?_ _) | (with_reducible refine Kd.C_drewN ?_ _) | (with_reducible refine Kd.C_drew ?_))); (case side2 => exact HC0_1.out); rintro e w' ⟨rfl, ⟨nd, rfl⟩⟩; refine ⟨_, rfl, ?_⟩))
    go_ret
    exact ⟨by first | rfl | (simp [errW_none, errW_some] <;> rfl) | (simp [*, errW_none, errW_some] <;> rfl), by repeat (first | (with_reducible first | exact HB.out | apply below_alloc | apply pw_below_drewN | apply below_drew1 | refine below_set ?_ GE101.out) | exact HB.out)⟩
  · rw [if_neg c4] at H
    have c4b0 : decide (t102 < 0) = false := decide_eq_false c4
    clear c4
    obtain rfl := Option.some.inj H
    go_enter Try.func7, Try.ntmps7
    go_wp2_with (first | ((with_reducible refine gate_dst (N := 2) rfl ?_); refine box_event ?hg (N := 2) ?hd (cs := #[.int .i64 a0_0, .slice A0_1 l0_1.length c0_1]) (t := 24) ?hr ?_; (case hd => rfl); (case hg => rfl); (case hr => first | (go_simp; done) | (go_simp; rfl)); intro gb101 hg w7 hbox hb; have n0_ := Aside0.mk (below_step (by repeat (first | (with_reducible first | exact HB.out | apply below_alloc | apply pw_below_drewN | apply below_drew1) | exact HB.out)) hb); have n1_ := Aside0.mk (hbox); have n2_ := Aside0.mk ((by rw [hg]; exact (below_size (by repeat (first | (with_reducible first | exact HB.out | apply below_alloc | apply pw_below_drewN | apply below_drew1) | exact HB.out))) : w.heap.size ≤ gb101)); have n3_ := Aside0.mk ((by rw [hg]; exact (below_size (by repeat (first | (with_reducible first | exact HB.out | apply below_alloc | apply pw_below_drewN | apply below_drew1) | exact HB.out))) : w.heap.size ≤ gb101)); clear HB; have HB := n0_; have BK101 := n1_; have GW101 := n2_; have GE101 := n3_; clear n0_ n1_ n2_ n3_; clear hb hbox hg; have hcz8_0 : w7.cell? ⟨gb101, 0, none⟩ = some (.int .i64 a0_0) := (blk_cell BK101.out 0).trans rfl; have hcz8_1 : w7.cell? ⟨gb101, 1, none⟩ = some (.slice A0_1 l0_1.length c0_1) := (blk_cell BK101.out 1).trans rfl; have hfz8_0 := blk_frozen BK101.out 0; have hfz8_1 := blk_frozen BK101.out 1) | ((with_reducible refine gate_callee (f := 22) rfl ?_); refine goesL_ (some 8) rfl rfl Try.func22 (by kernel_rfl) rfl #[.slice A0_1 l0_1.length c0_1, .int .i64 a1] rfl (by (try simp only [List.map_toArray, List.map_cons, List.map_nil]); first | done | rfl | (simp only [List.length_drop, List.length_take]; rfl)) ?_; (with_reducible refine (laws_szIntS.calls _ _ l0_1 a1 t102 _ ?side1 ?side2 A3.out).mono ?_); (case side1 => repeat (first | exact (Kd.C_below HR0_1.out HB.out) | (with_reducible refine Kd.C_alloc ?_ _) | (with_reducible refine Kd.C_drewN ?_ _) | (with_reducible refine Kd.C_drew ?_))); (case side2 => exact HC0_1.out); rintro e w' ⟨rfl, ⟨nd, rfl⟩⟩; refine ⟨_, rfl, ?_⟩))
    go_ret
    exact ⟨by first | rfl | (simp [errW_none, errW_some] <;> rfl) | (simp [*, errW_none, errW_some] <;> rfl), by repeat (first | (with_reducible first | exact HB.out | apply below_alloc | apply pw_below_drewN | apply below_drew1 | refine below_set ?_ GE101.out) | exact HB.out)⟩

-- HAND with laws.szSpace
theorem szSpace_over (n : Int) (l : List Int) (a : Int) (ha : a ≤ 1048576) (hl : l.length ≤ 9223372036854775807) (h : a < l.length) (h0 : 0 ≤ a) : laws_szSpace.f n l a = some (-1) := by
  have hw : wrap64 (a - (l.length : Int)) = a - l.length := wrap_in (by omega) (by omega)
  unfold laws_szSpace.f laws_szIntS.f
  rw [hw, if_pos (by omega)]
  rfl
theorem szSpace_fits (n : Int) (l : List Int) (a : Int) (ha : a ≤ 1048576) (h : (l.length : Int) ≤ a) : laws_szSpace.f n l a = some (a - l.length) := by
  have hw : wrap64 (a - (l.length : Int)) = a - l.length := wrap_in (by omega) (by omega)
  unfold laws_szSpace.f laws_szIntS.f
  rw [hw, if_neg (by omega)]
  show (if a - (l.length : Int) < 0 then _ else _) = _
  rw [if_neg (by omega)]

/-! ### laws_toIntS: function 26 -/
def laws_toIntS.l0 : Nat → List Int → List Int → Int → Option (List Int)
  | 0, _, _, _ => none
  | k + 1, x0, x3, x4 => if x4 < (x0.length : Int) then (if 0 ≤ x4 then (if x4 < (x3.length : Int) then (laws_toIntS.l0 k x0 (x3.set (x4 : Int).toNat (rd x0 x4)) (wrap64 (x4 + 1))) else (none)) else (none)) else (some x3)
def laws_toIntS.f (k : Nat) (l0 : List Int) : Option (List Int) := if 0 ≤ (l0.length : Int) then (if ((l0.length : Int) : Int).toNat ≤ 35184372088832 then (laws_toIntS.l0 k l0 (List.replicate ((l0.length : Int) : Int).toNat 0) 0) else (none)) else (none)
theorem laws_toIntS.mono_l : ∀ k, (∀ y0 y1 y2, LeO (laws_toIntS.l0 k y0 y1 y2) (laws_toIntS.l0 (k + 1) y0 y1 y2))
  | 0 => fun _ _ _ r h => by simp [laws_toIntS.l0] at h
  | k + 1 => by
    have ih0 := laws_toIntS.mono_l k
    · intro y0 y1 y2
      unfold laws_toIntS.l0
      repeat' first
      | (with_reducible exact ih0 _ _ _)
      | (with_reducible exact LeO.refl _)
      | (with_reducible exact LeO.none _)
      | (with_reducible refine LeO.ite ?_ ?_)
      | (with_reducible refine LeO.bind ?_ (fun _ => ?_))
      | exact ih0 _ _ _
      | exact LeO.none _
      | refine LeO.ite ?_ ?_
      | refine LeO.bind ?_ (fun _ => ?_)
theorem laws_toIntS.mono : ∀ a0 k, LeO (laws_toIntS.f k a0) (laws_toIntS.f (k + 1) a0) := by
  intro a0 k
  have ih0 := laws_toIntS.mono_l k
  unfold laws_toIntS.f
  repeat' first
      | (with_reducible exact ih0 _ _ _)
      | (with_reducible exact LeO.refl _)
      | (with_reducible exact LeO.none _)
      | (with_reducible refine LeO.ite ?_ ?_)
      | (with_reducible refine LeO.bind ?_ (fun _ => ?_))
      | exact ih0 _ _ _
      | exact LeO.none _
      | refine LeO.ite ?_ ?_
      | refine LeO.bind ?_ (fun _ => ?_)
set_option maxHeartbeats 8000000 in
set_option maxRecDepth 100000 in
theorem laws_toIntS.calls (k : Nat) (A0 : Option Addr) (c0 : Nat) (l0 : List Int) (r : List Int) (w : World) (hr0 : Kd.C (Kd.int .i64) w A0 l0.length l0) (hc0 : l0.length ≤ c0) (h : laws_toIntS.f k l0 = some r) :
    Calls Try.prog 26 #[.slice A0 l0.length c0] w fun e w' => ∃ v0_ : Value, e = .returned (v0_) ∧ Kd.R (Kd.int .i64) 3 w' w.heap.size (fun _ => True) v0_ r ∧ Below w.heap.size w w' := by
  have HR0 := Aside0.mk hr0
  have HC0 := Aside0.mk hc0
  clear hr0 hc0
  have HB := Aside0.mk (Below.refl w.heap.size w)
  have H : (if 0 ≤ (l0.length : Int) then (if ((l0.length : Int) : Int).toNat ≤ 35184372088832 then (laws_toIntS.l0 k l0 (List.replicate ((l0.length : Int) : Int).toNat 0) 0) else (none)) else (none)) = some r := h
  clear h
  by_cases c2 : 0 ≤ (l0.length : Int)
  · rw [if_pos c2] at H
    have c2b0 := eq_true c2
    have c2b1 : decide (0 ≤ (l0.length : Int)) = true := decide_eq_true c2
    clear c2
    by_cases c3 : ((l0.length : Int) : Int).toNat ≤ 35184372088832
    · rw [if_pos c3] at H
      have c3b0 := eq_true c3
      have c3b1 : decide (((l0.length : Int) : Int).toNat ≤ 35184372088832) = true := decide_eq_true c3
      clear c3
      obtain ⟨y101, hy101⟩ : ∃ y_ : List Int, y_ = (List.replicate ((l0.length : Int) : Int).toNat 0) := ⟨_, rfl⟩
      replace H : (laws_toIntS.l0 k l0 y101 0) = some r := by first | (rw [hy101]; with_reducible exact H) | (have H2_ := (Option.bind_some _ _).symm.trans H; rw [hy101]; with_reducible exact H2_) | (have H2_ := (Option.bind_some _ _).symm.trans H; with_reducible exact H2_) | with_reducible exact H | (rw [hy101]; exact H) | exact H
      have Ny101 := Aside0.mk hy101
      clear hy101
      have H' := Aside0.mk H
      clear H
      go_enter Try.func26, Try.ntmps26
      go_wp2_with (first | ((with_reducible refine gate_dst (N := 7) rfl ?_); refine Kd.R_make (Kd.int .i64) _ 3 rfl (N := 7) rfl 22 _ _ rfl (l0.length : Int) rfl rfl Try.underlying22 (.int .i64 0) 8 info3 rfl (by decide) (by omega) 0 (ok := fun _ => True) (okp := fun _ => True) rfl (fun _ hk => hk) trivial (of_decide_eq_true (by first | (with_reducible assumption) | assumption)) (Nat.le_trans (Nat.mul_le_mul_right _ (of_decide_eq_true (by first | (with_reducible assumption) | assumption) : (l0.length : Int).toNat ≤ 35184372088832)) (by omega)) (Below.refl _ _) (Nat.le_refl _) ?_; intro v102 w4 ho5 hb hg_ hnew_; clear hg_ hnew_; (first | rw [← Ny101.out] at ho5 | (simp only [Int.reduceToNat] at ho5; rw [← Ny101.out] at ho5)); have n0_ := Aside0.mk (Kd.R_lower ho5 (below_size (by repeat (first | (with_reducible first | exact HB.out | apply below_alloc | apply pw_below_drewN | apply below_drew1) | exact HB.out)))); have n1_ := Aside0.mk (below_step (by repeat (first | (with_reducible first | exact HB.out | apply below_alloc | apply pw_below_drewN | apply below_drew1) | exact HB.out)) hb); clear HB; have HO103 := n0_; have HB := n1_; clear n0_ n1_; clear hb ho5))
      go_loopg [4] k (fun kq v4 w' => ∃ (x3_1 : List Int) (x4_1 : Int), v4 = .int .i64 x4_1 ∧ Aside0 (laws_toIntS.l0 kq l0 x3_1 x4_1 = some r) ∧ Aside0 (kq ≤ k) ∧ Aside0 (Kd.R (Kd.int .i64) 3 w' w.heap.size (fun _ => True) v102 x3_1) ∧ Aside0 (Below w.heap.size w w'))
      case atStart => exact ⟨(y101), (0), (by first | rfl | (simp; done) | (simp [*]; done)), H', ⟨Nat.le_refl _⟩, ⟨by (with_reducible repeat (first | apply Kd.R_alloc | apply Kd.R_drewN | apply Kd.R_drew)); exact HO103.out⟩, ⟨by repeat (first | (with_reducible first | exact HB.out | apply below_alloc | apply pw_below_drewN | apply below_drew1) | exact HB.out)⟩⟩
      case round =>
        clear H'
        try clear c2
        try clear c2b0
        try clear c2b1
        try clear p2
        try clear c3
        try clear c3b0
        try clear c3b1
        obtain ⟨x3_1, x4_1, rfl, HA, HK1, HO_3, HB⟩ := hrel
        cases gk with
        | zero => exact absurd HA.out (by simp [laws_toIntS.l0])
        | succ k1 =>
          have H := HA.out
          clear HA
          simp only [laws_toIntS.l0] at H
          by_cases c6 : x4_1 < (l0.length : Int)
          · rw [if_pos c6] at H
            have c6b0 : decide (x4_1 < (l0.length : Int)) = true := decide_eq_true c6
            clear c6
            by_cases c7 : 0 ≤ x4_1
            · rw [if_pos c7] at H
              have c7b0 : decide (0 ≤ x4_1) = true := decide_eq_true c7
              clear c7
              by_cases c8 : x4_1 < (x3_1.length : Int)
              · rw [if_pos c8] at H
                have c8b0 : decide (x4_1 < (x3_1.length : Int)) = true := decide_eq_true c8
                clear c8
                obtain ⟨y105, hy105⟩ : ∃ y_ : List Int, y_ = (x3_1.set (x4_1 : Int).toNat (rd l0 x4_1)) := ⟨_, rfl⟩
                replace H : (laws_toIntS.l0 k1 l0 y105 (wrap64 (x4_1 + 1))) = some r := by first | (rw [hy105]; with_reducible exact H) | (have H2_ := (Option.bind_some _ _).symm.trans H; rw [hy105]; with_reducible exact H2_) | (have H2_ := (Option.bind_some _ _).symm.trans H; with_reducible exact H2_) | with_reducible exact H | (rw [hy105]; exact H) | exact H
                have Ny105 := Aside0.mk hy105
                clear hy105
                have H' := Aside0.mk H
                clear H
                have p104 : 0 ≤ (x4_1 : Int) := of_decide_eq_true (by first | (with_reducible assumption) | assumption)
                have q104 : x4_1 < (l0.length : Int) := of_decide_eq_true (by first | (with_reducible assumption) | assumption)
                obtain ⟨ad104, e104, hx104_0⟩ := Kd.at_int HR0.out x4_1 p104 q104
                cases e104
                replace hx104_0 := (HB.out.cell (World.block_lt_of_cell? w _ hx104_0)).trans hx104_0
                replace p104 := eq_true p104
                replace q104 := eq_true q104
                have p9 : 0 ≤ (x4_1 : Int) := of_decide_eq_true (by first | (with_reducible assumption) | assumption)
                have q9 : (x4_1 : Int) < ((x3_1.length : Int) : Int) := of_decide_eq_true (by first | (with_reducible assumption) | assumption)
                obtain ⟨go9, co9, eo9, gb9, gl9, cl9, HG9⟩ := Kd.R_form HO_3.out (by omega)
                (first | cases eo9 | (injection eo9 with ea_ en_ ec_; (first | subst ea_ | (injection ea_ with ea_; subst ea_)); subst ec_; clear en_))
                have GB9 := Aside0.mk gb9
                have GG9 := Aside0.mk HG9
                clear gb9 gl9 HG9
                obtain ⟨hx9_0, hf9_0⟩ := Kd.R_celln 0 HO_3.out (x4_1 : Int) p9 q9
                replace p9 := eq_true p9
                replace q9 := eq_true q9
                have HP10 := Kd.R_putg HO_3.out (x4_1 : Int) (rd l0 x4_1)
                go_wp2_with (first | ((with_reducible refine gate_store (t := 3) (p := 20) rfl ?_); refine store_event (t := 3) (p := 20) (v := ?vo_w11) (w1 := (wr.setCell ⟨go9, (x4_1 : Int).toNat, none⟩ (.int .i64 (rd l0 x4_1)))) ?hg ?ho ?hn ?hr ?_; (case ho => rfl); (case hg => rfl); (case hn => rfl); (case hr => first | (go_simp; done) | (go_simp; rfl)); intro w11 hw; have hg : wr.grownBy w11 (some go9) := (by rw [hw]; exact HP10.2); have hp_ : Kd.R (Kd.int .i64) 3 w11 w.heap.size (fun _ => True) (.slice (some ⟨go9, 0, none⟩) x3_1.length co9) y105 := (by rw [hw, Ny105.out]; exact HP10.1); clear HP10; have n0_ := Aside0.mk (hp_); have n1_ := Aside0.mk ((by rw [hw]; exact below_set (HB.out) GB9.out : Below w.heap.size w w11)); clear HO_3; clear HB; have HO_3 := n0_; have HB := n1_; clear n0_ n1_; clear hg hw hp_))
                go_roundg k1
                case measure => have := HK1.out; omega
                case rel => exact ⟨(y105), (wrap64 (x4_1 + 1)), (by first | rfl | (simp; done) | (simp [*]; done)), H', ⟨by have := HK1.out; omega⟩, ⟨by (with_reducible repeat (first | apply Kd.R_alloc | apply Kd.R_drewN | apply Kd.R_drew)); exact HO_3.out⟩, ⟨by repeat (first | (with_reducible first | exact HB.out | apply below_alloc | apply pw_below_drewN | apply below_drew1) | exact HB.out)⟩⟩
              · rw [if_neg c8] at H
                exact absurd H (by simp)
            · rw [if_neg c7] at H
              exact absurd H (by simp)
          · rw [if_neg c6] at H
            have c6b0 : decide (x4_1 < (l0.length : Int)) = false := decide_eq_false c6
            clear c6
            obtain rfl := Option.some.inj H
            go_wp2
            go_ret
            exact ⟨_, by first | rfl | (simp [errW_none, errW_some] <;> rfl) | (simp [*, errW_none, errW_some] <;> rfl), by (with_reducible repeat (first | apply Kd.R_alloc | apply Kd.R_drewN | apply Kd.R_drew)); exact HO_3.out, by repeat (first | (with_reducible first | exact HB.out | apply below_alloc | apply pw_below_drewN | apply below_drew1) | exact HB.out)⟩
    · rw [if_neg c3] at H
      exact absurd H (by simp)
  · rw [if_neg c2] at H
    exact absurd H (by simp)

-- HAND with laws.toIntS
theorem toIntS_loop (l : List Int) (hlen : l.length < 9223372036854775807) : ∀ (d i : Nat) (x : List Int), l.length - i = d → i ≤ l.length → x.length = l.length → (∀ j, j < i → x[j]? = l[j]?) → Ev (fun k => laws_toIntS.l0 k l x i) l := by
  intro d
  induction d with
  | zero =>
    intro i x hd hi hx hj
    refine Ev.succ (fun k => by simp only [laws_toIntS.l0]; rw [if_neg (by omega)]) (Ev.const (congrArg some ?_))
    apply List.ext_getElem?
    intro j
    rcases Nat.lt_or_ge j i with h | h
    · exact hj j h
    · rw [List.getElem?_eq_none (by omega), List.getElem?_eq_none (by omega)]
  | succ d ih =>
    intro i x hd hi hx hj
    refine Ev.succ (fun k => by simp only [laws_toIntS.l0]; rw [if_pos (by omega), if_pos (by omega), if_pos (by omega), wrap_succ (by omega) (by omega), Int.toNat_natCast]) ?_
    refine ih (i + 1) _ (by omega) (by omega) (by simpa using hx) (fun j hji => ?_)
    rw [List.getElem?_set]
    by_cases e : i = j
    · subst e
      have hil : i < l.length := by omega
      simp [hx, hil, rd, List.getD]
    · rw [if_neg e]
      exact hj j (by omega)
theorem toIntS_ok (l : List Int) (hlen : l.length ≤ 35184372088832) : Ev (fun k => laws_toIntS.f k l) l := by
  refine Ev.to (fun k => by unfold laws_toIntS.f; rw [if_pos (by omega), if_pos (by omega)]) ?_
  exact toIntS_loop l (by omega) l.length 0 _ (by omega) (by omega) (by simp) (fun j h => absurd h (Nat.not_lt_zero _))

/-! ### laws_toSpace: function 9 -/
def laws_toSpace.f (k : Nat) (a0_0 : Int) (l0_1 : List Int) : Option (Int × List Int) := (laws_toIntS.f k l0_1).bind fun t104 => (some (a0_0, t104))
theorem laws_toSpace.mono : ∀ a0 a1 k, LeO (laws_toSpace.f k a0 a1) (laws_toSpace.f (k + 1) a0 a1) := by
  intro a0 a1 k
  unfold laws_toSpace.f
  repeat' first
      | (with_reducible exact laws_toIntS.mono _ _)
      | (with_reducible exact LeO.refl _)
      | (with_reducible exact LeO.none _)
      | (with_reducible refine LeO.ite ?_ ?_)
      | (with_reducible refine LeO.bind ?_ (fun _ => ?_))
      | exact laws_toIntS.mono _ _
      | exact LeO.none _
      | refine LeO.ite ?_ ?_
      | refine LeO.bind ?_ (fun _ => ?_)
set_option maxHeartbeats 8000000 in
set_option maxRecDepth 100000 in
theorem laws_toSpace.calls (k : Nat) (a0_0 : Int) (A0_1 : Option Addr) (c0_1 : Nat) (l0_1 : List Int) (r1 : Int) (r2 : List Int) (w : World) (hr0_1 : Kd.C (Kd.int .i64) w A0_1 l0_1.length l0_1) (hc0_1 : l0_1.length ≤ c0_1) (h : laws_toSpace.f k a0_0 l0_1 = some (r1, r2)) :
    Calls Try.prog 9 #[.agg #[.int .i64 a0_0, .slice A0_1 l0_1.length c0_1]] w fun e w' => ∃ v1_ : Value, e = .returned (.agg #[.int .i64 r1, v1_]) ∧ Kd.R (Kd.int .i64) 3 w' w.heap.size (fun _ => True) v1_ r2 ∧ Below w.heap.size w w' := by
  have hu24 := Try.underlying24
  have hu28 := Try.underlying28
  have HR0_1 := Aside0.mk hr0_1
  have HC0_1 := Aside0.mk hc0_1
  clear hr0_1 hc0_1
  have HB := Aside0.mk (Below.refl w.heap.size w)
  have H : ((laws_toIntS.f k l0_1).bind fun t104 => (some (a0_0, t104))) = some (r1, r2) := h
  clear h
  replace H := Option.bind_eq_some_iff.mp H
  obtain ⟨t104, A20, H⟩ := H
  replace H : (some (a0_0, t104)) = some (r1, r2) := H
  have A2 := Aside0.mk A20
  clear A20
  simp only [Option.some.injEq, Prod.mk.injEq] at H
  obtain ⟨rfl, rfl⟩ := H
  go_enter Try.func9, Try.ntmps9
  go_wp2_with (first | ((with_reducible refine gate_dst (N := 1) rfl ?_); refine box_event ?hg (N := 1) ?hd (cs := #[.int .i64 a0_0, .slice A0_1 l0_1.length c0_1]) (t := 24) ?hr ?_; (case hd => rfl); (case hg => rfl); (case hr => first | (go_simp; done) | (go_simp; rfl)); intro gb101 hg w3 hbox hb; have n0_ := Aside0.mk (below_step (by repeat (first | (with_reducible first | exact HB.out | apply below_alloc | apply pw_below_drewN | apply below_drew1) | exact HB.out)) hb); have n1_ := Aside0.mk (hbox); have n2_ := Aside0.mk ((by rw [hg]; exact (below_size (by repeat (first | (with_reducible first | exact HB.out | apply below_alloc | apply pw_below_drewN | apply below_drew1) | exact HB.out))) : w.heap.size ≤ gb101)); have n3_ := Aside0.mk ((by rw [hg]; exact (below_size (by repeat (first | (with_reducible first | exact HB.out | apply below_alloc | apply pw_below_drewN | apply below_drew1) | exact HB.out))) : w.heap.size ≤ gb101)); clear HB; have HB := n0_; have BK101 := n1_; have GW101 := n2_; have GE101 := n3_; clear n0_ n1_ n2_ n3_; clear hb hbox hg) | ((with_reducible refine gate_dst (N := 2) rfl ?_); refine box_event ?hg (N := 2) ?hd (cs := #[.int .i64 0, .slice none 0 0]) (t := 28) ?hr ?_; (case hd => rfl); (case hg => rfl); (case hr => first | (go_simp; done) | (go_simp; rfl)); intro gb102 hg w4 hbox hb; have n0_ := Aside0.mk (blk_below (g := gb101) (o := .cells #[.int .i64 a0_0, .slice A0_1 l0_1.length c0_1] 24 (0, 0)) (by (with_reducible repeat (first | refine blk_drewN ?_ _ | refine blk_drew ?_ | refine blk_alloc ?_ _)); exact BK101.out) hb); have n1_ := Aside0.mk (below_step (by repeat (first | (with_reducible first | exact HB.out | apply below_alloc | apply pw_below_drewN | apply below_drew1 | refine below_set ?_ GE101.out) | exact HB.out)) hb); have n2_ := Aside0.mk (hbox); have n3_ := Aside0.mk ((by rw [hg]; exact (below_size (by repeat (first | (with_reducible first | exact HB.out | apply below_alloc | apply pw_below_drewN | apply below_drew1 | refine below_set ?_ GE101.out) | exact HB.out))) : w.heap.size ≤ gb102)); have n4_ := Aside0.mk ((by rw [hg]; exact (below_size (by repeat (first | (with_reducible first | exact HB.out | apply below_alloc | apply pw_below_drewN | apply below_drew1 | refine below_set ?_ GE101.out) | exact HB.out))) : w.heap.size ≤ gb102)); have n5_ := Aside0.mk ((by rw [hg]; exact Nat.ne_of_lt (blk_lt (g := gb101) (o := .cells #[.int .i64 a0_0, .slice A0_1 l0_1.length c0_1] 24 (0, 0)) (by (with_reducible repeat (first | refine blk_drewN ?_ _ | refine blk_drew ?_ | refine blk_alloc ?_ _)); exact BK101.out)) : gb101 ≠ gb102)); have n6_ := Aside0.mk ((by rw [hg]; exact Nat.ne_of_gt (blk_lt (g := gb101) (o := .cells #[.int .i64 a0_0, .slice A0_1 l0_1.length c0_1] 24 (0, 0)) (by (with_reducible repeat (first | refine blk_drewN ?_ _ | refine blk_drew ?_ | refine blk_alloc ?_ _)); exact BK101.out)) : gb102 ≠ gb101)); clear BK101; clear HB; have BK101 := n0_; have HB := n1_; have BK102 := n2_; have GW102 := n3_; have GE102 := n4_; have NB101_102 := n5_; have NB102_101 := n6_; clear n0_ n1_ n2_ n3_ n4_ n5_ n6_; clear hb hbox hg) | ((with_reducible refine gate_dst (N := 3) rfl ?_); refine box_event ?hg (N := 3) ?hd (cs := #[.int .i64 0, .slice none 0 0]) (t := 28) ?hr ?_; (case hd => rfl); (case hg => rfl); (case hr => first | (go_simp; done) | (go_simp; rfl)); intro gb103 hg w5 hbox hb; have n0_ := Aside0.mk (blk_below (g := gb101) (o := .cells #[.int .i64 a0_0, .slice A0_1 l0_1.length c0_1] 24 (0, 0)) (by (with_reducible repeat (first | refine blk_drewN ?_ _ | refine blk_drew ?_ | refine blk_alloc ?_ _)); exact BK101.out) hb); have n1_ := Aside0.mk (blk_below (g := gb102) (o := .cells #[.int .i64 0, .slice none 0 0] 28 (0, 0)) (by (with_reducible repeat (first | refine blk_drewN ?_ _ | refine blk_drew ?_ | refine blk_alloc ?_ _)); exact BK102.out) hb); have n2_ := Aside0.mk (below_step (by repeat (first | (with_reducible first | exact HB.out | apply below_alloc | apply pw_below_drewN | apply below_drew1 | refine below_set ?_ GE101.out | refine below_set ?_ GE102.out) | exact HB.out)) hb); have n3_ := Aside0.mk (hbox); have n4_ := Aside0.mk ((by rw [hg]; exact (below_size (by repeat (first | (with_reducible first | exact HB.out | apply below_alloc | apply pw_below_drewN | apply below_drew1 | refine below_set ?_ GE101.out | refine below_set ?_ GE102.out) | exact HB.out))) : w.heap.size ≤ gb103)); have n5_ := Aside0.mk ((by rw [hg]; exact (below_size (by repeat (first | (with_reducible first | exact HB.out | apply below_alloc | apply pw_below_drewN | apply below_drew1 | refine below_set ?_ GE101.out | refine below_set ?_ GE102.out) | exact HB.out))) : w.heap.size ≤ gb103)); have n6_ := Aside0.mk ((by rw [hg]; exact Nat.ne_of_lt (blk_lt (g := gb101) (o := .cells #[.int .i64 a0_0, .slice A0_1 l0_1.length c0_1] 24 (0, 0)) (by (with_reducible repeat (first | refine blk_drewN ?_ _ | refine blk_drew ?_ | refine blk_alloc ?_ _)); exact BK101.out)) : gb101 ≠ gb103)); have n7_ := Aside0.mk ((by rw [hg]; exact Nat.ne_of_gt (blk_lt (g := gb101) (o := .cells #[.int .i64 a0_0, .slice A0_1 l0_1.length c0_1] 24 (0, 0)) (by (with_reducible repeat (first | refine blk_drewN ?_ _ | refine blk_drew ?_ | refine blk_alloc ?_ _)); exact BK101.out)) : gb103 ≠ gb101)); have n8_ := Aside0.mk ((by rw [hg]; exact Nat.ne_of_lt (blk_lt (g := gb102) (o := .cells #[.int .i64 0, .slice none 0 0] 28 (0, 0)) (by (with_reducible repeat (first | refine blk_drewN ?_ _ | refine blk_drew ?_ | refine blk_alloc ?_ _)); exact BK102.out)) : gb102 ≠ gb103)); have n9_ := Aside0.mk ((by rw [hg]; exact Nat.ne_of_gt (blk_lt (g := gb102) (o := .cells #[.int .i64 0, .slice none 0 0] 28 (0, 0)) (by (with_reducible repeat (first | refine blk_drewN ?_ _ | refine blk_drew ?_ | refine blk_alloc ?_ _)); exact BK102.out)) : gb103 ≠ gb102)); clear BK101; clear BK102; clear HB; have BK101 := n0_; have BK102 := n1_; have HB := n2_; have BK103 := n3_; have GW103 := n4_; have GE103 := n5_; have NB101_103 := n6_; have NB103_101 := n7_; have NB102_103 := n8_; have NB103_102 := n9_; clear n0_ n1_ n2_ n3_ n4_ n5_ n6_ n7_ n8_ n9_; clear hb hbox hg; have hnb6 := NB101_102.out; have hnc6 := NB102_101.out; have hnb7 := NB101_103.out; have hnc7 := NB103_101.out; have hcz8_0 : w5.cell? ⟨gb101, 0, none⟩ = some (.int .i64 a0_0) := (blk_cell BK101.out 0).trans rfl; have hcz8_1 : w5.cell? ⟨gb101, 1, none⟩ = some (.slice A0_1 l0_1.length c0_1) := (blk_cell BK101.out 1).trans rfl; have hfz8_0 := blk_frozen BK101.out 0; have hfz8_1 := blk_frozen BK101.out 1; have hnb9 := NB103_102.out; have hnc9 := NB102_103.out; have hcz10_0 : w5.cell? ⟨gb103, 0, none⟩ = some (.int .i64 0) := (blk_cell BK103.out 0).trans rfl; have hcz10_1 : w5.cell? ⟨gb103, 1, none⟩ = some (.slice none 0 0) := (blk_cell BK103.out 1).trans rfl; have hfz10_0 := blk_frozen BK103.out 0; have hfz10_1 := blk_frozen BK103.out 1) | ((with_reducible refine gate_callee (f := 26) rfl ?_); refine goesL_ (some 9) rfl rfl Try.func26 (by kernel_rfl) rfl #[.slice A0_1 l0_1.length c0_1] rfl (by (try simp only [List.map_toArray, List.map_cons, List.map_nil]); first | done | rfl | (simp only [List.length_drop, List.length_take]; rfl)) ?_; (with_reducible refine (laws_toIntS.calls k _ _ l0_1 t104 _ ?side1 ?side2 A2.out).mono ?_); (case side1 => exact Kd.C_below HR0_1.out (by repeat (first | (with_reducible first | exact HB.out | apply below_alloc | apply pw_below_drewN | apply below_drew1 | refine below_set ?_ GE101.out | refine below_set ?_ GE102.out | refine below_set ?_ GE103.out) | exact HB.out))); (case side2 => exact HC0_1.out); rintro e w11 ⟨v105, rfl, ho0, hb⟩; refine ⟨_, rfl, ?_⟩; have n0_ := Aside0.mk (Kd.R_lower ho0 (below_size (by repeat (first | (with_reducible first | exact HB.out | apply below_alloc | apply pw_below_drewN | apply below_drew1 | refine below_set ?_ GE101.out | refine below_set ?_ GE102.out | refine below_set ?_ GE103.out) | exact HB.out)))); have n1_ := Aside0.mk (blk_below (g := gb101) (o := .cells #[.int .i64 a0_0, .slice A0_1 l0_1.length c0_1] 24 (0, 0)) (by (with_reducible repeat (first | refine blk_drewN ?_ _ | refine blk_drew ?_ | refine blk_alloc ?_ _)); refine blk_far ?_ NB101_103.out _; (with_reducible repeat (first | refine blk_drewN ?_ _ | refine blk_drew ?_ | refine blk_alloc ?_ _)); exact BK101.out) hb); have n2_ := Aside0.mk (blk_below (g := gb102) (o := .cells #[.int .i64 0, .slice none 0 0] 28 (0, 0)) (by (with_reducible repeat (first | refine blk_drewN ?_ _ | refine blk_drew ?_ | refine blk_alloc ?_ _)); refine blk_far ?_ NB102_103.out _; (with_reducible repeat (first | refine blk_drewN ?_ _ | refine blk_drew ?_ | refine blk_alloc ?_ _)); exact BK102.out) hb); have n3_ := Aside0.mk (blk_below (g := gb103) (o := .cells #[.int .i64 a0_0, .slice none 0 0] 28 (0, 0)) (by (with_reducible repeat (first | refine blk_drewN ?_ _ | refine blk_drew ?_ | refine blk_alloc ?_ _)); refine blk_put (cs := #[.int .i64 0, .slice none 0 0]) ?_ 0 _ rfl; (with_reducible repeat (first | refine blk_drewN ?_ _ | refine blk_drew ?_ | refine blk_alloc ?_ _)); exact BK103.out) hb); have n4_ := Aside0.mk (below_step (by repeat (first | (with_reducible first | exact HB.out | apply below_alloc | apply pw_below_drewN | apply below_drew1 | refine below_set ?_ GE101.out | refine below_set ?_ GE102.out | refine below_set ?_ GE103.out) | exact HB.out)) hb); clear BK101; clear BK102; clear BK103; clear HB; have HO106 := n0_; have BK101 := n1_; have BK102 := n2_; have BK103 := n3_; have HB := n4_; clear n0_ n1_ n2_ n3_ n4_; (try clear hb); (try clear hb2); (try clear hk); (try clear hi); (try clear ho0); obtain ⟨Ao12, co12, eo12⟩ := Kd.R_slice HO106.out; subst eo12; have hcz13_0 : w11.cell? ⟨gb103, 0, none⟩ = some (.int .i64 a0_0) := (blk_cell BK103.out 0).trans rfl; have hcz13_1 : w11.cell? ⟨gb103, 1, none⟩ = some (.slice none 0 0) := (blk_cell BK103.out 1).trans rfl; have hfz13_0 := blk_frozen BK103.out 0; have hfz13_1 := blk_frozen BK103.out 1; have hcz14_0 : w11.cell? ⟨gb102, 0, none⟩ = some (.int .i64 0) := (blk_cell BK102.out 0).trans rfl; have hcz14_1 : w11.cell? ⟨gb102, 1, none⟩ = some (.slice none 0 0) := (blk_cell BK102.out 1).trans rfl; have hfz14_0 := blk_frozen BK102.out 0; have hfz14_1 := blk_frozen BK102.out 1))
  refine bodyPost_ret (results_cell_row rfl _ _ gb102 28 #[.int .i64 a0_0, .slice Ao12 t104.length co12] (0, 0) _ rfl (by (with_reducible repeat (first | refine blk_drewN ?_ _ | refine blk_drew ?_ | refine blk_alloc ?_ _)); refine blk_put (cs := #[.int .i64 a0_0, .slice none 0 0]) ?_ 1 _ rfl; (with_reducible repeat (first | refine blk_drewN ?_ _ | refine blk_drew ?_ | refine blk_alloc ?_ _)); refine blk_put (cs := #[.int .i64 0, .slice none 0 0]) ?_ 0 _ rfl; (with_reducible repeat (first | refine blk_drewN ?_ _ | refine blk_drew ?_ | refine blk_alloc ?_ _)); refine blk_far ?_ NB102_103.out _; (with_reducible repeat (first | refine blk_drewN ?_ _ | refine blk_drew ?_ | refine blk_alloc ?_ _)); exact BK102.out) Try.underlying28 rfl (by kernel_rfl)) rfl ?_
  exact ⟨_, by first | rfl | (simp [errW_none, errW_some] <;> rfl) | (simp [*, errW_none, errW_some] <;> rfl), by (with_reducible repeat (first | apply Kd.R_alloc | apply Kd.R_drewN | apply Kd.R_drew)); exact Kd.R_mono (Kd.R_far (p := ⟨gb102, 1, none⟩) (Kd.R_far (p := ⟨gb102, 0, none⟩) (Kd.R_far (p := ⟨gb103, 1, none⟩) (Kd.R_types (Kd.R_types HO106.out BK103.out (by decide)) BK102.out (by decide)) (fun _ hk => hk.1.2) (.slice Ao12 t104.length co12)) (fun _ hk => hk.2) (.int .i64 a0_0)) (fun _ hk => hk.2) (.slice Ao12 t104.length co12)) (fun _ hk => trivial), by repeat (first | (with_reducible first | exact HB.out | apply below_alloc | apply pw_below_drewN | apply below_drew1 | refine below_set ?_ GE101.out | refine below_set ?_ GE102.out | refine below_set ?_ GE103.out) | exact HB.out)⟩

-- HAND with laws.toSpace
theorem toSpace_ok (n : Int) (l : List Int) (hlen : l.length ≤ 35184372088832) : Ev (fun k => laws_toSpace.f k n l) (n, l) := by
  unfold laws_toSpace.f
  exact Ev.bind (toIntS_ok l hlen) (Ev.const rfl)

end Go.Proofs.Ytkggkllcmoiacaa.Q
