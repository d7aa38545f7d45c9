/- Contracts of functions that the laws reach: a call returns what the plain Lean function of the same name tells. Conditions: those of each theorem. Made by gen.py, a program of this session, over the print of the translation. -/
import Derived.Test.YtkepeflplmkcmaaPx0
import Derived.Test.YtkepeflplmkcmaaPx1
namespace Go.Proofs.Ytkepeflplmkcmaa.Q
open Go.RowKit Go.Proofs.YtkepeflplmkcmaaW.PrintWords Go.Proofs.YtkepeflplmkcmaaW.PrintLast Go.Proofs.YtkepeflplmkcmaaW.PrintMore
attribute [local go_sem] max2_int min2_int max_two min_two max_three min_three max_four min_four   -- for this text's walks alone
set_option linter.unusedVariables false
set_option linter.unusedSimpArgs false

/-! ### spec_asKnown: function 130 -/
def spec_asKnown.l0 : Nat → Int → Int → List Int → Int → Int → Option (Int × Int)
 | 0, _, _, _, _, _ => none
 | k + 1, x7, x8, x17, x18, x19 => if x19 < x18 then (if 0 ≤ x19 then (if x19 < (x17.length : Int) then (spec_asKnown.l0 k (Go.bits .and .i64 x7 (rd x17 x19)) (Go.bits .andNot .i64 x8 (rd x17 x19)) x17 x18 (wrap64 (x19 + 1))) else (none)) else (none)) else (some (x7, x8))
def spec_asKnown.f (k : Nat) (a0_0 : Int) (l0_1 : List Int) (l1 : List Int) : Option (Int × Int) := if 0 ≤ a0_0 then (spec_asKnown.l0 k (wrap64 ((shl .i64 1 a0_0) - 1)) (wrap64 ((shl .i64 1 a0_0) - 1)) l1 (l1.length : Int) 0) else (none)
theorem spec_asKnown.mono_l : ∀ k, (∀ y0 y1 y2 y3 y4, LeO (spec_asKnown.l0 k y0 y1 y2 y3 y4) (spec_asKnown.l0 (k + 1) y0 y1 y2 y3 y4))
 | 0 => fun _ _ _ _ _ r h => by simp [spec_asKnown.l0] at h
 | k + 1 => by
  have ih0 := spec_asKnown.mono_l k
  ·
   intro y0 y1 y2 y3 y4
   unfold spec_asKnown.l0
   repeat' first
   | (with_reducible exact ih0 _ _ _ _ _)
   | (with_reducible exact LeO.refl _)
   | (with_reducible exact LeO.none _)
   | (with_reducible refine LeO.ite ?_ ?_)
   | (with_reducible refine LeO.bind ?_ (fun _ => ?_))
   | exact ih0 _ _ _ _ _
   | exact LeO.none _
   | refine LeO.ite ?_ ?_
   | refine LeO.bind ?_ (fun _ => ?_)
theorem spec_asKnown.mono : ∀ a0 a1 a2 k, LeO (spec_asKnown.f k a0 a1 a2) (spec_asKnown.f (k + 1) a0 a1 a2) := by
 intro a0 a1 a2 k
 have ih0 := spec_asKnown.mono_l k
 unfold spec_asKnown.f
 repeat' first
   | (with_reducible exact ih0 _ _ _ _ _)
   | (with_reducible exact LeO.refl _)
   | (with_reducible exact LeO.none _)
   | (with_reducible refine LeO.ite ?_ ?_)
   | (with_reducible refine LeO.bind ?_ (fun _ => ?_))
   | exact ih0 _ _ _ _ _
   | exact LeO.none _
   | refine LeO.ite ?_ ?_
   | refine LeO.bind ?_ (fun _ => ?_)
set_option maxHeartbeats 8000000 in
set_option maxRecDepth 100000 in
theorem spec_asKnown.calls (k : Nat) (a0_0 : Int) (A0_1 : Option Addr) (c0_1 : Nat) (l0_1 : List Int) (A1 : Option Addr) (c1 : Nat) (l1 : List Int) (r1 : Int) (r2 : Int) (w : World) (hr0_1 : Kd.C (Kd.int .i64) w A0_1 l0_1.length l0_1) (hc0_1 : l0_1.length ≤ c0_1) (hr1 : Kd.C (Kd.int .i64) w A1 l1.length l1) (hc1 : l1.length ≤ c1) (h : spec_asKnown.f k a0_0 l0_1 l1 = some (r1, r2)) :
  Calls Try.prog 130 #[.agg #[.int .i64 a0_0, .slice A0_1 l0_1.length c0_1], .slice A1 l1.length c1] w fun e w' => e = .returned (.tuple #[.int .i64 r1, .int .i64 r2]) ∧ Below w.heap.size w w' := by
 have hu28 := Try.underlying28
 have HR0_1 := asd hr0_1
 have HC0_1 := asd hc0_1
 clear hr0_1 hc0_1
 have HR1 := asd hr1
 have HC1 := asd hc1
 clear hr1 hc1
 have HB := asd (Below.refl w.heap.size w)
 have H : (if 0 ≤ a0_0 then (spec_asKnown.l0 k (wrap64 ((shl .i64 1 a0_0) - 1)) (wrap64 ((shl .i64 1 a0_0) - 1)) l1 (l1.length : Int) 0) else (none)) = some (r1, r2) := h
 clear h
 by_cases c3 : 0 ≤ a0_0
 ·
  rw [if_pos c3] at H
  have c3b0 := eq_true c3
  have c3b1 : decide (0 ≤ a0_0) = true := decide_eq_true c3
  clear c3
  obtain ⟨ji4, hji4⟩ : ∃ j_ : Int, (shl .i64 1 a0_0) = j_ := ⟨_, rfl⟩
  replace H : (spec_asKnown.l0 k (wrap64 ((ji4) - 1)) (wrap64 ((ji4) - 1)) l1 (l1.length : Int) 0) = some (r1, r2) := by first | (rw [hji4] at H; exact H) | (simp only [hji4] at H ⊢; exact H)
  have hji4_ : (IntKind.i64.wrap (1 * 2 ^ min a0_0.toNat 64)) = ji4 := hji4
  have hji4z : a0_0 ≤ 64 → (IntKind.i64.wrap (1 * 2 ^ a0_0.toNat)) = ji4 := shl_small hji4
  have hji4u : (IntKind.i64.wrap (2 ^ min a0_0.toNat 64)) = ji4 := by have h_ := hji4_; rw [Int.one_mul] at h_; exact h_
  have hji4v : a0_0 ≤ 64 → (IntKind.i64.wrap (2 ^ a0_0.toNat)) = ji4 := fun hle_ => by have h_ := hji4z hle_; rw [Int.one_mul] at h_; exact h_
  have hji4y : (wrap64 (1 * 2 ^ min a0_0.toNat 64)) = ji4 := (i64_w _).symm.trans hji4_
  have hji4x : a0_0 ≤ 64 → (wrap64 (1 * 2 ^ a0_0.toNat)) = ji4 := fun h_ => (i64_w _).symm.trans (hji4z h_)
  have H' := asd H
  clear H
  go_enter Try.func130, Try.ntmps130
  go_wp2_with (first | ((with_reducible refine gate_dst (N := 2) rfl ?_); refine box_event ?hg (N := 2) ?hd (cs := #[.int .i64 a0_0, .slice A0_1 l0_1.length c0_1]) (t := 28) ?hr ?_; (case hd => rfl); (case hg => rfl); (case hr => first | (go_simp; done) | (go_simp; rfl)); intro gb101 hg w5 hbox hb; have n0_ := asd (below_step (by repeat (first | (with_reducible first | exact HB.out | apply below_alloc | apply pw_below_drewN | apply below_drew1) | exact HB.out)) hb); have n1_ := asd (hbox); have n2_ := asd ((by rw [hg]; exact (below_size (by repeat (first | (with_reducible first | exact HB.out | apply below_alloc | apply pw_below_drewN | apply below_drew1) | exact HB.out))) : w.heap.size ≤ gb101)); have n3_ := asd ((by rw [hg]; exact (below_size (by repeat (first | (with_reducible first | exact HB.out | apply below_alloc | apply pw_below_drewN | apply below_drew1) | exact HB.out))) : w.heap.size ≤ gb101)); clear HB; have HB := n0_; have BK101 := n1_; have GW101 := n2_; have GE101 := n3_; clear n0_ n1_ n2_ n3_; clear hb hbox hg; have hcz6_0 : w5.cell? ⟨gb101, 0, none⟩ = some (.int .i64 a0_0) := (blk_cell BK101.out 0).trans rfl; have hcz6_1 : w5.cell? ⟨gb101, 1, none⟩ = some (.slice A0_1 l0_1.length c0_1) := (blk_cell BK101.out 1).trans rfl; have hfz6_0 := blk_frozen BK101.out 0; have hfz6_1 := blk_frozen BK101.out 1))
  go_loopg [7, 8, 19] k (fun kq v7 v8 v19 w' => ∃ (x7_1 : Int) (x8_1 : Int) (x19_1 : Int), v7 = .int .i64 x7_1 ∧ v8 = .int .i64 x8_1 ∧ v19 = .int .i64 x19_1 ∧ Aside0 (spec_asKnown.l0 kq x7_1 x8_1 l1 (l1.length : Int) x19_1 = some (r1, r2)) ∧ Aside0 (kq ≤ k) ∧ Aside0 (w'.heap[gb101]? = some (.cells #[.int .i64 a0_0, (.slice A0_1 l0_1.length c0_1)] 28 (0, 0))) ∧ Aside0 (Below w.heap.size w w'))
  case atStart => exact ⟨(wrap64 ((ji4) - 1)), (wrap64 ((ji4) - 1)), (0), (by first | rfl | (simp; done) | (simp only [← hji4] <;> (first | rfl | simp)) | (simp [*]; done)), (by first | rfl | (simp; done) | (simp only [← hji4] <;> (first | rfl | simp)) | (simp [*]; done)), (by first | rfl | (simp; done) | (simp [*]; done)), H', ⟨Nat.le_refl _⟩, ⟨by (with_reducible repeat (first | refine blk_drewN ?_ _ | refine blk_drew ?_ | refine blk_alloc ?_ _)); exact BK101.out⟩, ⟨by repeat (first | (with_reducible first | exact HB.out | apply below_alloc | apply pw_below_drewN | apply below_drew1 | refine below_set ?_ GE101.out) | exact HB.out)⟩⟩
  case round =>
   clear H'
   try clear c1
   try clear p2
   try clear c3
   try clear c3b0
   try clear c3b1
   try clear p6
   try clear hcz6_0
   try clear hcz6_1
   try clear hfz6_0
   try clear hfz6_1
   skip
   obtain ⟨x7_1, x8_1, x19_1, rfl, rfl, rfl, HA, HK1, BK101, HB⟩ := hrel
   cases gk with
   | zero => exact absurd HA.out (by simp [spec_asKnown.l0])
   | succ k1 =>
    have H := HA.out
    clear HA
    simp only [spec_asKnown.l0] at H
    by_cases c7 : x19_1 < (l1.length : Int)
    ·
     rw [if_pos c7] at H
     have c7b0 : decide (x19_1 < (l1.length : Int)) = true := decide_eq_true c7
     clear c7
     by_cases c8 : 0 ≤ x19_1
     ·
      rw [if_pos c8] at H
      have c8b0 : decide (0 ≤ x19_1) = true := decide_eq_true c8
      clear c8
      by_cases c9 : x19_1 < (l1.length : Int)
      ·
       rw [if_pos c9] at H
       have c9b0 : decide (x19_1 < (l1.length : Int)) = true := decide_eq_true c9
       clear c9
       have H' := asd H
       clear H
       have p102 : 0 ≤ (x19_1 : Int) := of_decide_eq_true (by first | (with_reducible assumption) | assumption)
       have q102 : x19_1 < (l1.length : Int) := of_decide_eq_true (by first | (with_reducible assumption) | assumption)
       obtain ⟨ad102, e102, hx102_0⟩ := Kd.at_int HR1.out x19_1 p102 q102
       cases e102
       replace hx102_0 := (HB.out.cell (World.block_lt_of_cell? w _ hx102_0)).trans hx102_0
       replace p102 := eq_true p102
       replace q102 := eq_true q102
       go_wp2
       go_roundg k1
       case measure => have := HK1.out; omega
       case rel => exact ⟨(Go.bits .and .i64 x7_1 (rd l1 x19_1)), (Go.bits .andNot .i64 x8_1 (rd l1 x19_1)), (wrap64 (x19_1 + 1)), (by first | rfl | (simp; done) | (simp [*]; done)), (by first | rfl | (simp; done) | (simp [*]; done)), (by first | rfl | (simp; done) | (simp [*]; done)), H', ⟨by have := HK1.out; omega⟩, ⟨by (with_reducible repeat (first | refine blk_drewN ?_ _ | refine blk_drew ?_ | refine blk_alloc ?_ _)); exact BK101.out⟩, ⟨by repeat (first | (with_reducible first | exact HB.out | apply below_alloc | apply pw_below_drewN | apply below_drew1 | refine below_set ?_ GE101.out) | exact HB.out)⟩⟩
      ·
       rw [if_neg c9] at H
       exact absurd H (by simp)
     ·
      rw [if_neg c8] at H
      exact absurd H (by simp)
    ·
     rw [if_neg c7] at H
     have c7b0 : decide (x19_1 < (l1.length : Int)) = false := decide_eq_false c7
     clear c7
     simp only [Option.some.injEq, Prod.mk.injEq] at H
     obtain ⟨rfl, rfl⟩ := H
     go_wp2
     go_ret2
     exact ⟨by first | rfl | (simp [errW_none, errW_some] <;> rfl) | (simp only [← hji4]; first | rfl | (simp [errW_none, errW_some] <;> rfl)) | (simp [*, errW_none, errW_some] <;> rfl), by repeat (first | (with_reducible first | exact HB.out | apply below_alloc | apply pw_below_drewN | apply below_drew1 | refine below_set ?_ GE101.out) | exact HB.out)⟩
 ·
  rw [if_neg c3] at H
  exact absurd H (by simp)

-- HAND with spec.asKnown
def knownL : List Int → Int → Int → Int × Int
  | [], i, o => (i, o)
  | x :: b, i, o => knownL b ((i.toNat &&& x.toNat : Nat) : Int) ((nd o.toNat x.toNat : Nat) : Int)
theorem asKnown_loop (l : List Int) (hlen : l.length < 9223372036854775807) (hM : ∀ x ∈ l, I128 x) : ∀ (b a : List Int) (i o : Int), a ++ b = l → I128 i → I128 o → Ev (fun k => spec_asKnown.l0 k i o l l.length a.length) (knownL b i o)
  | [], a, i, o, hab, hi, ho => by
    rw [List.append_nil] at hab
    subst hab
    exact Ev.succ (fun k => by simp only [spec_asKnown.l0]; rw [if_neg (by omega)]) (Ev.const (by rw [knownL]))
  | x :: b, a, i, o, hab, hi, ho => by
    have hlt : a.length < l.length := by rw [← hab]; simp
    have hrd : rd l (a.length : Int) = x := by rw [← hab]; exact rd_append a b x
    have hx := hM x (by rw [← hab]; simp)
    refine Ev.succ (fun k => by simp only [spec_asKnown.l0]; rw [if_pos (by omega), if_pos (by omega), if_pos (by omega), hrd, and_int hi hx, nd_int ho hx, wrap_succ (by omega) (by omega)]) ?_
    have := asKnown_loop l hlen hM b (a ++ [x]) _ _ (by rw [List.append_assoc]; exact hab) (and_i128 (y := x) hi) (nd_i128 (y := x) ho)
    rw [List.length_append, List.length_singleton] at this
    push_cast at this
    exact this
theorem asKnown_ok {n : Int} (h1 : 1 ≤ n) (h7 : n ≤ 7) (a0 l : List Int) (hlen : l.length < 9223372036854775807) (hM : ∀ x ∈ l, I128 x) : Ev (fun k => spec_asKnown.f k n a0 l) (knownL l (2 ^ n.toNat - 1) (2 ^ n.toNat - 1)) := by
  have hp := pow128 (n := n) (by omega) h7
  refine Ev.to (fun k => by unfold spec_asKnown.f; rw [if_pos (by omega), wrapPow (by omega) h7]) ?_
  exact asKnown_loop l hlen hM l [] _ _ rfl ⟨by omega, by omega⟩ ⟨by omega, by omega⟩

-- HAND lib halfK
def cntB (i : Nat) : List Int → Int
  | [] => 0
  | x :: L => (if x.toNat.testBit i = true then 1 else 0) + cntB i L
/-- How far an item is from the middle. -/
def midV (L : List Int) (i : Nat) : Int := absM (2 * cntB i L - L.length)
def orA (L : List Int) (o : Nat) : Nat := L.foldl (fun o x => o ||| x.toNat) o
def andA (L : List Int) (a : Nat) : Nat := L.foldl (fun a x => a &&& x.toNat) a
theorem orA_bit (j : Nat) : ∀ (L : List Int) (o : Nat), (orA L o).testBit j = (o.testBit j || L.any fun x => x.toNat.testBit j)
  | [], o => by simp [orA]
  | x :: L, o => by
    show (orA L (o ||| x.toNat)).testBit j = _
    rw [orA_bit j L, Nat.testBit_or, List.any_cons, Bool.or_assoc]
theorem andA_bit (j : Nat) : ∀ (L : List Int) (a : Nat), (andA L a).testBit j = (a.testBit j && L.all fun x => x.toNat.testBit j)
  | [], a => by simp [andA]
  | x :: L, a => by
    show (andA L (a &&& x.toNat)).testBit j = _
    rw [andA_bit j L, Nat.testBit_and, List.all_cons, Bool.and_assoc]
/-- The items that are in some and not in all. -/
def openS (L : List Int) : Nat := nd (orA L 0) (andA L 127)
theorem knownL_bits : ∀ (L : List Int) (i o : Nat), ∃ p q : Nat, knownL L i o = ((p : Int), (q : Int)) ∧ p ≤ i ∧ q ≤ o ∧ ∀ j, p.testBit j = (i.testBit j && L.all fun x => x.toNat.testBit j) ∧ q.testBit j = (o.testBit j && L.all fun x => !x.toNat.testBit j)
  | [], i, o => ⟨i, o, rfl, Nat.le_refl _, Nat.le_refl _, fun j => by simp⟩
  | x :: L, i, o => by
    obtain ⟨p, q, h1, h2, h3, h4⟩ := knownL_bits L (i &&& x.toNat) (nd o x.toNat)
    refine ⟨p, q, ?_, Nat.le_trans h2 Nat.and_le_left, Nat.le_trans h3 (sub_le (fun j hj => by rw [nd_testBit, Bool.and_eq_true] at hj; exact hj.1)), fun j => ?_⟩
    · show knownL L (((i : Int).toNat &&& x.toNat : Nat) : Int) ((nd (o : Int).toNat x.toNat : Nat) : Int) = _
      rw [Int.toNat_natCast, Int.toNat_natCast]
      exact h1
    · rw [(h4 j).1, (h4 j).2, Nat.testBit_and, nd_testBit, List.all_cons, List.all_cons, Bool.and_assoc, Bool.and_assoc]
      exact ⟨rfl, rfl⟩

-- HAND lib askval
/-- The sets that have an item, and those that have it not. -/
def hasF (i : Nat) (L : List Int) : List Int := L.filter fun x => x.toNat.testBit i
def hasntF (i : Nat) (L : List Int) : List Int := L.filter fun x => !x.toNat.testBit i
/-- The least over some items; the first is taken whatever it is. -/
def minV (v : Nat → Int) : List Nat → Bool → Int → Int
 | [], _, b => b
 | i :: I, f, b => minV v I false (if f = true ∨ v i < b then v i else b)
/-- What it costs to find a set, with so many rounds. -/
def valV (c : Int → Int → Int → Int) : Nat → List Int → Int
 | 0, _ => 0
 | d + 1, L => minV (fun i => c L.length (valV c d (hasF i L)) (valV c d (hasntF i L))) (itemsN (openS L)) true 0
def cW (_ p q : Int) : Int := 1 + if p < q then q else p
def cT (s p q : Int) : Int := s + p + q
theorem minV_congr {v v' : Nat → Int} : ∀ (I : List Nat) (f : Bool) (b : Int), (∀ i ∈ I, v i = v' i) → minV v I f b = minV v' I f b
 | [], _, _, _ => rfl
 | i :: I, f, b, h => by
  show minV v I false _ = minV v' I false _
  rw [h i (by simp)]
  exact minV_congr I _ _ (fun j hj => h j (by simp [hj]))
theorem minV_bounds {v : Nat → Int} {lo hi : Int} : ∀ (I : List Nat) (f : Bool) (b : Int), (∀ i ∈ I, lo ≤ v i ∧ v i ≤ hi) → lo ≤ b → b ≤ hi → lo ≤ minV v I f b ∧ minV v I f b ≤ hi
 | [], _, _, _, h1, h2 => ⟨h1, h2⟩
 | i :: I, f, b, h, h1, h2 => by
  have hi := h i (by simp)
  show lo ≤ minV v I false _ ∧ minV v I false _ ≤ _
  split
  ·
   exact minV_bounds I _ _ (fun j hj => h j (by simp [hj])) hi.1 hi.2
  ·
   exact minV_bounds I _ _ (fun j hj => h j (by simp [hj])) h1 h2
/-- The least over some items, from a bound on. -/
def minS (v : Nat → Int) : List Nat → Int → Int
 | [], b => b
 | i :: I, b => minS v I (if v i < b then v i else b)
theorem minV_false {v : Nat → Int} : ∀ (I : List Nat) (b : Int), minV v I false b = minS v I b
 | [], _ => rfl
 | i :: I, b => by
  show minV v I false _ = minS v I _
  rw [minV_false I]
  simp
theorem minS_minV {v : Nat → Int} {B : Int} : ∀ (I : List Nat), I ≠ [] → (∀ i ∈ I, v i < B) → minS v I B = minV v I true 0
 | [], h, _ => absurd rfl h
 | i :: I, _, h => by
  show minS v I _ = minV v I false _
  rw [if_pos (h i (by simp)), if_pos (Or.inl rfl), minV_false]
theorem minS_mem {v : Nat → Int} : ∀ (I : List Nat) (b : Int), minS v I b = b ∨ ∃ i ∈ I, minS v I b = v i
 | [], b => .inl rfl
 | j :: I, b => by
  rcases minS_mem (v := v) I (if v j < b then v j else b) with h | ⟨i, hi, h⟩
  ·
   show minS v I _ = b ∨ ∃ i ∈ j :: I, minS v I _ = v i
   rw [h]
   by_cases hh : v j < b
   ·
    rw [if_pos hh]
    exact .inr ⟨j, by simp, rfl⟩
   ·
    rw [if_neg hh]
    exact .inl rfl
  ·
   exact .inr ⟨i, by simp [hi], h⟩
/-- The least is met. -/
theorem minV_mem {v : Nat → Int} : ∀ (I : List Nat), I ≠ [] → ∃ i ∈ I, minV v I true 0 = v i
 | [], h => absurd rfl h
 | j :: I, _ => by
  show ∃ i ∈ j :: I, minV v I false _ = v i
  rw [if_pos (Or.inl rfl), minV_false]
  rcases minS_mem (v := v) I (v j) with h | ⟨i, hi, h⟩
  ·
   exact ⟨j, by simp, h⟩
  ·
   exact ⟨i, by simp [hi], h⟩
theorem items_len (x : Nat) : (itemsN x).length ≤ 7 := List.length_filter_le _ _
theorem items_less {x y i : Nat} (h : ∀ j, y.testBit j = true → x.testBit j = true) (hi : i ∈ itemsN x) (hy : y.testBit i = false) : (itemsN y).length < (itemsN x).length := by
 have e : itemsN y = (itemsN x).filter fun j => y.testBit j := by
  unfold itemsN
  rw [List.filter_filter]
  refine List.filter_congr fun j _ => ?_
  cases hj : y.testBit j with
  | false => rfl
  | true => rw [h j hj]; rfl
 rw [e]
 exact List.length_filter_lt_length_iff_exists.2 ⟨i, hi, by rw [hy]; decide⟩
theorem openS_bit (L : List Int) (j : Nat) (hj : j < 7) : (openS L).testBit j = ((L.any fun x => x.toNat.testBit j) && !(L.all fun x => x.toNat.testBit j)) := by
 unfold openS
 rw [nd_testBit, orA_bit, andA_bit, Nat.zero_testBit, show (127 : Nat) = 2 ^ 7 - 1 from rfl, Nat.testBit_two_pow_sub_one, decide_eq_true hj, Bool.true_and, Bool.false_or]
theorem openS_bits (L : List Int) (j : Nat) : (openS L).testBit j = true → (∃ x ∈ L, x.toNat.testBit j = true) ∧ ¬ ∀ x ∈ L, (127 : Nat).testBit j = true ∧ x.toNat.testBit j = true := by
 intro h
 unfold openS at h
 rw [nd_testBit, orA_bit, andA_bit, Nat.zero_testBit, Bool.false_or, Bool.and_eq_true] at h
 obtain ⟨h1, h2⟩ := h
 obtain ⟨x, hx, hb⟩ := List.any_eq_true.1 h1
 refine ⟨⟨x, hx, hb⟩, fun h3 => ?_⟩
 rw [Bool.not_eq_true', Bool.and_eq_false_iff] at h2
 rcases h2 with h2 | h2
 ·
  rw [(h3 x hx).1] at h2
  cases h2
 ·
  rw [List.all_eq_true.2 (fun z hz => (h3 z hz).2)] at h2
  cases h2
theorem openS_lt7 {L : List Int} (hM : ∀ x ∈ L, I128 x) {j : Nat} (h : (openS L).testBit j = true) : j < 7 := by
 obtain ⟨⟨x, hx, hb⟩, _⟩ := openS_bits L j h
 have hxm := hM x hx
 rcases Nat.lt_or_ge j 7 with h7 | h7
 ·
  exact h7
 ·
  exfalso
  have : x.toNat < 2 ^ j := Nat.lt_of_lt_of_le (show x.toNat < 2 ^ 7 by have := hxm.1; have := hxm.2; omega) (Nat.pow_le_pow_right (by decide) h7)
  rw [Nat.testBit_lt_two_pow this] at hb
  cases hb
/-- Fewer items are open in a part of the sets. -/
theorem open_part {L M : List Int} (hM : ∀ x ∈ L, I128 x) (hs : ∀ x ∈ M, x ∈ L) {i : Nat} (hi : i ∈ itemsN (openS L)) (hm : (openS M).testBit i = false) : (itemsN (openS M)).length < (itemsN (openS L)).length := by
 refine items_less (fun j hj => ?_) hi hm
 have h7 := openS_lt7 (fun x hx => hM x (hs x hx)) hj
 rw [openS_bit _ _ h7, Bool.and_eq_true] at hj ⊢
 obtain ⟨h1, h2⟩ := hj
 obtain ⟨x, hx, hb⟩ := List.any_eq_true.1 h1
 refine ⟨List.any_eq_true.2 ⟨x, hs x hx, hb⟩, ?_⟩
 rw [Bool.not_eq_true'] at h2 ⊢
 rw [List.all_eq_false] at h2 ⊢
 obtain ⟨z, hz, hzb⟩ := h2
 exact ⟨z, hs z hz, hzb⟩
theorem hasF_open {L : List Int} {i : Nat} (h7 : i < 7) : (openS (hasF i L)).testBit i = false := by
 rw [openS_bit _ _ h7, show ((hasF i L).all fun x => x.toNat.testBit i) = true from List.all_eq_true.2 (fun x hx => (List.mem_filter.1 hx).2)]
 exact Bool.and_false _
theorem hasntF_open {L : List Int} {i : Nat} (h7 : i < 7) : (openS (hasntF i L)).testBit i = false := by
 rw [openS_bit _ _ h7, show ((hasntF i L).any fun x => x.toNat.testBit i) = false from List.any_eq_false.2 (fun x hx => by
  have := (List.mem_filter.1 hx).2
  rw [Bool.not_eq_true'] at this
  rw [this]
  decide)]
 exact Bool.false_and _
theorem hasF_sub {L : List Int} {i : Nat} : ∀ x ∈ hasF i L, x ∈ L := fun _ hx => (List.mem_filter.1 hx).1
theorem hasntF_sub {L : List Int} {i : Nat} : ∀ x ∈ hasntF i L, x ∈ L := fun _ hx => (List.mem_filter.1 hx).1
/-- One round more is the same if there are as many as items are open. -/
theorem valV_more (c : Int → Int → Int → Int) : ∀ (d : Nat) (L : List Int), (∀ x ∈ L, I128 x) → (itemsN (openS L)).length ≤ d → valV c (d + 1) L = valV c d L
 | 0, L, _, h => by
  show minV _ (itemsN (openS L)) true 0 = 0
  rw [List.eq_nil_of_length_eq_zero (Nat.le_zero.1 h)]
  rfl
 | d + 1, L, hM, h => by
  show minV _ _ _ _ = minV _ _ _ _
  refine minV_congr _ _ _ fun i hi => ?_
  have h7 := itemsN_lt hi
  have h1 := open_part hM hasF_sub hi (hasF_open h7)
  have h2 := open_part hM hasntF_sub hi (hasntF_open h7)
  rw [valV_more c d (hasF i L) (fun x hx => hM x (hasF_sub x hx)) (by omega), valV_more c d (hasntF i L) (fun x hx => hM x (hasntF_sub x hx)) (by omega)]
theorem valV_step (c : Int → Int → Int → Int) {L : List Int} (hM : ∀ x ∈ L, I128 x) : valV c 7 L = minV (fun i => c L.length (valV c 7 (hasF i L)) (valV c 7 (hasntF i L))) (itemsN (openS L)) true 0 := (valV_more c 7 L hM (items_len _)).symm
theorem valW_bounds : ∀ (d : Nat) (L : List Int), 0 ≤ valV cW d L ∧ valV cW d L ≤ d
 | 0, _ => ⟨Int.le_refl _, Int.le_refl _⟩
 | d + 1, L => by
  refine minV_bounds _ _ _ (fun i _ => ?_) (Int.le_refl _) (by omega)
  have h1 := valW_bounds d (hasF i L)
  have h2 := valW_bounds d (hasntF i L)
  show 0 ≤ cW L.length (valV cW d (hasF i L)) (valV cW d (hasntF i L)) ∧ cW L.length (valV cW d (hasF i L)) (valV cW d (hasntF i L)) ≤ _
  generalize valV cW d (hasF i L) = p at *
  generalize valV cW d (hasntF i L) = q at *
  unfold cW
  split <;> omega
theorem has_hasnt (i : Nat) : ∀ L : List Int, (hasF i L).length + (hasntF i L).length = L.length
 | [] => rfl
 | x :: L => by
  have h := has_hasnt i L
  unfold hasF hasntF at *
  rw [List.filter_cons, List.filter_cons]
  cases x.toNat.testBit i with
  | true => rw [if_pos rfl, if_neg (show ¬ (!true) = true by decide), List.length_cons, List.length_cons]; omega
  | false => rw [if_neg (by decide), if_pos (show (!false) = true from rfl), List.length_cons, List.length_cons]; omega
theorem valT_bounds : ∀ (d : Nat) (L : List Int), 0 ≤ valV cT d L ∧ valV cT d L ≤ (L.length : Int) * d
 | 0, _ => ⟨Int.le_refl _, by simp [valV]⟩
 | d + 1, L => by
  have hm : (0 : Int) ≤ (L.length : Int) * ((d + 1 : Nat) : Int) := Int.mul_nonneg (by omega) (by omega)
  refine minV_bounds _ _ _ (fun i _ => ?_) (Int.le_refl _) hm
  have h1 := valT_bounds d (hasF i L)
  have h2 := valT_bounds d (hasntF i L)
  have h3 := has_hasnt i L
  have h4 : (L.length : Int) * ((d + 1 : Nat) : Int) = L.length + ((hasF i L).length : Int) * d + ((hasntF i L).length : Int) * d := by
   rw [← h3]
   push_cast
   rw [Int.mul_add, Int.mul_one, Int.add_mul]
   omega
  show 0 ≤ cT L.length (valV cT d (hasF i L)) (valV cT d (hasntF i L)) ∧ cT L.length (valV cT d (hasF i L)) (valV cT d (hasntF i L)) ≤ _
  generalize valV cT d (hasF i L) = p at *
  generalize valV cT d (hasntF i L) = q at *
  unfold cT
  omega
/-- Some item is open among two sets. -/
theorem open_some {L : List Int} (hM : ∀ x ∈ L, I128 x) (hr : L.Pairwise (· < ·)) (h : 2 ≤ L.length) : itemsN (openS L) ≠ [] := by
 match L, h with
 | a :: b :: M, _ =>
  intro he
  have hab : a < b := (List.pairwise_cons.1 hr).1 b (by simp)
  have ha := hM a (by simp)
  have hb := hM b (by simp)
  have hne : a.toNat ≠ b.toNat := by have := ha.1; omega
  obtain ⟨j, hj⟩ := Nat.exists_testBit_ne_of_ne hne
  have hj7 : j < 7 := by
   rcases Nat.lt_or_ge j 7 with h7 | h7
   ·
    exact h7
   ·
    exfalso
    refine hj ?_
    have p7 : 2 ^ 7 ≤ 2 ^ j := Nat.pow_le_pow_right (by decide) h7
    rw [Nat.testBit_lt_two_pow (show a.toNat < 2 ^ j by have := ha.2; omega), Nat.testBit_lt_two_pow (show b.toNat < 2 ^ j by have := hb.2; omega)]
  have ho : (openS (a :: b :: M)).testBit j = true := by
   rw [openS_bit _ _ hj7]
   cases h1 : a.toNat.testBit j <;> cases h2 : b.toNat.testBit j <;> simp_all
  have hmem : j ∈ itemsN (openS (a :: b :: M)) := by
   unfold itemsN
   refine List.mem_filter.2 ⟨?_, ho⟩
   simp
   omega
  rw [he] at hmem
  cases hmem
theorem keeps_bits (y x a : Nat) : keeps (y : Int) (x : Int) (a : Int) = true ↔ (∀ j, y.testBit j = true → a.testBit j = true) ∧ ∀ j, x.testBit j = true → a.testBit j = false := by
 unfold keeps
 rw [Int.toNat_natCast, Int.toNat_natCast, Int.toNat_natCast, Bool.and_eq_true, decide_eq_true_eq, decide_eq_true_eq]
 constructor
 ·
  rintro ⟨h1, h2⟩
  refine ⟨fun j hj => ?_, fun j hj => ?_⟩
  ·
   have := congrArg (fun z => z.testBit j) h1
   simp only [nd_testBit, Nat.zero_testBit, hj, Bool.true_and, Bool.not_eq_false'] at this
   exact this
  ·
   have := congrArg (fun z => z.testBit j) h2
   simp only [Nat.testBit_and, Nat.zero_testBit, hj, Bool.and_true] at this
   exact this
 ·
  rintro ⟨h1, h2⟩
  refine ⟨Nat.eq_of_testBit_eq fun j => ?_, Nat.eq_of_testBit_eq fun j => ?_⟩
  ·
   rw [nd_testBit, Nat.zero_testBit]
   cases hj : y.testBit j with
   | false => rfl
   | true => rw [h1 j hj]; rfl
  ·
   rw [Nat.testBit_and, Nat.zero_testBit]
   cases hj : x.testBit j with
   | false => exact Bool.and_false _
   | true => rw [h2 j hj]; rfl
theorem left_has {l : List Int} (hM : ∀ x ∈ l, I128 x) (y x i : Nat) : leftL l ((y ||| 2 ^ i : Nat) : Int) (x : Int) = hasF i (leftL l (y : Int) (x : Int)) := by
 unfold leftL hasF
 rw [List.filter_filter]
 refine List.filter_congr fun a ha => ?_
 obtain ⟨m, rfl⟩ := Int.eq_ofNat_of_zero_le (hM a ha).1
 rw [Bool.eq_iff_iff, Bool.and_eq_true, keeps_bits, keeps_bits, Int.toNat_natCast]
 constructor
 ·
  rintro ⟨h1, h2⟩
  exact ⟨h1 i (by rw [Nat.testBit_or, Nat.testBit_two_pow_self, Bool.or_true]), fun j hj => h1 j (by rw [Nat.testBit_or, hj]; rfl), h2⟩
 ·
  rintro ⟨h0, h1, h2⟩
  refine ⟨fun j hj => ?_, h2⟩
  rw [Nat.testBit_or, Bool.or_eq_true, Nat.testBit_two_pow, decide_eq_true_eq] at hj
  rcases hj with hj | rfl
  ·
   exact h1 j hj
  ·
   exact h0
theorem left_hasnt {l : List Int} (hM : ∀ x ∈ l, I128 x) (y x i : Nat) : leftL l (y : Int) ((x ||| 2 ^ i : Nat) : Int) = hasntF i (leftL l (y : Int) (x : Int)) := by
 unfold leftL hasntF
 rw [List.filter_filter]
 refine List.filter_congr fun a ha => ?_
 obtain ⟨m, rfl⟩ := Int.eq_ofNat_of_zero_le (hM a ha).1
 rw [Bool.eq_iff_iff, Bool.and_eq_true, keeps_bits, keeps_bits, Int.toNat_natCast, Bool.not_eq_true']
 constructor
 ·
  rintro ⟨h1, h2⟩
  exact ⟨h2 i (by rw [Nat.testBit_or, Nat.testBit_two_pow_self, Bool.or_true]), h1, fun j hj => h2 j (by rw [Nat.testBit_or, hj]; rfl)⟩
 ·
  rintro ⟨h0, h1, h2⟩
  refine ⟨h1, fun j hj => ?_⟩
  rw [Nat.testBit_or, Bool.or_eq_true, Nat.testBit_two_pow, decide_eq_true_eq] at hj
  rcases hj with hj | rfl
  ·
   exact h2 j hj
  ·
   exact h0
/-- What is told by all that is left leaves the same. -/
theorem left_closed {l : List Int} {n : Nat} (hM : ∀ x ∈ l, I128 x) {y x p q : Nat} (hy : y < 2 ^ n) (hx : x < 2 ^ n) (hne : leftL l (y : Int) (x : Int) ≠ [])
  (hb : ∀ j, p.testBit j = ((2 ^ n - 1).testBit j && (leftL l (y : Int) (x : Int)).all fun z => z.toNat.testBit j) ∧ q.testBit j = ((2 ^ n - 1).testBit j && (leftL l (y : Int) (x : Int)).all fun z => !z.toNat.testBit j)) : leftL l (p : Int) (q : Int) = leftL l (y : Int) (x : Int) := by
 have hlt : ∀ (z j : Nat), z < 2 ^ n → z.testBit j = true → (2 ^ n - 1).testBit j = true := by
  intro z j hz hj
  rw [Nat.testBit_two_pow_sub_one, decide_eq_true_eq]
  rcases Nat.lt_or_ge j n with h | h
  ·
   exact h
  ·
   rw [Nat.testBit_lt_two_pow (Nat.lt_of_lt_of_le hz (Nat.pow_le_pow_right (by decide) h))] at hj
   cases hj
 have hmem : ∀ z ∈ leftL l (y : Int) (x : Int), (∀ j, y.testBit j = true → z.toNat.testBit j = true) ∧ ∀ j, x.testBit j = true → z.toNat.testBit j = false := by
  intro z hz
  obtain ⟨m, rfl⟩ := Int.eq_ofNat_of_zero_le (hM z (leftL_sub hz)).1
  have := (keeps_bits y x m).1 (List.mem_filter.1 hz).2
  rw [Int.toNat_natCast]
  exact this
 conv => rhs; unfold leftL
 unfold leftL
 refine List.filter_congr fun a ha => ?_
 obtain ⟨m, rfl⟩ := Int.eq_ofNat_of_zero_le (hM a ha).1
 rw [Bool.eq_iff_iff, keeps_bits, keeps_bits]
 constructor
 ·
  rintro ⟨h1, h2⟩
  refine ⟨fun j hj => h1 j ?_, fun j hj => h2 j ?_⟩
  ·
   rw [(hb j).1, hlt y j hy hj, Bool.true_and]
   exact List.all_eq_true.2 fun z hz => (hmem z hz).1 j hj
  ·
   rw [(hb j).2, hlt x j hx hj, Bool.true_and]
   exact List.all_eq_true.2 fun z hz => by rw [(hmem z hz).2 j hj]; rfl
 ·
  intro hk
  have hin : (m : Int) ∈ leftL l (y : Int) (x : Int) := List.mem_filter.2 ⟨ha, (keeps_bits y x m).2 hk⟩
  refine ⟨fun j hj => ?_, fun j hj => ?_⟩
  ·
   rw [(hb j).1, Bool.and_eq_true] at hj
   exact List.all_eq_true.1 hj.2 _ hin
  ·
   rw [(hb j).2, Bool.and_eq_true] at hj
   have := List.all_eq_true.1 hj.2 _ hin
   rw [Int.toNat_natCast, Bool.not_eq_true'] at this
   exact this

-- HAND lib astab
theorem rd_put (l : List Int) {i : Nat} (h : i < l.length) (a : Int) (j : Nat) : rd (l.set i a) (j : Int) = if i = j then a else rd l (j : Int) := by
 simp [rd, List.getD, List.getElem?_set]
 split
 ·
  rename_i e
  subst e
  simp [h]
 ·
  rfl
/-- What a table knows is right: two rows, for all that is told by pairs of sets. -/
structure MemoT (n : Nat) (l W T : List Int) : Prop where
 w : W.length = 2 ^ (2 * n)
 t : T.length = 2 ^ (2 * n)
 ok : ∀ p q : Nat, p < 2 ^ n → q < 2 ^ n → rd W ((p * 2 ^ n + q : Nat) : Int) = 0 ∨ (rd W ((p * 2 ^ n + q : Nat) : Int) = valV cW 7 (leftL l (p : Int) (q : Int)) + 1 ∧ rd T ((p * 2 ^ n + q : Nat) : Int) = valV cT 7 (leftL l (p : Int) (q : Int)) + 1)
theorem place_lt {n p q : Nat} (hp : p < 2 ^ n) (hq : q < 2 ^ n) : p * 2 ^ n + q < 2 ^ (2 * n) := by
 have h1 : (p + 1) * 2 ^ n ≤ 2 ^ n * 2 ^ n := Nat.mul_le_mul_right _ hp
 rw [← Nat.pow_add, ← Nat.two_mul, Nat.add_mul, Nat.one_mul] at h1
 omega
theorem place_inj {n p q p' q' : Nat} (hq : q < 2 ^ n) (hq' : q' < 2 ^ n) (h : p * 2 ^ n + q = p' * 2 ^ n + q') : p = p' ∧ q = q' := by
 have h0 : 0 < 2 ^ n := Nat.two_pow_pos n
 have h1 := congrArg (· / 2 ^ n) h
 have h2 := congrArg (· % 2 ^ n) h
 simp only [Nat.mul_comm _ (2 ^ n), Nat.mul_add_div h0, Nat.mul_add_mod, Nat.div_eq_of_lt hq, Nat.div_eq_of_lt hq', Nat.mod_eq_of_lt hq, Nat.mod_eq_of_lt hq'] at h1 h2
 exact ⟨by omega, h2⟩
theorem place_or {n p q : Nat} (hq : q < 2 ^ n) : p * 2 ^ n ||| q = p * 2 ^ n + q := by
 have h := Nat.shiftLeft_add_eq_or_of_lt hq p
 rw [Nat.shiftLeft_eq] at h
 exact h.symm
theorem MemoT.put {n : Nat} {l W T : List Int} (h : MemoT n l W T) {p q : Nat} (hp : p < 2 ^ n) (hq : q < 2 ^ n) : MemoT n l (W.set (p * 2 ^ n + q) (valV cW 7 (leftL l (p : Int) (q : Int)) + 1)) (T.set (p * 2 ^ n + q) (valV cT 7 (leftL l (p : Int) (q : Int)) + 1)) := by
 have hlt := place_lt hp hq
 refine ⟨by rw [List.length_set]; exact h.w, by rw [List.length_set]; exact h.t, fun p' q' hp' hq' => ?_⟩
 rw [rd_put _ (by rw [h.w]; exact hlt), rd_put _ (by rw [h.t]; exact hlt)]
 by_cases e : p * 2 ^ n + q = p' * 2 ^ n + q'
 ·
  rw [if_pos e, if_pos e]
  obtain ⟨rfl, rfl⟩ := place_inj hq hq' e
  exact .inr ⟨rfl, rfl⟩
 ·
  rw [if_neg e, if_neg e]
  exact h.ok p' q' hp' hq'
theorem MemoT.new (n : Nat) (l : List Int) : MemoT n l (List.replicate (2 ^ (2 * n)) 0) (List.replicate (2 ^ (2 * n)) 0) :=
 ⟨List.length_replicate, List.length_replicate, fun p q _ _ => .inl (by
  simp only [rd, Int.toNat_natCast, List.getD_eq_getElem?_getD, List.getElem?_replicate]
  split <;> rfl)⟩
/-- What all sets that are left tell, as numbers. -/
structure Told (n : Nat) (l : List Int) (y x p q : Nat) : Prop where
 eq : knownL (leftL l (y : Int) (x : Int)) (2 ^ n - 1) (2 ^ n - 1) = ((p : Int), (q : Int))
 hp : p < 2 ^ n
 hq : q < 2 ^ n
 bit : ∀ j, p.testBit j = ((2 ^ n - 1).testBit j && (leftL l (y : Int) (x : Int)).all fun z => z.toNat.testBit j) ∧ q.testBit j = ((2 ^ n - 1).testBit j && (leftL l (y : Int) (x : Int)).all fun z => !z.toNat.testBit j)
theorem told_ex (n : Nat) (l : List Int) (y x : Nat) : ∃ p q, Told n l y x p q := by
 obtain ⟨p, q, hk, hpl, hql, hbit⟩ := knownL_bits (leftL l (y : Int) (x : Int)) (2 ^ n - 1) (2 ^ n - 1)
 have hp2 : 0 < 2 ^ n := Nat.two_pow_pos n
 have hcast : ((2 ^ n - 1 : Nat) : Int) = 2 ^ n - 1 := by rw [Int.natCast_sub hp2]; push_cast; rfl
 rw [hcast] at hk
 exact ⟨p, q, hk, by omega, by omega, hbit⟩
theorem Told.left {n : Nat} {l : List Int} {y x p q : Nat} (h : Told n l y x p q) (hM : ∀ x ∈ l, I128 x) (hy : y < 2 ^ n) (hx : x < 2 ^ n) (hne : leftL l (y : Int) (x : Int) ≠ []) : leftL l (p : Int) (q : Int) = leftL l (y : Int) (x : Int) := left_closed hM hy hx hne h.bit
/-- The items that the reference asks: those that some have and some have not. -/
theorem Told.open_ {n : Nat} {l : List Int} {y x p q : Nat} (h : Told n l y x p q) {i : Nat} (hi : i < n) (h7 : n ≤ 7) : (openS (leftL l (y : Int) (x : Int))).testBit i = !(p ||| q).testBit i := by
 rw [openS_bit _ _ (by omega), Nat.testBit_or, (h.bit i).1, (h.bit i).2, Nat.testBit_two_pow_sub_one, decide_eq_true hi, Bool.true_and, Bool.true_and, ← List.not_any_eq_all_not]
 cases ((leftL l (y : Int) (x : Int)).any fun z => z.toNat.testBit i) <;> cases ((leftL l (y : Int) (x : Int)).all fun z => z.toNat.testBit i) <;> rfl
theorem left_lt {n : Nat} {l : List Int} (hM : ∀ x ∈ l, 0 ≤ x ∧ x < 2 ^ n) {y x i : Nat} (h : (openS (leftL l (y : Int) (x : Int))).testBit i = true) : i < n := by
 obtain ⟨⟨z, hz, hb⟩, _⟩ := openS_bits _ _ h
 have hm := hM z (leftL_sub hz)
 rcases Nat.lt_or_ge i n with h1 | h1
 ·
  exact h1
 ·
  exfalso
  have h4 : z.toNat < 2 ^ n := by
   have : ((z.toNat : Nat) : Int) < ((2 ^ n : Nat) : Int) := by push_cast; omega
   exact_mod_cast this
  rw [Nat.testBit_lt_two_pow (Nat.lt_of_lt_of_le h4 (Nat.pow_le_pow_right (by decide) h1))] at hb
  cases hb
/-- The reference goes through all items below n. -/
def stepS (v : Nat → Int) (o i : Nat) (b : Int) : Int := if o.testBit i = true then (if v i < b then v i else b) else b
def foldS (v : Nat → Int) (o : Nat) : Nat → Nat → Int → Int
 | 0, _, b => b
 | d + 1, i, b => foldS v o d (i + 1) (stepS v o i b)
theorem foldS_filter (v : Nat → Int) (o : Nat) : ∀ (d i : Nat) (b : Int), foldS v o d i b = minS v ((List.range' i d).filter fun j => o.testBit j) b
 | 0, _, _ => rfl
 | d + 1, i, b => by
  rw [List.range'_succ, List.filter_cons]
  show foldS v o d (i + 1) _ = _
  rw [foldS_filter v o d (i + 1)]
  unfold stepS
  by_cases h : o.testBit i = true
  ·
   rw [if_pos h, if_pos h]
   rfl
  ·
   rw [if_neg h, if_neg h]
theorem foldS_items {v : Nat → Int} {o n : Nat} (ho : ∀ i, o.testBit i = true → i < n) (h7 : n ≤ 7) (b : Int) : foldS v o n 0 b = minS v (itemsN o) b := by
 rw [foldS_filter]
 congr 1
 unfold itemsN
 have e : [0, 1, 2, 3, 4, 5, 6] = List.range' 0 n ++ List.range' n (7 - n) := by
  have h := List.range'_append_1 (s := 0) (m := n) (n := 7 - n)
  rw [Nat.zero_add, show n + (7 - n) = 7 by omega] at h
  exact h.symm
 rw [e, List.filter_append]
 rw [show (List.range' n (7 - n)).filter (fun j => o.testBit j) = [] from List.filter_eq_nil_iff.2 fun j hj hb => by
  have h1 := List.mem_range'_1.1 hj
  have h2 := ho j hb
  omega]
 rw [List.append_nil]
theorem valV_one (c : Int → Int → Int → Int) {L : List Int} (hM : ∀ x ∈ L, I128 x) (h : L.length = 1) : valV c 7 L = 0 := by
 obtain ⟨a, rfl⟩ := List.length_eq_one_iff.1 h
 rw [valV_step c hM]
 have e : itemsN (openS [a]) = [] := List.filter_eq_nil_iff.2 fun j hj hb => by
  have h7 : j < 7 := by simp at hj; omega
  rw [openS_bit _ _ h7] at hb
  cases h1 : a.toNat.testBit j <;> simp [h1] at hb
 rw [e]
 rfl
/-- What the items of some sets cost. -/
def vW (L : List Int) (i : Nat) : Int := cW L.length (valV cW 7 (hasF i L)) (valV cW 7 (hasntF i L))
def vT (L : List Int) (i : Nat) : Int := cT L.length (valV cT 7 (hasF i L)) (valV cT 7 (hasntF i L))
theorem vW_bounds (L : List Int) (i : Nat) : 0 ≤ vW L i ∧ vW L i ≤ 8 := by
 have h1 := valW_bounds 7 (hasF i L)
 have h2 := valW_bounds 7 (hasntF i L)
 unfold vW
 generalize valV cW 7 (hasF i L) = p at *
 generalize valV cW 7 (hasntF i L) = q at *
 unfold cW
 split <;> omega
theorem vT_bounds {L : List Int} (hl : L.length ≤ 128) (i : Nat) : 0 ≤ vT L i ∧ vT L i ≤ 1024 := by
 have h1 := valT_bounds 7 (hasF i L)
 have h2 := valT_bounds 7 (hasntF i L)
 have h3 := has_hasnt i L
 unfold vT
 generalize valV cT 7 (hasF i L) = p at *
 generalize valV cT 7 (hasntF i L) = q at *
 unfold cT
 omega
theorem foldW {n : Nat} {L : List Int} (hM : ∀ x ∈ L, I128 x) (hr : L.Pairwise (· < ·)) (h2 : 2 ≤ L.length) (ho : ∀ i, (openS L).testBit i = true → i < n) (h7 : n ≤ 7) : foldS (vW L) (openS L) n 0 1073741824 = valV cW 7 L := by
 rw [foldS_items ho h7, valV_step cW hM]
 exact minS_minV _ (open_some hM hr h2) (fun i _ => by have := (vW_bounds L i).2; omega)
theorem foldT {n : Nat} {L : List Int} (hM : ∀ x ∈ L, I128 x) (hl : L.length ≤ 128) (hr : L.Pairwise (· < ·)) (h2 : 2 ≤ L.length) (ho : ∀ i, (openS L).testBit i = true → i < n) (h7 : n ≤ 7) : foldS (vT L) (openS L) n 0 1073741824 = valV cT 7 L := by
 rw [foldS_items ho h7, valV_step cT hM]
 exact minS_minV _ (open_some hM hr h2) (fun i _ => by have := (vT_bounds hl i).2; omega)
theorem isSpaceB_rise {n : Int} {l : List Int} (h : isSpaceB n l = true) : l.Pairwise (· < ·) := by
 have hr := risingB_rise (isSpaceB_parts h).2.2.2.1
 rw [List.pairwise_iff_getElem]
 intro i j hi hj hij
 have := hr i j hij hj
 rw [rd_get hi, rd_get hj] at this
 exact this

-- HAND lib bestv
/-- The first item with which a best strategy begins. -/
def bestP (L : List Int) (i : Nat) : Bool := decide (vW L i = valV cW 7 L)
def bestV (L : List Int) : Nat := ((itemsN (openS L)).find? (bestP L)).getD 0
theorem itemsN_rise (o : Nat) : (itemsN o).Pairwise (· < ·) := List.Pairwise.filter _ (by decide)
theorem best_find {L : List Int} (hM : ∀ x ∈ L, I128 x) (hr : L.Pairwise (· < ·)) (h : 2 ≤ L.length) : (itemsN (openS L)).find? (bestP L) = some (bestV L) := by
  obtain ⟨i, hi, hv⟩ := minV_mem (v := vW L) _ (open_some hM hr h)
  have hs := valV_step cW hM
  cases hf : (itemsN (openS L)).find? (bestP L) with
  | none =>
    exfalso
    have := List.find?_eq_none.1 hf i hi
    refine this (decide_eq_true ?_)
    rw [hs]
    exact hv.symm
  | some j => unfold bestV; rw [hf]; rfl
theorem best_spec {L : List Int} (hM : ∀ x ∈ L, I128 x) (hr : L.Pairwise (· < ·)) (h : 2 ≤ L.length) : bestV L < 7 ∧ (openS L).testBit (bestV L) = true ∧ vW L (bestV L) = valV cW 7 L ∧ ∀ j, j < bestV L → (openS L).testBit j = true → vW L j ≠ valV cW 7 L := by
  have hf := best_find hM hr h
  generalize bestV L = b at *
  have hm := List.mem_of_find?_eq_some hf
  obtain ⟨hp, l1, l2, he, ha⟩ := List.find?_eq_some_iff_append.1 hf
  refine ⟨itemsN_lt hm, itemsN_bit hm, of_decide_eq_true hp, fun j hj ho hv => ?_⟩
  have hb7 := itemsN_lt hm
  have hjm : j ∈ itemsN (openS L) := by
    unfold itemsN
    refine List.mem_filter.2 ⟨?_, ho⟩
    simp
    omega
  rw [he] at hjm
  have hr2 := itemsN_rise (openS L)
  rw [he, List.pairwise_append] at hr2
  rcases List.mem_append.1 hjm with h1 | h1
  · have := ha j h1
    unfold bestP at this
    rw [decide_eq_true hv] at this
    cases this
  · rcases List.mem_cons.1 h1 with rfl | h1
    · omega
    · have := (List.pairwise_cons.1 hr2.2.1).1 j h1
      omega
/-! ### laws_szIntS: function 42 -/
def laws_szIntS.f (l0 : List Int) (a1 : Int) : Option (Int) := if (wrap64 (a1 - (l0.length : Int))) < 0 then (some (-1)) else (some (wrap64 (a1 - (l0.length : Int))))
set_option maxHeartbeats 8000000 in
set_option maxRecDepth 100000 in
theorem laws_szIntS.calls (A0 : Option Addr) (c0 : Nat) (l0 : List Int) (a1 : Int) (r : Int) (w : World) (hr0 : Kd.C (Kd.int .i64) w A0 l0.length l0) (hc0 : l0.length ≤ c0) (h : laws_szIntS.f l0 a1 = some r) :
    Calls Try.prog 42 #[.slice A0 l0.length c0, .int .i64 a1] w fun e w' => e = .returned (.int .i64 r) ∧ Drawn0 w w' := by
  have HR0 := Aside0.mk hr0
  have HC0 := Aside0.mk hc0
  clear hr0 hc0
  have H : (if (wrap64 (a1 - (l0.length : Int))) < 0 then (some (-1)) else (some (wrap64 (a1 - (l0.length : Int))))) = some r := h
  clear h
  by_cases c3 : (wrap64 (a1 - (l0.length : Int))) < 0
  · rw [if_pos c3] at H
    have c3b0 : decide ((wrap64 (a1 - (l0.length : Int))) < 0) = true := decide_eq_true c3
    clear c3
    obtain rfl := Option.some.inj H
    go_enter Try.func42, Try.ntmps42
    go_wp2
    go_ret
    exact ⟨by first | rfl | (simp; done) | (simp [*]; done), by repeat (first | exact Drawn0.refl _ | apply Drawn0.step)⟩
  · rw [if_neg c3] at H
    have c3b0 : decide ((wrap64 (a1 - (l0.length : Int))) < 0) = false := decide_eq_false c3
    clear c3
    obtain rfl := Option.some.inj H
    go_enter Try.func42, Try.ntmps42
    go_wp2
    go_ret
    exact ⟨by first | rfl | (simp; done) | (simp [*]; done), by repeat (first | exact Drawn0.refl _ | apply Drawn0.step)⟩

/-! ### laws_szSpace: function 11 -/
def laws_szSpace.f (a0_0 : Int) (l0_1 : List Int) (a1 : Int) : Option (Int) := (laws_szIntS.f l0_1 a1).bind fun t102 => (if t102 < 0 then (some (-1)) else (some t102))
set_option maxHeartbeats 8000000 in
set_option maxRecDepth 100000 in
theorem laws_szSpace.calls (a0_0 : Int) (A0_1 : Option Addr) (c0_1 : Nat) (l0_1 : List Int) (a1 : Int) (r : Int) (w : World) (hr0_1 : Kd.C (Kd.int .i64) w A0_1 l0_1.length l0_1) (hc0_1 : l0_1.length ≤ c0_1) (h : laws_szSpace.f a0_0 l0_1 a1 = some r) :
    Calls Try.prog 11 #[.agg #[.int .i64 a0_0, .slice A0_1 l0_1.length c0_1], .int .i64 a1] w fun e w' => e = .returned (.int .i64 r) ∧ Below w.heap.size w w' := by
  have hu24 := Try.underlying24
  have HR0_1 := Aside0.mk hr0_1
  have HC0_1 := Aside0.mk hc0_1
  clear hr0_1 hc0_1
  have HB := Aside0.mk (Below.refl w.heap.size w)
  have H : ((laws_szIntS.f l0_1 a1).bind fun t102 => (if t102 < 0 then (some (-1)) else (some t102))) = some r := h
  clear h
  replace H := Option.bind_eq_some_iff.mp H
  obtain ⟨t102, A30, H⟩ := H
  replace H : (if t102 < 0 then (some (-1)) else (some t102)) = some r := H
  have A3 := Aside0.mk A30
  clear A30
  by_cases c4 : t102 < 0
  · rw [if_pos c4] at H
    have c4b0 : decide (t102 < 0) = true := decide_eq_true c4
    clear c4
    obtain rfl := Option.some.inj H
    go_enter Try.func11, Try.ntmps11
    go_wp2_with (first | ((with_reducible refine gate_dst (N := 2) rfl ?_); refine box_event ?hg (N := 2) ?hd (cs := #[.int .i64 a0_0, .slice A0_1 l0_1.length c0_1]) (t := 24) ?hr ?_; (case hd => rfl); (case hg => rfl); (case hr => first | (go_simp; done) | (go_simp; rfl)); intro gb101 hg w5 hbox hb; have n0_ := Aside0.mk (below_step (by repeat (first | (with_reducible first | exact HB.out | apply below_alloc | apply pw_below_drewN | apply below_drew1) | exact HB.out)) hb); have n1_ := Aside0.mk (hbox); have n2_ := Aside0.mk ((by rw [hg]; exact (below_size (by repeat (first | (with_reducible first | exact HB.out | apply below_alloc | apply pw_below_drewN | apply below_drew1) | exact HB.out))) : w.heap.size ≤ gb101)); have n3_ := Aside0.mk ((by rw [hg]; exact (below_size (by repeat (first | (with_reducible first | exact HB.out | apply below_alloc | apply pw_below_drewN | apply below_drew1) | exact HB.out))) : w.heap.size ≤ gb101)); clear HB; have HB := n0_; have BK101 := n1_; have GW101 := n2_; have GE101 := n3_; clear n0_ n1_ n2_ n3_; clear hb hbox hg; have hcz6_0 : w5.cell? ⟨gb101, 0, none⟩ = some (.int .i64 a0_0) := (blk_cell BK101.out 0).trans rfl; have hcz6_1 : w5.cell? ⟨gb101, 1, none⟩ = some (.slice A0_1 l0_1.length c0_1) := (blk_cell BK101.out 1).trans rfl; have hfz6_0 := blk_frozen BK101.out 0; have hfz6_1 := blk_frozen BK101.out 1) | ((with_reducible refine gate_callee (f := 42) rfl ?_); refine goesL_ (some 8) rfl rfl Try.func42 (by kernel_rfl) rfl #[.slice A0_1 l0_1.length c0_1, .int .i64 a1] rfl (by (try simp only [List.map_toArray, List.map_cons, List.map_nil]); first | done | rfl | (simp only [List.length_drop, List.length_take]; rfl)) ?_; (with_reducible refine (laws_szIntS.calls _ _ l0_1 a1 t102 _ ?side1 ?side2 A3.out).mono ?_); (case side1 => repeat (first | exact (Kd.C_below HR0_1.out HB.out) | (with_reducible refine Kd.C_alloc ?_ _) | (with_reducible refine Kd.C_drewN ?_ _) | (with_reducible refine Kd.C_drew ?_))); (case side2 => exact HC0_1.out); rintro e w' ⟨rfl, ⟨nd, rfl⟩⟩; refine ⟨_, rfl, ?_⟩))
    go_ret
    exact ⟨by first | rfl | (simp [errW_none, errW_some] <;> rfl) | (simp [*, errW_none, errW_some] <;> rfl), by repeat (first | (with_reducible first | exact HB.out | apply below_alloc | apply pw_below_drewN | apply below_drew1 | refine below_set ?_ GE101.out) | exact HB.out)⟩
  · rw [if_neg c4] at H
    have c4b0 : decide (t102 < 0) = false := decide_eq_false c4
    clear c4
    obtain rfl := Option.some.inj H
    go_enter Try.func11, Try.ntmps11
    go_wp2_with (first | ((with_reducible refine gate_dst (N := 2) rfl ?_); refine box_event ?hg (N := 2) ?hd (cs := #[.int .i64 a0_0, .slice A0_1 l0_1.length c0_1]) (t := 24) ?hr ?_; (case hd => rfl); (case hg => rfl); (case hr => first | (go_simp; done) | (go_simp; rfl)); intro gb101 hg w7 hbox hb; have n0_ := Aside0.mk (below_step (by repeat (first | (with_reducible first | exact HB.out | apply below_alloc | apply pw_below_drewN | apply below_drew1) | exact HB.out)) hb); have n1_ := Aside0.mk (hbox); have n2_ := Aside0.mk ((by rw [hg]; exact (below_size (by repeat (first | (with_reducible first | exact HB.out | apply below_alloc | apply pw_below_drewN | apply below_drew1) | exact HB.out))) : w.heap.size ≤ gb101)); have n3_ := Aside0.mk ((by rw [hg]; exact (below_size (by repeat (first | (with_reducible first | exact HB.out | apply below_alloc | apply pw_below_drewN | apply below_drew1) | exact HB.out))) : w.heap.size ≤ gb101)); clear HB; have HB := n0_; have BK101 := n1_; have GW101 := n2_; have GE101 := n3_; clear n0_ n1_ n2_ n3_; clear hb hbox hg; have hcz8_0 : w7.cell? ⟨gb101, 0, none⟩ = some (.int .i64 a0_0) := (blk_cell BK101.out 0).trans rfl; have hcz8_1 : w7.cell? ⟨gb101, 1, none⟩ = some (.slice A0_1 l0_1.length c0_1) := (blk_cell BK101.out 1).trans rfl; have hfz8_0 := blk_frozen BK101.out 0; have hfz8_1 := blk_frozen BK101.out 1) | ((with_reducible refine gate_callee (f := 42) rfl ?_); refine goesL_ (some 8) rfl rfl Try.func42 (by kernel_rfl) rfl #[.slice A0_1 l0_1.length c0_1, .int .i64 a1] rfl (by (try simp only [List.map_toArray, List.map_cons, List.map_nil]); first | done | rfl | (simp only [List.length_drop, List.length_take]; rfl)) ?_; (with_reducible refine (laws_szIntS.calls _ _ l0_1 a1 t102 _ ?side1 ?side2 A3.out).mono ?_); (case side1 => repeat (first | exact (Kd.C_below HR0_1.out HB.out) | (with_reducible refine Kd.C_alloc ?_ _) | (with_reducible refine Kd.C_drewN ?_ _) | (with_reducible refine Kd.C_drew ?_))); (case side2 => exact HC0_1.out); rintro e w' ⟨rfl, ⟨nd, rfl⟩⟩; refine ⟨_, rfl, ?_⟩))
    go_ret
    exact ⟨by first | rfl | (simp [errW_none, errW_some] <;> rfl) | (simp [*, errW_none, errW_some] <;> rfl), by repeat (first | (with_reducible first | exact HB.out | apply below_alloc | apply pw_below_drewN | apply below_drew1 | refine below_set ?_ GE101.out) | exact HB.out)⟩

-- HAND with laws.szSpace
theorem szSpace_over (n : Int) (l : List Int) (a : Int) (ha : a ≤ 1048576) (hl : l.length ≤ 9223372036854775807) (h : a < l.length) (h0 : 0 ≤ a) : laws_szSpace.f n l a = some (-1) := by
  have hw : wrap64 (a - (l.length : Int)) = a - l.length := wrap_in (by omega) (by omega)
  unfold laws_szSpace.f laws_szIntS.f
  rw [hw, if_pos (by omega)]
  rfl
theorem szSpace_fits (n : Int) (l : List Int) (a : Int) (ha : a ≤ 1048576) (h : (l.length : Int) ≤ a) : laws_szSpace.f n l a = some (a - l.length) := by
  have hw : wrap64 (a - (l.length : Int)) = a - l.length := wrap_in (by omega) (by omega)
  unfold laws_szSpace.f laws_szIntS.f
  rw [hw, if_neg (by omega)]
  show (if a - (l.length : Int) < 0 then _ else _) = _
  rw [if_neg (by omega)]

/-! ### laws_toIntS: function 46 -/
def laws_toIntS.l0 : Nat → List Int → List Int → Int → Option (List Int)
 | 0, _, _, _ => none
 | k + 1, x0, x3, x4 => if x4 < (x0.length : Int) then (if 0 ≤ x4 then (if x4 < (x3.length : Int) then (laws_toIntS.l0 k x0 (x3.set (x4 : Int).toNat (rd x0 x4)) (wrap64 (x4 + 1))) else (none)) else (none)) else (some x3)
def laws_toIntS.f (k : Nat) (l0 : List Int) : Option (List Int) := if 0 ≤ (l0.length : Int) then (if ((l0.length : Int) : Int).toNat ≤ 35184372088832 then (laws_toIntS.l0 k l0 (List.replicate ((l0.length : Int) : Int).toNat 0) 0) else (none)) else (none)
theorem laws_toIntS.mono_l : ∀ k, (∀ y0 y1 y2, LeO (laws_toIntS.l0 k y0 y1 y2) (laws_toIntS.l0 (k + 1) y0 y1 y2))
 | 0 => fun _ _ _ r h => by simp [laws_toIntS.l0] at h
 | k + 1 => by
  have ih0 := laws_toIntS.mono_l k
  ·
   intro y0 y1 y2
   unfold laws_toIntS.l0
   repeat' first
   | (with_reducible exact ih0 _ _ _)
   | (with_reducible exact LeO.refl _)
   | (with_reducible exact LeO.none _)
   | (with_reducible refine LeO.ite ?_ ?_)
   | (with_reducible refine LeO.bind ?_ (fun _ => ?_))
   | exact ih0 _ _ _
   | exact LeO.none _
   | refine LeO.ite ?_ ?_
   | refine LeO.bind ?_ (fun _ => ?_)
theorem laws_toIntS.mono : ∀ a0 k, LeO (laws_toIntS.f k a0) (laws_toIntS.f (k + 1) a0) := by
 intro a0 k
 have ih0 := laws_toIntS.mono_l k
 unfold laws_toIntS.f
 repeat' first
   | (with_reducible exact ih0 _ _ _)
   | (with_reducible exact LeO.refl _)
   | (with_reducible exact LeO.none _)
   | (with_reducible refine LeO.ite ?_ ?_)
   | (with_reducible refine LeO.bind ?_ (fun _ => ?_))
   | exact ih0 _ _ _
   | exact LeO.none _
   | refine LeO.ite ?_ ?_
   | refine LeO.bind ?_ (fun _ => ?_)
set_option maxHeartbeats 8000000 in
set_option maxRecDepth 100000 in
theorem laws_toIntS.calls (k : Nat) (A0 : Option Addr) (c0 : Nat) (l0 : List Int) (r : List Int) (w : World) (hr0 : Kd.C (Kd.int .i64) w A0 l0.length l0) (hc0 : l0.length ≤ c0) (h : laws_toIntS.f k l0 = some r) :
  Calls Try.prog 46 #[.slice A0 l0.length c0] w fun e w' => ∃ v0_ : Value, e = .returned (v0_) ∧ Kd.R (Kd.int .i64) 3 w' w.heap.size (fun _ => True) v0_ r ∧ Below w.heap.size w w' := by
 have HR0 := asd hr0
 have HC0 := asd hc0
 clear hr0 hc0
 have HB := asd (Below.refl w.heap.size w)
 have H : (if 0 ≤ (l0.length : Int) then (if ((l0.length : Int) : Int).toNat ≤ 35184372088832 then (laws_toIntS.l0 k l0 (List.replicate ((l0.length : Int) : Int).toNat 0) 0) else (none)) else (none)) = some r := h
 clear h
 by_cases c2 : 0 ≤ (l0.length : Int)
 ·
  rw [if_pos c2] at H
  have c2b0 := eq_true c2
  have c2b1 : decide (0 ≤ (l0.length : Int)) = true := decide_eq_true c2
  clear c2
  by_cases c3 : ((l0.length : Int) : Int).toNat ≤ 35184372088832
  ·
   rw [if_pos c3] at H
   have c3b0 := eq_true c3
   have c3b1 : decide (((l0.length : Int) : Int).toNat ≤ 35184372088832) = true := decide_eq_true c3
   clear c3
   obtain ⟨y101, hy101⟩ : ∃ y_ : List Int, y_ = (List.replicate ((l0.length : Int) : Int).toNat 0) := ⟨_, rfl⟩
   replace H : (laws_toIntS.l0 k l0 y101 0) = some r := by first | (rw [hy101]; with_reducible exact H) | (have H2_ := (Option.bind_some _ _).symm.trans H; rw [hy101]; with_reducible exact H2_) | (have H2_ := (Option.bind_some _ _).symm.trans H; with_reducible exact H2_) | with_reducible exact H | (rw [hy101]; exact H) | exact H
   have Ny101 := asd hy101
   clear hy101
   have H' := asd H
   clear H
   go_enter Try.func46, Try.ntmps46
   go_wp2_with (first | ((with_reducible refine gate_dst (N := 7) rfl ?_); refine Kd.R_make (Kd.int .i64) _ 3 rfl (N := 7) rfl 22 _ _ rfl (l0.length : Int) rfl rfl Try.underlying22 (.int .i64 0) 8 info3 rfl (by decide) (by omega) 0 (ok := fun _ => True) (okp := fun _ => True) rfl (fun _ hk => hk) trivial (of_decide_eq_true (by first | (with_reducible assumption) | assumption)) (Nat.le_trans (Nat.mul_le_mul_right _ (of_decide_eq_true (by first | (with_reducible assumption) | assumption) : (l0.length : Int).toNat ≤ 35184372088832)) (by omega)) (Below.refl _ _) (Nat.le_refl _) ?_; intro v102 w4 ho5 hb hg_ hnew_; clear hg_ hnew_; (first | rw [← Ny101.out] at ho5 | (simp only [Int.reduceToNat] at ho5; rw [← Ny101.out] at ho5)); have n0_ := asd (Kd.R_lower ho5 (below_size (by repeat (first | (with_reducible first | exact HB.out | apply below_alloc | apply pw_below_drewN | apply below_drew1) | exact HB.out)))); have n1_ := asd (below_step (by repeat (first | (with_reducible first | exact HB.out | apply below_alloc | apply pw_below_drewN | apply below_drew1) | exact HB.out)) hb); clear HB; have HO103 := n0_; have HB := n1_; clear n0_ n1_; clear hb ho5))
   go_loopg [4] k (fun kq v4 w' => ∃ (x3_1 : List Int) (x4_1 : Int), v4 = .int .i64 x4_1 ∧ Aside0 (laws_toIntS.l0 kq l0 x3_1 x4_1 = some r) ∧ Aside0 (kq ≤ k) ∧ Aside0 (Kd.R (Kd.int .i64) 3 w' w.heap.size (fun _ => True) v102 x3_1) ∧ Aside0 (Below w.heap.size w w'))
   case atStart => exact ⟨(y101), (0), (by first | rfl | (simp; done) | (simp [*]; done)), H', ⟨Nat.le_refl _⟩, ⟨by (with_reducible repeat (first | apply Kd.R_alloc | apply Kd.R_drewN | apply Kd.R_drew)); exact HO103.out⟩, ⟨by repeat (first | (with_reducible first | exact HB.out | apply below_alloc | apply pw_below_drewN | apply below_drew1) | exact HB.out)⟩⟩
   case round =>
    clear H'
    try clear c2
    try clear c2b0
    try clear c2b1
    try clear p2
    try clear c3
    try clear c3b0
    try clear c3b1
    try clear c4
    try clear HO_3; skip
    obtain ⟨x3_1, x4_1, rfl, HA, HK1, HO_3, HB⟩ := hrel
    cases gk with
    | zero => exact absurd HA.out (by simp [laws_toIntS.l0])
    | succ k1 =>
     have H := HA.out
     clear HA
     simp only [laws_toIntS.l0] at H
     by_cases c6 : x4_1 < (l0.length : Int)
     ·
      rw [if_pos c6] at H
      have c6b0 : decide (x4_1 < (l0.length : Int)) = true := decide_eq_true c6
      clear c6
      by_cases c7 : 0 ≤ x4_1
      ·
       rw [if_pos c7] at H
       have c7b0 : decide (0 ≤ x4_1) = true := decide_eq_true c7
       clear c7
       by_cases c8 : x4_1 < (x3_1.length : Int)
       ·
        rw [if_pos c8] at H
        have c8b0 : decide (x4_1 < (x3_1.length : Int)) = true := decide_eq_true c8
        clear c8
        obtain ⟨y105, hy105⟩ : ∃ y_ : List Int, y_ = (x3_1.set (x4_1 : Int).toNat (rd l0 x4_1)) := ⟨_, rfl⟩
        replace H : (laws_toIntS.l0 k1 l0 y105 (wrap64 (x4_1 + 1))) = some r := by first | (rw [hy105]; with_reducible exact H) | (have H2_ := (Option.bind_some _ _).symm.trans H; rw [hy105]; with_reducible exact H2_) | (have H2_ := (Option.bind_some _ _).symm.trans H; with_reducible exact H2_) | with_reducible exact H | (rw [hy105]; exact H) | exact H
        have Ny105 := asd hy105
        clear hy105
        have H' := asd H
        clear H
        have p104 : 0 ≤ (x4_1 : Int) := of_decide_eq_true (by first | (with_reducible assumption) | assumption)
        have q104 : x4_1 < (l0.length : Int) := of_decide_eq_true (by first | (with_reducible assumption) | assumption)
        obtain ⟨ad104, e104, hx104_0⟩ := Kd.at_int HR0.out x4_1 p104 q104
        cases e104
        replace hx104_0 := (HB.out.cell (World.block_lt_of_cell? w _ hx104_0)).trans hx104_0
        replace p104 := eq_true p104
        replace q104 := eq_true q104
        have p9 : 0 ≤ (x4_1 : Int) := of_decide_eq_true (by first | (with_reducible assumption) | assumption)
        have q9 : (x4_1 : Int) < ((x3_1.length : Int) : Int) := of_decide_eq_true (by first | (with_reducible assumption) | assumption)
        obtain ⟨go9, co9, eo9, gb9, gl9, cl9, HG9⟩ := Kd.R_form HO_3.out (by omega)
        (first | cases eo9 | (injection eo9 with ea_ en_ ec_; (first | subst ea_ | (injection ea_ with ea_; subst ea_)); subst ec_; clear en_))
        have GB9 := asd gb9
        have GG9 := asd HG9
        clear gb9 gl9 HG9
        obtain ⟨hx9_0, hf9_0⟩ := Kd.R_celln 0 HO_3.out (x4_1 : Int) p9 q9
        replace p9 := eq_true p9
        replace q9 := eq_true q9
        have HP10 := Kd.R_putg HO_3.out (x4_1 : Int) (rd l0 x4_1)
        go_wp2_with (first | ((with_reducible refine gate_store (t := 3) (p := 20) rfl ?_); refine store_event (t := 3) (p := 20) (v := ?vo_w11) (w1 := (wr.setCell ⟨go9, (x4_1 : Int).toNat, none⟩ (.int .i64 (rd l0 x4_1)))) ?hg ?ho ?hn ?hr ?_; (case ho => rfl); (case hg => rfl); (case hn => rfl); (case hr => first | (go_simp; done) | (go_simp; rfl)); intro w11 hw; have hg : wr.grownBy w11 (some go9) := (by rw [hw]; exact HP10.2); have hp_ : Kd.R (Kd.int .i64) 3 w11 w.heap.size (fun _ => True) (.slice (some ⟨go9, 0, none⟩) x3_1.length co9) y105 := (by rw [hw, Ny105.out]; exact HP10.1); clear HP10; have n0_ := asd (hp_); have n1_ := asd ((by rw [hw]; exact below_set (HB.out) GB9.out : Below w.heap.size w w11)); clear HO_3; clear HB; have HO_3 := n0_; have HB := n1_; clear n0_ n1_; clear hg hw hp_))
        go_roundg k1
        case measure => have := HK1.out; omega
        case rel => exact ⟨(y105), (wrap64 (x4_1 + 1)), (by first | rfl | (simp; done) | (simp [*]; done)), H', ⟨by have := HK1.out; omega⟩, ⟨by (with_reducible repeat (first | apply Kd.R_alloc | apply Kd.R_drewN | apply Kd.R_drew)); exact HO_3.out⟩, ⟨by repeat (first | (with_reducible first | exact HB.out | apply below_alloc | apply pw_below_drewN | apply below_drew1) | exact HB.out)⟩⟩
       ·
        rw [if_neg c8] at H
        exact absurd H (by simp)
      ·
       rw [if_neg c7] at H
       exact absurd H (by simp)
     ·
      rw [if_neg c6] at H
      have c6b0 : decide (x4_1 < (l0.length : Int)) = false := decide_eq_false c6
      clear c6
      obtain rfl := Option.some.inj H
      go_wp2
      go_ret
      exact ⟨_, by first | rfl | (simp [errW_none, errW_some] <;> rfl) | (simp [*, errW_none, errW_some] <;> rfl), by (with_reducible repeat (first | apply Kd.R_alloc | apply Kd.R_drewN | apply Kd.R_drew)); exact HO_3.out, by repeat (first | (with_reducible first | exact HB.out | apply below_alloc | apply pw_below_drewN | apply below_drew1) | exact HB.out)⟩
  ·
   rw [if_neg c3] at H
   exact absurd H (by simp)
 ·
  rw [if_neg c2] at H
  exact absurd H (by simp)

-- HAND with laws.toIntS
theorem toIntS_loop (l : List Int) (hlen : l.length < 9223372036854775807) : ∀ (d i : Nat) (x : List Int), l.length - i = d → i ≤ l.length → x.length = l.length → (∀ j, j < i → x[j]? = l[j]?) → Ev (fun k => laws_toIntS.l0 k l x i) l := by
  intro d
  induction d with
  | zero =>
    intro i x hd hi hx hj
    refine Ev.succ (fun k => by simp only [laws_toIntS.l0]; rw [if_neg (by omega)]) (Ev.const (congrArg some ?_))
    apply List.ext_getElem?
    intro j
    rcases Nat.lt_or_ge j i with h | h
    · exact hj j h
    · rw [List.getElem?_eq_none (by omega), List.getElem?_eq_none (by omega)]
  | succ d ih =>
    intro i x hd hi hx hj
    refine Ev.succ (fun k => by simp only [laws_toIntS.l0]; rw [if_pos (by omega), if_pos (by omega), if_pos (by omega), wrap_succ (by omega) (by omega), Int.toNat_natCast]) ?_
    refine ih (i + 1) _ (by omega) (by omega) (by simpa using hx) (fun j hji => ?_)
    rw [List.getElem?_set]
    by_cases e : i = j
    · subst e
      have hil : i < l.length := by omega
      simp [hx, hil, rd, List.getD]
    · rw [if_neg e]
      exact hj j (by omega)
theorem toIntS_ok (l : List Int) (hlen : l.length ≤ 35184372088832) : Ev (fun k => laws_toIntS.f k l) l := by
  refine Ev.to (fun k => by unfold laws_toIntS.f; rw [if_pos (by omega), if_pos (by omega)]) ?_
  exact toIntS_loop l (by omega) l.length 0 _ (by omega) (by omega) (by simp) (fun j h => absurd h (Nat.not_lt_zero _))

/-! ### laws_toSpace: function 13 -/
def laws_toSpace.f (k : Nat) (a0_0 : Int) (l0_1 : List Int) : Option (Int × List Int) := (laws_toIntS.f k l0_1).bind fun t104 => (some (a0_0, t104))
theorem laws_toSpace.mono : ∀ a0 a1 k, LeO (laws_toSpace.f k a0 a1) (laws_toSpace.f (k + 1) a0 a1) := by
 intro a0 a1 k
 unfold laws_toSpace.f
 repeat' first
   | (with_reducible exact laws_toIntS.mono _ _)
   | (with_reducible exact LeO.refl _)
   | (with_reducible exact LeO.none _)
   | (with_reducible refine LeO.ite ?_ ?_)
   | (with_reducible refine LeO.bind ?_ (fun _ => ?_))
   | exact laws_toIntS.mono _ _
   | exact LeO.none _
   | refine LeO.ite ?_ ?_
   | refine LeO.bind ?_ (fun _ => ?_)
set_option maxHeartbeats 8000000 in
set_option maxRecDepth 100000 in
theorem laws_toSpace.calls (k : Nat) (a0_0 : Int) (A0_1 : Option Addr) (c0_1 : Nat) (l0_1 : List Int) (r1 : Int) (r2 : List Int) (w : World) (hr0_1 : Kd.C (Kd.int .i64) w A0_1 l0_1.length l0_1) (hc0_1 : l0_1.length ≤ c0_1) (h : laws_toSpace.f k a0_0 l0_1 = some (r1, r2)) :
  Calls Try.prog 13 #[.agg #[.int .i64 a0_0, .slice A0_1 l0_1.length c0_1]] w fun e w' => ∃ v1_ : Value, e = .returned (.agg #[.int .i64 r1, v1_]) ∧ Kd.R (Kd.int .i64) 3 w' w.heap.size (fun _ => True) v1_ r2 ∧ Below w.heap.size w w' := by
 have hu24 := Try.underlying24
 have hu28 := Try.underlying28
 have HR0_1 := asd hr0_1
 have HC0_1 := asd hc0_1
 clear hr0_1 hc0_1
 have HB := asd (Below.refl w.heap.size w)
 have H : ((laws_toIntS.f k l0_1).bind fun t104 => (some (a0_0, t104))) = some (r1, r2) := h
 clear h
 replace H := Option.bind_eq_some_iff.mp H
 obtain ⟨t104, A20, H⟩ := H
 replace H : (some (a0_0, t104)) = some (r1, r2) := H
 have A2 := asd A20
 clear A20
 simp only [Option.some.injEq, Prod.mk.injEq] at H
 obtain ⟨rfl, rfl⟩ := H
 go_enter Try.func13, Try.ntmps13
 go_wp2_with (first | ((with_reducible refine gate_dst (N := 1) rfl ?_); refine box_event ?hg (N := 1) ?hd (cs := #[.int .i64 a0_0, .slice A0_1 l0_1.length c0_1]) (t := 24) ?hr ?_; (case hd => rfl); (case hg => rfl); (case hr => first | (go_simp; done) | (go_simp; rfl)); intro gb101 hg w3 hbox hb; have n0_ := asd (below_step (by repeat (first | (with_reducible first | exact HB.out | apply below_alloc | apply pw_below_drewN | apply below_drew1) | exact HB.out)) hb); have n1_ := asd (hbox); have n2_ := asd ((by rw [hg]; exact (below_size (by repeat (first | (with_reducible first | exact HB.out | apply below_alloc | apply pw_below_drewN | apply below_drew1) | exact HB.out))) : w.heap.size ≤ gb101)); have n3_ := asd ((by rw [hg]; exact (below_size (by repeat (first | (with_reducible first | exact HB.out | apply below_alloc | apply pw_below_drewN | apply below_drew1) | exact HB.out))) : w.heap.size ≤ gb101)); clear HB; have HB := n0_; have BK101 := n1_; have GW101 := n2_; have GE101 := n3_; clear n0_ n1_ n2_ n3_; clear hb hbox hg) | ((with_reducible refine gate_dst (N := 2) rfl ?_); refine box_event ?hg (N := 2) ?hd (cs := #[.int .i64 0, .slice none 0 0]) (t := 28) ?hr ?_; (case hd => rfl); (case hg => rfl); (case hr => first | (go_simp; done) | (go_simp; rfl)); intro gb102 hg w4 hbox hb; have n0_ := asd (blk_below (upB BK101.out) hb); have n1_ := asd (below_step (by repeat (first | (with_reducible first | exact HB.out | apply below_alloc | apply pw_below_drewN | apply below_drew1 | refine below_set ?_ GE101.out) | exact HB.out)) hb); have n2_ := asd (hbox); have n3_ := asd ((by rw [hg]; exact (below_size (by repeat (first | (with_reducible first | exact HB.out | apply below_alloc | apply pw_below_drewN | apply below_drew1 | refine below_set ?_ GE101.out) | exact HB.out))) : w.heap.size ≤ gb102)); have n4_ := asd ((by rw [hg]; exact (below_size (by repeat (first | (with_reducible first | exact HB.out | apply below_alloc | apply pw_below_drewN | apply below_drew1 | refine below_set ?_ GE101.out) | exact HB.out))) : w.heap.size ≤ gb102)); have n5_ := asd ((by rw [hg]; exact Nat.ne_of_lt (blk_lt (upB BK101.out)) : gb101 ≠ gb102)); have n6_ := asd ((by rw [hg]; exact Nat.ne_of_gt (blk_lt (upB BK101.out)) : gb102 ≠ gb101)); clear BK101; clear HB; have BK101 := n0_; have HB := n1_; have BK102 := n2_; have GW102 := n3_; have GE102 := n4_; have NB101_102 := n5_; have NB102_101 := n6_; clear n0_ n1_ n2_ n3_ n4_ n5_ n6_; clear hb hbox hg) | ((with_reducible refine gate_dst (N := 3) rfl ?_); refine box_event ?hg (N := 3) ?hd (cs := #[.int .i64 0, .slice none 0 0]) (t := 28) ?hr ?_; (case hd => rfl); (case hg => rfl); (case hr => first | (go_simp; done) | (go_simp; rfl)); intro gb103 hg w5 hbox hb; have n0_ := asd (blk_below (upB BK101.out) hb); have n1_ := asd (blk_below (upB BK102.out) hb); have n2_ := asd (below_step (by repeat (first | (with_reducible first | exact HB.out | apply below_alloc | apply pw_below_drewN | apply below_drew1 | refine below_set ?_ GE101.out | refine below_set ?_ GE102.out) | exact HB.out)) hb); have n3_ := asd (hbox); have n4_ := asd ((by rw [hg]; exact (below_size (by repeat (first | (with_reducible first | exact HB.out | apply below_alloc | apply pw_below_drewN | apply below_drew1 | refine below_set ?_ GE101.out | refine below_set ?_ GE102.out) | exact HB.out))) : w.heap.size ≤ gb103)); have n5_ := asd ((by rw [hg]; exact (below_size (by repeat (first | (with_reducible first | exact HB.out | apply below_alloc | apply pw_below_drewN | apply below_drew1 | refine below_set ?_ GE101.out | refine below_set ?_ GE102.out) | exact HB.out))) : w.heap.size ≤ gb103)); have n6_ := asd ((by rw [hg]; exact Nat.ne_of_lt (blk_lt (upB BK101.out)) : gb101 ≠ gb103)); have n7_ := asd ((by rw [hg]; exact Nat.ne_of_gt (blk_lt (upB BK101.out)) : gb103 ≠ gb101)); have n8_ := asd ((by rw [hg]; exact Nat.ne_of_lt (blk_lt (upB BK102.out)) : gb102 ≠ gb103)); have n9_ := asd ((by rw [hg]; exact Nat.ne_of_gt (blk_lt (upB BK102.out)) : gb103 ≠ gb102)); clear BK101; clear BK102; clear HB; have BK101 := n0_; have BK102 := n1_; have HB := n2_; have BK103 := n3_; have GW103 := n4_; have GE103 := n5_; have NB101_103 := n6_; have NB103_101 := n7_; have NB102_103 := n8_; have NB103_102 := n9_; clear n0_ n1_ n2_ n3_ n4_ n5_ n6_ n7_ n8_ n9_; clear hb hbox hg; have hnb6 := NB101_102.out; have hnc6 := NB102_101.out; have hnb7 := NB101_103.out; have hnc7 := NB103_101.out; have hcz8_0 : w5.cell? ⟨gb101, 0, none⟩ = some (.int .i64 a0_0) := (blk_cell BK101.out 0).trans rfl; have hcz8_1 : w5.cell? ⟨gb101, 1, none⟩ = some (.slice A0_1 l0_1.length c0_1) := (blk_cell BK101.out 1).trans rfl; have hfz8_0 := blk_frozen BK101.out 0; have hfz8_1 := blk_frozen BK101.out 1; have hnb9 := NB103_102.out; have hnc9 := NB102_103.out; have hcz10_0 : w5.cell? ⟨gb103, 0, none⟩ = some (.int .i64 0) := (blk_cell BK103.out 0).trans rfl; have hcz10_1 : w5.cell? ⟨gb103, 1, none⟩ = some (.slice none 0 0) := (blk_cell BK103.out 1).trans rfl; have hfz10_0 := blk_frozen BK103.out 0; have hfz10_1 := blk_frozen BK103.out 1) | ((with_reducible refine gate_callee (f := 46) rfl ?_); refine goesL_ (some 9) rfl rfl Try.func46 (by kernel_rfl) rfl #[.slice A0_1 l0_1.length c0_1] rfl (by (try simp only [List.map_toArray, List.map_cons, List.map_nil]); first | done | rfl | (simp only [List.length_drop, List.length_take]; rfl)) ?_; (with_reducible refine (laws_toIntS.calls k _ _ l0_1 t104 _ ?side1 ?side2 A2.out).mono ?_); (case side1 => exact Kd.C_below HR0_1.out (by repeat (first | (with_reducible first | exact HB.out | apply below_alloc | apply pw_below_drewN | apply below_drew1 | refine below_set ?_ GE101.out | refine below_set ?_ GE102.out | refine below_set ?_ GE103.out) | exact HB.out))); (case side2 => exact HC0_1.out); rintro e w11 ⟨v105, rfl, ho0, hb⟩; refine ⟨_, rfl, ?_⟩; have n0_ := asd (Kd.R_lower ho0 (below_size (by repeat (first | (with_reducible first | exact HB.out | apply below_alloc | apply pw_below_drewN | apply below_drew1 | refine below_set ?_ GE101.out | refine below_set ?_ GE102.out | refine below_set ?_ GE103.out) | exact HB.out)))); have n1_ := asd (blk_below (g := gb101) (o := .cells #[.int .i64 a0_0, .slice A0_1 l0_1.length c0_1] 24 (0, 0)) (by (with_reducible repeat (first | refine blk_drewN ?_ _ | refine blk_drew ?_ | refine blk_alloc ?_ _)); refine blk_far ?_ NB101_103.out _; (with_reducible repeat (first | refine blk_drewN ?_ _ | refine blk_drew ?_ | refine blk_alloc ?_ _)); exact BK101.out) hb); have n2_ := asd (blk_below (g := gb102) (o := .cells #[.int .i64 0, .slice none 0 0] 28 (0, 0)) (by (with_reducible repeat (first | refine blk_drewN ?_ _ | refine blk_drew ?_ | refine blk_alloc ?_ _)); refine blk_far ?_ NB102_103.out _; (with_reducible repeat (first | refine blk_drewN ?_ _ | refine blk_drew ?_ | refine blk_alloc ?_ _)); exact BK102.out) hb); have n3_ := asd (blk_below (g := gb103) (o := .cells #[.int .i64 a0_0, .slice none 0 0] 28 (0, 0)) (by (with_reducible repeat (first | refine blk_drewN ?_ _ | refine blk_drew ?_ | refine blk_alloc ?_ _)); refine blk_put (cs := #[.int .i64 0, .slice none 0 0]) ?_ 0 _ rfl; (with_reducible repeat (first | refine blk_drewN ?_ _ | refine blk_drew ?_ | refine blk_alloc ?_ _)); exact BK103.out) hb); have n4_ := asd (below_step (by repeat (first | (with_reducible first | exact HB.out | apply below_alloc | apply pw_below_drewN | apply below_drew1 | refine below_set ?_ GE101.out | refine below_set ?_ GE102.out | refine below_set ?_ GE103.out) | exact HB.out)) hb); clear BK101; clear BK102; clear BK103; clear HB; have HO106 := n0_; have BK101 := n1_; have BK102 := n2_; have BK103 := n3_; have HB := n4_; clear n0_ n1_ n2_ n3_ n4_; (try clear hb); (try clear hb2); (try clear hk); (try clear hi); (try clear ho0); obtain ⟨Ao12, co12, eo12⟩ := Kd.R_slice HO106.out; subst eo12; have hcz13_0 : w11.cell? ⟨gb103, 0, none⟩ = some (.int .i64 a0_0) := (blk_cell BK103.out 0).trans rfl; have hcz13_1 : w11.cell? ⟨gb103, 1, none⟩ = some (.slice none 0 0) := (blk_cell BK103.out 1).trans rfl; have hfz13_0 := blk_frozen BK103.out 0; have hfz13_1 := blk_frozen BK103.out 1; have hcz14_0 : w11.cell? ⟨gb102, 0, none⟩ = some (.int .i64 0) := (blk_cell BK102.out 0).trans rfl; have hcz14_1 : w11.cell? ⟨gb102, 1, none⟩ = some (.slice none 0 0) := (blk_cell BK102.out 1).trans rfl; have hfz14_0 := blk_frozen BK102.out 0; have hfz14_1 := blk_frozen BK102.out 1))
 refine bodyPost_ret (results_cell_row rfl _ _ gb102 28 #[.int .i64 a0_0, .slice Ao12 t104.length co12] (0, 0) _ rfl (by (with_reducible repeat (first | refine blk_drewN ?_ _ | refine blk_drew ?_ | refine blk_alloc ?_ _)); refine blk_put (cs := #[.int .i64 a0_0, .slice none 0 0]) ?_ 1 _ rfl; (with_reducible repeat (first | refine blk_drewN ?_ _ | refine blk_drew ?_ | refine blk_alloc ?_ _)); refine blk_put (cs := #[.int .i64 0, .slice none 0 0]) ?_ 0 _ rfl; (with_reducible repeat (first | refine blk_drewN ?_ _ | refine blk_drew ?_ | refine blk_alloc ?_ _)); refine blk_far ?_ NB102_103.out _; (with_reducible repeat (first | refine blk_drewN ?_ _ | refine blk_drew ?_ | refine blk_alloc ?_ _)); exact BK102.out) Try.underlying28 rfl (by kernel_rfl)) rfl ?_
 exact ⟨_, by first | rfl | (simp [errW_none, errW_some] <;> rfl) | (simp [*, errW_none, errW_some] <;> rfl), by (with_reducible repeat (first | apply Kd.R_alloc | apply Kd.R_drewN | apply Kd.R_drew)); exact Kd.R_mono (Kd.R_far (p := ⟨gb102, 1, none⟩) (Kd.R_far (p := ⟨gb102, 0, none⟩) (Kd.R_far (p := ⟨gb103, 1, none⟩) (Kd.R_types (Kd.R_types HO106.out BK103.out (by decide)) BK102.out (by decide)) (fun _ hk => hk.1.2) (.slice Ao12 t104.length co12)) (fun _ hk => hk.2) (.int .i64 a0_0)) (fun _ hk => hk.2) (.slice Ao12 t104.length co12)) (fun _ hk => trivial), by repeat (first | (with_reducible first | exact HB.out | apply below_alloc | apply pw_below_drewN | apply below_drew1 | refine below_set ?_ GE101.out | refine below_set ?_ GE102.out | refine below_set ?_ GE103.out) | exact HB.out)⟩

-- HAND with laws.toSpace
theorem toSpace_ok (n : Int) (l : List Int) (hlen : l.length ≤ 35184372088832) : Ev (fun k => laws_toSpace.f k n l) (n, l) := by
  unfold laws_toSpace.f
  exact Ev.bind (toIntS_ok l hlen) (Ev.const rfl)

/-! ### laws_eqIntS: function 22 -/
def laws_eqIntS.l0 : Nat → List Int → List Int → Int → Option (Bool)
 | 0, _, _, _ => none
 | k + 1, x0, x1, x5 => if x5 < (x0.length : Int) then (if 0 ≤ x5 then (if x5 < (x1.length : Int) then (if (rd x0 x5) = (rd x1 x5) then (laws_eqIntS.l0 k x0 x1 (wrap64 (x5 + 1))) else (some false)) else (none)) else (none)) else (some true)
def laws_eqIntS.f (k : Nat) (l0 : List Int) (l1 : List Int) : Option (Bool) := if (l0.length : Int) = (l1.length : Int) then (laws_eqIntS.l0 k l0 l1 0) else (some false)
theorem laws_eqIntS.mono_l : ∀ k, (∀ y0 y1 y2, LeO (laws_eqIntS.l0 k y0 y1 y2) (laws_eqIntS.l0 (k + 1) y0 y1 y2))
 | 0 => fun _ _ _ r h => by simp [laws_eqIntS.l0] at h
 | k + 1 => by
  have ih0 := laws_eqIntS.mono_l k
  ·
   intro y0 y1 y2
   unfold laws_eqIntS.l0
   repeat' first
   | (with_reducible exact ih0 _ _ _)
   | (with_reducible exact LeO.refl _)
   | (with_reducible exact LeO.none _)
   | (with_reducible refine LeO.ite ?_ ?_)
   | (with_reducible refine LeO.bind ?_ (fun _ => ?_))
   | exact ih0 _ _ _
   | exact LeO.none _
   | refine LeO.ite ?_ ?_
   | refine LeO.bind ?_ (fun _ => ?_)
theorem laws_eqIntS.mono : ∀ a0 a1 k, LeO (laws_eqIntS.f k a0 a1) (laws_eqIntS.f (k + 1) a0 a1) := by
 intro a0 a1 k
 have ih0 := laws_eqIntS.mono_l k
 unfold laws_eqIntS.f
 repeat' first
   | (with_reducible exact ih0 _ _ _)
   | (with_reducible exact LeO.refl _)
   | (with_reducible exact LeO.none _)
   | (with_reducible refine LeO.ite ?_ ?_)
   | (with_reducible refine LeO.bind ?_ (fun _ => ?_))
   | exact ih0 _ _ _
   | exact LeO.none _
   | refine LeO.ite ?_ ?_
   | refine LeO.bind ?_ (fun _ => ?_)
set_option maxHeartbeats 8000000 in
set_option maxRecDepth 100000 in
theorem laws_eqIntS.calls (k : Nat) (A0 : Option Addr) (c0 : Nat) (l0 : List Int) (A1 : Option Addr) (c1 : Nat) (l1 : List Int) (r : Bool) (w : World) (hr0 : Kd.C (Kd.int .i64) w A0 l0.length l0) (hc0 : l0.length ≤ c0) (hr1 : Kd.C (Kd.int .i64) w A1 l1.length l1) (hc1 : l1.length ≤ c1) (h : laws_eqIntS.f k l0 l1 = some r) :
  Calls Try.prog 22 #[.slice A0 l0.length c0, .slice A1 l1.length c1] w fun e w' => e = .returned (.bool r) ∧ Drawn0 w w' := by
 have HR0 := asd hr0
 have HC0 := asd hc0
 clear hr0 hc0
 have HR1 := asd hr1
 have HC1 := asd hc1
 clear hr1 hc1
 have H : (if (l0.length : Int) = (l1.length : Int) then (laws_eqIntS.l0 k l0 l1 0) else (some false)) = some r := h
 clear h
 by_cases c3 : (l0.length : Int) = (l1.length : Int)
 ·
  rw [if_pos c3] at H
  have c3b0 : ((l0.length : Int) == (l1.length : Int)) = true := beq_iff_eq.mpr c3
  have c3b1 : ((l0.length : Int) != (l1.length : Int)) = false := bne_eq_false_iff_eq.mpr c3
  have c3b2 : (l0.length == l1.length) = true := by first | simpa using c3 | (simp at c3 ⊢; omega)
  clear c3
  have H' := asd H
  clear H
  go_enter Try.func22, Try.ntmps22
  go_wp2
  repeat (go_quiet (fail); try go_wp2)
  go_loopg [5] k (fun kq v5 w' => ∃ (x5_1 : Int), v5 = .int .i64 x5_1 ∧ Aside0 (laws_eqIntS.l0 kq l0 l1 x5_1 = some r) ∧ Aside0 (kq ≤ k) ∧ Drawn0 w w')
  case atStart => exact ⟨(0), (by first | rfl | (simp; done) | (simp [*]; done)), H', ⟨Nat.le_refl _⟩, by repeat (first | exact Drawn0.refl _ | apply Drawn0.step)⟩
  case round =>
   clear H'
   try clear c1
   try clear c2
   try clear p2
   try clear c3
   try clear c3b0
   try clear c3b1
   try clear c3b2
   skip
   obtain ⟨x5_1, rfl, HA, HK1, ⟨m1, rfl⟩⟩ := hrel
   cases gk with
   | zero => exact absurd HA.out (by simp [laws_eqIntS.l0])
   | succ k1 =>
    have H := HA.out
    clear HA
    simp only [laws_eqIntS.l0] at H
    by_cases c4 : x5_1 < (l0.length : Int)
    ·
     rw [if_pos c4] at H
     have c4b0 : decide (x5_1 < (l0.length : Int)) = true := decide_eq_true c4
     clear c4
     by_cases c5 : 0 ≤ x5_1
     ·
      rw [if_pos c5] at H
      have c5b0 : decide (0 ≤ x5_1) = true := decide_eq_true c5
      clear c5
      by_cases c6 : x5_1 < (l1.length : Int)
      ·
       rw [if_pos c6] at H
       have c6b0 : decide (x5_1 < (l1.length : Int)) = true := decide_eq_true c6
       clear c6
       by_cases c7 : (rd l0 x5_1) = (rd l1 x5_1)
       ·
        rw [if_pos c7] at H
        have c7b0 : ((rd l0 x5_1) == (rd l1 x5_1)) = true := beq_iff_eq.mpr c7
        have c7b1 : ((rd l0 x5_1) != (rd l1 x5_1)) = false := bne_eq_false_iff_eq.mpr c7
        clear c7
        have H' := asd H
        clear H
        have p101 : 0 ≤ (x5_1 : Int) := of_decide_eq_true (by first | (with_reducible assumption) | assumption)
        have q101 : x5_1 < (l0.length : Int) := of_decide_eq_true (by first | (with_reducible assumption) | assumption)
        obtain ⟨ad101, e101, hx101_0⟩ := Kd.at_int HR0.out x5_1 p101 q101
        cases e101
        replace p101 := eq_true p101
        replace q101 := eq_true q101
        have p102 : 0 ≤ (x5_1 : Int) := of_decide_eq_true (by first | (with_reducible assumption) | assumption)
        have q102 : x5_1 < (l1.length : Int) := of_decide_eq_true (by first | (with_reducible assumption) | assumption)
        obtain ⟨ad102, e102, hx102_0⟩ := Kd.at_int HR1.out x5_1 p102 q102
        cases e102
        replace p102 := eq_true p102
        replace q102 := eq_true q102
        go_wp2
        repeat (go_quiet (fail); try go_wp2)
        go_roundg k1
        case measure => have := HK1.out; omega
        case rel => exact ⟨(wrap64 (x5_1 + 1)), (by first | rfl | (simp; done) | (simp [*]; done)), H', ⟨by have := HK1.out; omega⟩, by repeat (first | exact Drawn0.refl _ | apply Drawn0.step)⟩
       ·
        rw [if_neg c7] at H
        have c7b0 : ((rd l0 x5_1) == (rd l1 x5_1)) = false := beq_eq_false_iff_ne.mpr c7
        have c7b1 : ((rd l0 x5_1) != (rd l1 x5_1)) = true := bne_iff_ne.mpr c7
        obtain rfl := Option.some.inj H
        have p101 : 0 ≤ (x5_1 : Int) := of_decide_eq_true (by first | (with_reducible assumption) | assumption)
        have q101 : x5_1 < (l0.length : Int) := of_decide_eq_true (by first | (with_reducible assumption) | assumption)
        obtain ⟨ad101, e101, hx101_0⟩ := Kd.at_int HR0.out x5_1 p101 q101
        cases e101
        replace p101 := eq_true p101
        replace q101 := eq_true q101
        have p102 : 0 ≤ (x5_1 : Int) := of_decide_eq_true (by first | (with_reducible assumption) | assumption)
        have q102 : x5_1 < (l1.length : Int) := of_decide_eq_true (by first | (with_reducible assumption) | assumption)
        obtain ⟨ad102, e102, hx102_0⟩ := Kd.at_int HR1.out x5_1 p102 q102
        cases e102
        replace p102 := eq_true p102
        replace q102 := eq_true q102
        go_wp2
        repeat (go_quiet (fail); try go_wp2)
        go_ret
        exact ⟨by first | rfl | (simp; done) | (simp [*]; done), by repeat (first | exact Drawn0.refl _ | apply Drawn0.step)⟩
      ·
       rw [if_neg c6] at H
       exact absurd H (by simp)
     ·
      rw [if_neg c5] at H
      exact absurd H (by simp)
    ·
     rw [if_neg c4] at H
     have c4b0 : decide (x5_1 < (l0.length : Int)) = false := decide_eq_false c4
     clear c4
     obtain rfl := Option.some.inj H
     go_wp2
     repeat (go_quiet (fail); try go_wp2)
     go_ret
     exact ⟨by first | rfl | (simp; done) | (simp [*]; done), by repeat (first | exact Drawn0.refl _ | apply Drawn0.step)⟩
 ·
  rw [if_neg c3] at H
  have c3b0 : ((l0.length : Int) == (l1.length : Int)) = false := beq_eq_false_iff_ne.mpr c3
  have c3b1 : ((l0.length : Int) != (l1.length : Int)) = true := bne_iff_ne.mpr c3
  have c3b2 : (l0.length == l1.length) = false := by first | simpa using c3 | (simp at c3 ⊢; omega)
  obtain rfl := Option.some.inj H
  go_enter Try.func22, Try.ntmps22
  go_wp2
  repeat (go_quiet (fail); try go_wp2)
  go_ret
  exact ⟨by first | rfl | (simp; done) | (simp [*]; done), by repeat (first | exact Drawn0.refl _ | apply Drawn0.step)⟩

end Go.Proofs.Ytkepeflplmkcmaa.Q
