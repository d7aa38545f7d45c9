/- Contracts of functions that the laws reach: a call returns what the plain Lean function of the same name tells. Conditions: those of each theorem. Made by gen.py, a program of this session, over the print of the translation. -/
import Derived.Test.YtkepeflplmkcmaaPx0
import Derived.Test.YtkepeflplmkcmaaPx1
import Derived.Test.YtkepeflplmkcmaaPx2
import Derived.Test.YtkepeflplmkcmaaPx3
import Derived.Test.YtkepeflplmkcmaaPx5
import Derived.Test.YtkepeflplmkcmaaPx6
import Derived.Maps.OwnSet
import Derived.Maps.OwnOps
import Derived.DeepKeys4
namespace Go.Proofs.Ytkepeflplmkcmaa.Q
open Go.RowKit Go.Proofs.YtkepeflplmkcmaaW.PrintWords Go.Proofs.YtkepeflplmkcmaaW.PrintLast Go.Proofs.YtkepeflplmkcmaaW.PrintMore
attribute [local go_sem] max2_int min2_int max_two min_two max_three min_three max_four min_four   -- for this text's walks alone
set_option linter.unusedVariables false
set_option linter.unusedSimpArgs false

/-! ### impl_open: function 105 -/
def impl_open.l0 : Nat → Int → Int → List Int → Int → Int → Option (List Int)
  | 0, _, _, _, _, _ => none
  | k + 1, x3, x4, x7, x8, x9 => if x9 < x8 then (if 0 ≤ x9 then (if x9 < (x7.length : Int) then (impl_open.l0 k (Go.bits .and .i64 x3 (rd x7 x9)) (Go.bits .or .i64 x4 (rd x7 x9)) x7 x8 (wrap64 (x9 + 1))) else (none)) else (none)) else ((impl_items.f k (Go.bits .andNot .i64 x4 x3)).bind fun t102 => (some t102))
def impl_open.f (k : Nat) (l0 : List Int) : Option (List Int) := impl_open.l0 k 127 0 l0 (l0.length : Int) 0
theorem impl_open.mono_l : ∀ k, (∀ y0 y1 y2 y3 y4, LeO (impl_open.l0 k y0 y1 y2 y3 y4) (impl_open.l0 (k + 1) y0 y1 y2 y3 y4))
  | 0 => fun _ _ _ _ _ r h => by simp [impl_open.l0] at h
  | k + 1 => by
    have ih0 := impl_open.mono_l k
    · intro y0 y1 y2 y3 y4
      unfold impl_open.l0
      repeat' first
      | (with_reducible exact ih0 _ _ _ _ _)
      | (with_reducible exact impl_items.mono _ _)
      | (with_reducible exact LeO.refl _)
      | (with_reducible exact LeO.none _)
      | (with_reducible refine LeO.ite ?_ ?_)
      | (with_reducible refine LeO.bind ?_ (fun _ => ?_))
      | exact ih0 _ _ _ _ _
      | exact impl_items.mono _ _
      | exact LeO.none _
      | refine LeO.ite ?_ ?_
      | refine LeO.bind ?_ (fun _ => ?_)
theorem impl_open.mono : ∀ a0 k, LeO (impl_open.f k a0) (impl_open.f (k + 1) a0) := by
  intro a0 k
  have ih0 := impl_open.mono_l k
  unfold impl_open.f
  repeat' first
      | (with_reducible exact ih0 _ _ _ _ _)
      | (with_reducible exact impl_items.mono _ _)
      | (with_reducible exact LeO.refl _)
      | (with_reducible exact LeO.none _)
      | (with_reducible refine LeO.ite ?_ ?_)
      | (with_reducible refine LeO.bind ?_ (fun _ => ?_))
      | exact ih0 _ _ _ _ _
      | exact impl_items.mono _ _
      | exact LeO.none _
      | refine LeO.ite ?_ ?_
      | refine LeO.bind ?_ (fun _ => ?_)
set_option maxHeartbeats 8000000 in
set_option maxRecDepth 100000 in
theorem impl_open.calls (k : Nat) (A0 : Option Addr) (c0 : Nat) (l0 : List Int) (r : List Int) (w : World) (hr0 : Kd.C (Kd.int .i64) w A0 l0.length l0) (hc0 : l0.length ≤ c0) (h : impl_open.f k l0 = some r) :
    Calls Try.prog 105 #[.slice A0 l0.length c0] w fun e w' => ∃ v0_ : Value, e = .returned (v0_) ∧ Kd.R (Kd.int .i64) 3 w' w.heap.size (fun _ => True) v0_ r ∧ Below w.heap.size w w' := by
  have HR0 := Aside0.mk hr0
  have HC0 := Aside0.mk hc0
  clear hr0 hc0
  have HB := Aside0.mk (Below.refl w.heap.size w)
  have H : (impl_open.l0 k 127 0 l0 (l0.length : Int) 0) = some r := h
  clear h
  have H' := Aside0.mk H
  clear H
  go_enter Try.func105, Try.ntmps105
  go_wp2
  go_loopg [3, 4, 9] k (fun kq v3 v4 v9 w' => ∃ (x3_1 : Int) (x4_1 : Int) (x9_1 : Int), v3 = .int .i64 x3_1 ∧ v4 = .int .i64 x4_1 ∧ v9 = .int .i64 x9_1 ∧ Aside0 (impl_open.l0 kq x3_1 x4_1 l0 (l0.length : Int) x9_1 = some r) ∧ Aside0 (kq ≤ k) ∧ Aside0 (Below w.heap.size w w'))
  case atStart => exact ⟨(127), (0), (0), (by first | rfl | (simp; done) | (simp [*]; done)), (by first | rfl | (simp; done) | (simp [*]; done)), (by first | rfl | (simp; done) | (simp [*]; done)), H', ⟨Nat.le_refl _⟩, ⟨by repeat (first | (with_reducible first | exact HB.out | apply below_alloc | apply pw_below_drewN | apply below_drew1) | exact HB.out)⟩⟩
  case round =>
    clear H'
    try clear c1
    skip
    obtain ⟨x3_1, x4_1, x9_1, rfl, rfl, rfl, HA, HK1, HB⟩ := hrel
    cases gk with
    | zero => exact absurd HA.out (by simp [impl_open.l0])
    | succ k1 =>
      have H := HA.out
      clear HA
      simp only [impl_open.l0] at H
      by_cases c2 : x9_1 < (l0.length : Int)
      · rw [if_pos c2] at H
        have c2b0 : decide (x9_1 < (l0.length : Int)) = true := decide_eq_true c2
        clear c2
        by_cases c3 : 0 ≤ x9_1
        · rw [if_pos c3] at H
          have c3b0 : decide (0 ≤ x9_1) = true := decide_eq_true c3
          clear c3
          by_cases c4 : x9_1 < (l0.length : Int)
          · rw [if_pos c4] at H
            have c4b0 : decide (x9_1 < (l0.length : Int)) = true := decide_eq_true c4
            clear c4
            have H' := Aside0.mk H
            clear H
            have p101 : 0 ≤ (x9_1 : Int) := of_decide_eq_true (by first | (with_reducible assumption) | assumption)
            have q101 : x9_1 < (l0.length : Int) := of_decide_eq_true (by first | (with_reducible assumption) | assumption)
            obtain ⟨ad101, e101, hx101_0⟩ := Kd.at_int HR0.out x9_1 p101 q101
            cases e101
            replace hx101_0 := (HB.out.cell (World.block_lt_of_cell? w _ hx101_0)).trans hx101_0
            replace p101 := eq_true p101
            replace q101 := eq_true q101
            go_wp2
            go_roundg k1
            case measure => have := HK1.out; omega
            case rel => exact ⟨(Go.bits .and .i64 x3_1 (rd l0 x9_1)), (Go.bits .or .i64 x4_1 (rd l0 x9_1)), (wrap64 (x9_1 + 1)), (by first | rfl | (simp; done) | (simp [*]; done)), (by first | rfl | (simp; done) | (simp [*]; done)), (by first | rfl | (simp; done) | (simp [*]; done)), H', ⟨by have := HK1.out; omega⟩, ⟨by repeat (first | (with_reducible first | exact HB.out | apply below_alloc | apply pw_below_drewN | apply below_drew1) | exact HB.out)⟩⟩
          · rw [if_neg c4] at H
            exact absurd H (by simp)
        · rw [if_neg c3] at H
          exact absurd H (by simp)
      · rw [if_neg c2] at H
        have c2b0 : decide (x9_1 < (l0.length : Int)) = false := decide_eq_false c2
        clear c2
        replace H := Option.bind_eq_some_iff.mp H
        obtain ⟨t102, A50, H⟩ := H
        replace H : (some t102) = some r := H
        have A5 := Aside0.mk A50
        clear A50
        obtain rfl := Option.some.inj H
        go_wp2_with (first | ((with_reducible refine gate_callee (f := 109) rfl ?_); refine goesL_ (some 23) rfl rfl Try.func109 (by kernel_rfl) rfl #[.int .i64 (Go.bits .andNot .i64 x4_1 x3_1)] rfl (by (try simp only [List.map_toArray, List.map_cons, List.map_nil]); first | done | rfl | (simp only [List.length_drop, List.length_take]; rfl)) ?_; (with_reducible refine (impl_items.calls k1 (Go.bits .andNot .i64 x4_1 x3_1) t102 _ A5.out).mono ?_); rintro e w6 ⟨v103, rfl, ho0, hb⟩; refine ⟨_, rfl, ?_⟩; have n0_ := Aside0.mk (Kd.R_lower ho0 (below_size (by repeat (first | (with_reducible first | exact HB.out | apply below_alloc | apply pw_below_drewN | apply below_drew1) | exact HB.out)))); have n1_ := Aside0.mk (below_step (by repeat (first | (with_reducible first | exact HB.out | apply below_alloc | apply pw_below_drewN | apply below_drew1) | exact HB.out)) hb); clear HB; have HO104 := n0_; have HB := n1_; clear n0_ n1_; (try clear hb); (try clear hb2); (try clear hk); (try clear hi); (try clear ho0)))
        go_ret
        exact ⟨_, by first | rfl | (simp [errW_none, errW_some] <;> rfl) | (simp [*, errW_none, errW_some] <;> rfl), by (with_reducible repeat (first | apply Kd.R_alloc | apply Kd.R_drewN | apply Kd.R_drew)); exact HO104.out, by repeat (first | (with_reducible first | exact HB.out | apply below_alloc | apply pw_below_drewN | apply below_drew1) | exact HB.out)⟩

-- HAND with impl.open+impl.items
theorem open_loop (L : List Int) (hM : ∀ x ∈ L, I128 x) (hl : L.length ≤ 128) : ∀ (B A : List Int) (a o : Nat), A ++ B = L → a < 128 → o < 128 → Ev (fun k => impl_open.l0 k a o L L.length A.length) (itemsL ((nd (orA B o) (andA B a) : Nat) : Int))
  | [], A, a, o, hA, ha, ho => by
    rw [List.append_nil] at hA
    subst hA
    show Ev _ (itemsL ((nd o a : Nat) : Int))
    have hlt : nd o a < 128 := Nat.lt_of_le_of_lt (sub_le (fun j hj => by rw [nd_testBit, Bool.and_eq_true] at hj; exact hj.1)) ho
    refine Ev.succ (fun k => by simp only [impl_open.l0]; rw [if_neg (by omega), bits_nd o a (by omega) (by omega)]) ?_
    exact Ev.bind (itemsE (by omega) (by omega)) (Ev.const rfl)
  | x :: B, A, a, o, hA, ha, ho => by
    have hlt : A.length < L.length := by rw [← hA]; simp
    have hrd : rd L (A.length : Int) = x := by rw [← hA]; exact rd_append A B x
    obtain ⟨x0, x1⟩ := hM x (by rw [← hA]; simp)
    obtain ⟨m, rfl⟩ := Int.eq_ofNat_of_zero_le x0
    have hn := open_loop L hM hl B (A ++ [(m : Int)]) (a &&& m) (o ||| m) (by rw [List.append_assoc]; exact hA) (Nat.lt_of_le_of_lt Nat.and_le_left ha) (Nat.or_lt_two_pow (n := 7) ho (show m < 2 ^ 7 by omega))
    rw [List.length_append, List.length_singleton] at hn
    push_cast at hn
    refine Ev.succ (fun k => by simp only [impl_open.l0]; rw [if_pos (by omega), if_pos (by omega), if_pos (by omega), hrd, bits_and a m (by omega) (by omega), bits_or o m (by omega) (by omega), wrap_succ (by omega) (by omega)]) ?_
    exact hn
theorem open_ok (L : List Int) (hM : ∀ x ∈ L, I128 x) (hl : L.length ≤ 128) : Ev (fun k => impl_open.f k L) (itemsL (openS L : Int)) := by
  unfold impl_open.f
  exact open_loop L hM hl L [] 127 0 rfl (by decide) (by decide)

-- HAND with (impl.Space).left+impl.open
open Go.Maps in
theorem arr2_law : Keyed Try.prog 111 := Keyed.of_law (Go.deep_law (m := 2) (by decide) (by kernel_rfl) (by kernel_rfl) (by rw [Try.underlying111]))
theorem keyType2 : Try.prog.keyType 111 = true := by kernel_rfl
/-- A pair of answers as a key. -/
def key2 (y x : Int) : Value := .agg #[.int .i64 y, .int .i64 x]
def kl2 (y x : Int) : Lit := .string (keyBytes [.int .i64 y, .int .i64 x])
theorem cells2 : Try.prog.cellsOf 111 = 2 ∧ Try.prog.cellsOf 3 = 1 := ⟨by kernel_rfl, by kernel_rfl⟩
theorem lits2 {y x : Int} (hy : 0 ≤ y ∧ y < 128) (hx : 0 ≤ x ∧ x < 128) : ∀ d, Try.prog.keyLits (d + 2) 111 [.int .i64 y, .int .i64 x] = some [.int .i64 y, .int .i64 x] := by
 intro d
 have h1 : (Lit.int .i64 y).wf = true := WalkArith.wf_i64 (by omega)
 have h2 : (Lit.int .i64 x).wf = true := WalkArith.wf_i64 (by omega)
 have r2 : List.range 2 = [0, 1] := by decide
 simp [Program.keyLits, Try.underlying111, Try.underlying3, cells2.1, cells2.2, h1, h2, r2]
theorem szp2 : Nat.beq Try.prog.types.size 0 = false := by kernel_rfl
theorem sz2 : ∃ d, Try.prog.types.size + 1 = d + 2 := by
 have h := szp2
 generalize Try.prog.types.size = s at *
 cases s with
 | zero => cases h
 | succ d => exact ⟨d, rfl⟩
theorem keyOf2 {y x : Int} (hy : 0 ≤ y ∧ y < 128) (hx : 0 ≤ x ∧ x < 128) : keyOf Try.prog 111 (key2 y x) = some (kl2 y x) := by
 obtain ⟨d, hd⟩ := sz2
 unfold keyOf
 rw [Try.underlying111, hd]
 have hf : (key2 y x).formed Try.prog 111 = true := by simp [Value.formed, Try.underlying111, cells2.1, key2]
 have hl : Try.prog.keyLits (d + 2) 111 (key2 y x).cells.toList = some [.int .i64 y, .int .i64 x] := lits2 hy hx d
 simp only [keyType2, hf, Bool.and_self, if_true, hl, Option.map_some]
 rfl
theorem kl2_inj {y x y' x' : Int} (hy : 0 ≤ y ∧ y < 128) (hx : 0 ≤ x ∧ x < 128) (hy' : 0 ≤ y' ∧ y' < 128) (hx' : 0 ≤ x' ∧ x' < 128) (h : kl2 y x = kl2 y' x') : y = y' ∧ x = x' := by
 have h1 := arr2_law.inj (keyOf2 hy hx) (h ▸ keyOf2 hy' hx')
 unfold key2 at h1
 injection h1 with h1
 injection h1 with h1
 injection h1 with h1 h2
 injection h1 with _ h1
 injection h2 with h2 _
 injection h2 with _ h2
 exact ⟨h1, h2⟩
theorem zeroE_intA (w : World) : (zeroValue 3).run Try.prog w = .ok (.int .i64 0) w := by kernel_rfl
/-- The least over some items of what two answers each cost; the first is taken whatever it is. -/
def askLoop (rec_ : Int → Int → Option Int) (comb : Int → Int → Int) (y x : Int) : List Int → Bool → Int → Option Int
 | [], _, b => some b
 | i :: I, f, b => if 0 ≤ i then (rec_ (Go.bits .or .i64 y (shl .i64 1 i)) x).bind fun p => (rec_ y (Go.bits .or .i64 x (shl .i64 1 i))).bind fun q => askLoop rec_ comb y x I false (if f = true ∨ comb p q < b then comb p q else b) else none
/-- What it costs to go on from answers. -/
def askF (comb : Int → Int → Int → Int) (n : Int) (l : List Int) : Nat → Int → Int → Option Int
 | 0, _, _ => none
 | k + 1, y, x => if 0 ≤ y ∧ y < 128 ∧ 0 ≤ x ∧ x < 128 then (impl_Space_left.f k n l y x).bind fun L => (impl_open.f k L).bind fun O => askLoop (fun y x => askF comb n l k y x) (comb L.length) y x O true 0 else none
def combW (_ p q : Int) : Int := wrap64 (1 + if p < q then q else p)
def combT (s p q : Int) : Int := wrap64 (wrap64 (s + p) + q)
theorem askLoop_mono {r1 r2 : Int → Int → Option Int} (h : ∀ y x, LeO (r1 y x) (r2 y x)) (comb : Int → Int → Int) (y x : Int) : ∀ (I : List Int) (f : Bool) (b : Int), LeO (askLoop r1 comb y x I f b) (askLoop r2 comb y x I f b)
 | [], _, _ => LeO.refl _
 | i :: I, f, b => by
  unfold askLoop
  exact LeO.ite (LeO.bind (h _ _) fun p => LeO.bind (h _ _) fun q => askLoop_mono h comb y x I _ _) (LeO.refl _)
theorem askF_mono (comb : Int → Int → Int → Int) (n : Int) (l : List Int) : ∀ (k : Nat) (y x : Int), LeO (askF comb n l k y x) (askF comb n l (k + 1) y x)
 | 0, _, _ => LeO.none _
 | k + 1, y, x => by
  show LeO (if 0 ≤ y ∧ y < 128 ∧ 0 ≤ x ∧ x < 128 then (impl_Space_left.f k n l y x).bind fun L => (impl_open.f k L).bind fun O => askLoop (fun y x => askF comb n l k y x) (comb L.length) y x O true 0 else none) (if 0 ≤ y ∧ y < 128 ∧ 0 ≤ x ∧ x < 128 then (impl_Space_left.f (k + 1) n l y x).bind fun L => (impl_open.f (k + 1) L).bind fun O => askLoop (fun y x => askF comb n l (k + 1) y x) (comb L.length) y x O true 0 else none)
  exact LeO.ite (LeO.bind (impl_Space_left.mono _ _ _ _ k) fun L => LeO.bind (impl_open.mono _ k) fun O => askLoop_mono (askF_mono comb n l k) _ _ _ _ _ _) (LeO.refl _)
theorem askF_det {comb : Int → Int → Int → Int} {n : Int} {l : List Int} {k k' : Nat} {y x : Int} {a b : Int} (h : askF comb n l k y x = some a) (h' : askF comb n l k' y x = some b) : a = b := by
 have h1 := at_rounds (fun k => askF_mono comb n l k y x) (Nat.le_max_left k k') h
 have h2 := at_rounds (fun k => askF_mono comb n l k y x) (Nat.le_max_right k k') h'
 rw [h1] at h2
 exact Option.some.inj h2
theorem askF_range {comb : Int → Int → Int → Int} {n : Int} {l : List Int} {k : Nat} {y x : Int} {a : Int} (h : askF comb n l k y x = some a) : (0 ≤ y ∧ y < 128) ∧ (0 ≤ x ∧ x < 128) := by
 cases k with
 | zero => cases h
 | succ k =>
  unfold askF at h
  split at h
  ·
   rename_i hh
   exact ⟨⟨hh.1, hh.2.1⟩, hh.2.2⟩
  ·
   cases h
theorem askLoop_wf {rec_ : Int → Int → Option Int} {comb : Int → Int → Int} {y x : Int} (hc : ∀ p q, (Lit.int .i64 (comb p q)).wf = true) : ∀ (I : List Int) (f : Bool) (b r : Int), (Lit.int .i64 b).wf = true → askLoop rec_ comb y x I f b = some r → (Lit.int .i64 r).wf = true
 | [], f, b, r, hb, h => by
  obtain rfl := Option.some.inj h
  exact hb
 | i :: I, f, b, r, hb, h => by
  unfold askLoop at h
  split at h
  ·
   obtain ⟨p, _, h2⟩ := Option.bind_eq_some_iff.1 h
   obtain ⟨q, _, h3⟩ := Option.bind_eq_some_iff.1 h2
   refine askLoop_wf hc I _ _ _ ?_ h3
   split
   ·
    exact hc p q
   ·
    exact hb
  ·
   cases h
theorem combW_wf (s p q : Int) : (Lit.int .i64 (combW s p q)).wf = true := WalkArith.wf_i64 (by unfold combW wrap64; omega)
/-- All keys are pairs of sets. -/
def RangeA (D : DataW Unit) : Prop := ∃ es, D = .map es ∧ ∀ p ∈ es, ∃ y x : Int, p.1 = kl2 y x ∧ (0 ≤ y ∧ y < 128) ∧ (0 ≤ x ∧ x < 128)
/-- What is kept is right. -/
def MemoA (comb : Int → Int → Int → Int) (n : Int) (l : List Int) (D : DataW Unit) : Prop := RangeA D ∧ ∀ y x : Int, (0 ≤ y ∧ y < 128) → (0 ≤ x ∧ x < 128) → Go.Maps.has D (kl2 y x) = true → ∃ (k : Nat) (v : Int), askF comb n l k y x = some v ∧ D.atKey (kl2 y x) (.lit (.int .i64 0)) = .lit (.int .i64 v)
theorem nodup_lenA {α : Type} [DecidableEq α] : ∀ (l m : List α), l.Nodup → (∀ x ∈ l, x ∈ m) → l.length ≤ m.length
 | [], m, _, _ => Nat.zero_le _
 | x :: l, m, hn, hs => by
  have hx := hs x List.mem_cons_self
  have h1 := nodup_lenA l (m.erase x) (List.nodup_cons.1 hn).2 (fun y hy => by
   have hne : y ≠ x := fun e => (List.nodup_cons.1 hn).1 (e ▸ hy)
   exact (List.mem_erase_of_ne hne).2 (hs y (List.mem_cons_of_mem _ hy)))
  rw [List.length_erase_of_mem hx] at h1
  have := List.length_pos_of_mem hx
  rw [List.length_cons]
  omega
/-- All pairs of sets. -/
def allKeys : List Lit := (List.range 128).flatMap fun (y : Nat) => (List.range 128).map fun (x : Nat) => kl2 (y : Int) (x : Int)
theorem allKeys_len : allKeys.length = 16384 := by
 unfold allKeys
 rw [List.length_flatMap]
 simp only [List.length_map, List.length_range]
 rw [List.map_const', List.sum_replicate_nat, List.length_range]
theorem allKeys_mem {y x : Int} (hy : 0 ≤ y ∧ y < 128) (hx : 0 ≤ x ∧ x < 128) : kl2 y x ∈ allKeys := by
 unfold allKeys
 refine List.mem_flatMap.2 ⟨y.toNat, List.mem_range.2 (by omega), List.mem_map.2 ⟨x.toNat, List.mem_range.2 (by omega), ?_⟩⟩
 rw [show ((y.toNat : Nat) : Int) = y by omega, show ((x.toNat : Nat) : Int) = x by omega]
theorem own_tightA {w : World} {b m : Nat} {D : DataW Unit} (h : w.ownsMap Try.prog 111 (plainElem Try.prog 3) b m D) (hr : RangeA D) : w.ownsMap Try.prog 111 (plainElem Try.prog 3) b 16384 D := by
 classical
 obtain ⟨ex, e1, hx⟩ := hr
 obtain ⟨et, e2, hp⟩ := World.ownsMap.tidy h arr2_law
 obtain ⟨es, clock, hb, F, hs, hD⟩ := h
 refine ⟨es, clock, hb, F, ?_, hD⟩
 have e3 : ex = et := by rw [e1] at e2; injection e2
 have e4 : ex = (es.toList.map (Go.WideElems.rg Try.prog 111 (plainElem Try.prog 3))).foldr DataW.insert [] := by rw [e1] at hD; injection hD
 have h1 : ex.length = es.size := by rw [e4, length_sorted, List.length_map, Array.length_toList]
 rw [← h1, ← allKeys_len]
 have h2 : (ex.map fun p => p.1).length ≤ allKeys.length := by
  refine nodup_lenA _ _ ?_ ?_
  ·
   rw [List.Nodup, List.pairwise_map]
   exact e3 ▸ hp
  ·
   intro z hz
   obtain ⟨p, hpm, rfl⟩ := List.mem_map.1 hz
   obtain ⟨y, x, x1, x2, x3⟩ := hx p hpm
   rw [x1]
   exact allKeys_mem x2 x3
 rw [List.length_map] at h2
 exact h2
theorem RangeA.put {D : DataW Unit} (h : RangeA D) {y x : Int} (hy : 0 ≤ y ∧ y < 128) (hx : 0 ≤ x ∧ x < 128) (d : DataW Unit) : RangeA (D.put (kl2 y x) d) := by
 obtain ⟨es, rfl, h⟩ := h
 refine ⟨DataW.insert (kl2 y x, d) (es.filter fun p => !p.1.sameKey (kl2 y x)), rfl, fun p hp => ?_⟩
 rcases List.mem_cons.1 ((Go.WideShapes.insert_perm _ _).mem_iff.1 hp) with rfl | hp
 ·
  exact ⟨y, x, rfl, hy, hx⟩
 ·
  exact h p (List.mem_filter.1 hp).1
theorem RangeA.isMap {D : DataW Unit} (h : RangeA D) : Go.Maps.IsMap D := by
 obtain ⟨es, rfl, _⟩ := h
 exact ⟨es, rfl⟩
structure AskS (comb : Int → Int → Int → Int) (wb w : World) (g bm : Nat) (n : Int) (A : Option Addr) (c : Nat) (l : List Int) (m1 m2 : Value) (D : DataW Unit) : Prop where
 bel : Below wb.heap.size wb w
 blk : w.heap[g]? = some (.cells #[.int .i64 n, .slice A l.length c, m1, m2] 110 (0, 0))
 map : w.ownsMap Try.prog 111 (plainElem Try.prog 3) bm 16384 D
 memo : MemoA comb n l D
 wm : wb.heap.size ≤ bm
section
variable {comb : Int → Int → Int → Int} {wb w w' w'' : World} {g bm : Nat} {n : Int} {A : Option Addr} {c : Nat} {l : List Int} {m1 m2 : Value} {D : DataW Unit}
theorem cells_ne_mapA {W : World} {g b : Nat} {cs : Array Value} {t : TypeId} {P : Program} {k : TypeId} {R : Value → Option (DataW Unit × List MemPlace)} {m : Nat} {D : DataW Unit} (h : W.heap[g]? = some (.cells cs t (0, 0))) (hm : W.ownsMap P k R b m D) : some g ≠ some b := by
 rintro e
 obtain rfl := Option.some.inj e
 obtain ⟨es, clock, hb, _⟩ := hm
 rw [h] at hb
 cases hb
theorem AskS.below (h : AskS comb wb w g bm n A c l m1 m2 D) (hb : Below w.heap.size w w') : AskS comb wb w' g bm n A c l m1 m2 D :=
 ⟨below_step h.bel hb, blk_below h.blk hb, h.map.kept (grown_of_below hb none) (by simp), h.memo, h.wm⟩
theorem AskS.drewN (h : AskS comb wb w g bm n A c l m1 m2 D) (j : Nat) : AskS comb wb (w.drewN j) g bm n A c l m1 m2 D := h.below (pw_below_drewN (Below.refl _ _) j)
theorem AskS.cells (h : AskS comb wb w g bm n A c l m1 m2 D) : w.cell? ⟨g, 0, none⟩ = some (.int .i64 n) ∧ w.cell? ⟨g, 1, none⟩ = some (.slice A l.length c) ∧ w.cell? ⟨g, 2, none⟩ = some m1 ∧ w.cell? ⟨g, 3, none⟩ = some m2 := ⟨(blk_cell h.blk 0).trans rfl, (blk_cell h.blk 1).trans rfl, (blk_cell h.blk 2).trans rfl, (blk_cell h.blk 3).trans rfl⟩
theorem AskS.put (h : AskS comb wb w g bm n A c l m1 m2 D) {y x v : Int} {k : Nat} (hv : askF comb n l k y x = some v) (hm : w'.ownsMap Try.prog 111 (plainElem Try.prog 3) bm 16385 (D.put (kl2 y x) (.lit (.int .i64 v)))) (hg : w.grownBy w' (some bm)) : AskS comb wb w' g bm n A c l m1 m2 (D.put (kl2 y x) (.lit (.int .i64 v))) := by
 obtain ⟨hy, hx⟩ := askF_range hv
 refine ⟨pw_below_grown h.bel (some bm) h.bel.size hg (fun k hk => by cases hk; exact h.wm), blk_grown h.blk hg (cells_ne_mapA h.blk h.map), own_tightA hm (h.memo.1.put hy hx _), ⟨h.memo.1.put hy hx _, fun y' x' hy' hx' hh => ?_⟩, h.wm⟩
 by_cases e : y' = y ∧ x' = x
 ·
  obtain ⟨rfl, rfl⟩ := e
  exact ⟨k, v, hv, Go.Maps.atKey_put_same h.memo.1.isMap (show WideAt.IsKeyLit (kl2 y' x') from by simp [WideAt.IsKeyLit, kl2]) _ _⟩
 ·
  have hne : kl2 y' x' ≠ kl2 y x := fun h2 => e (kl2_inj hy' hx' hy hx h2)
  rw [Go.Maps.has_put_other hne] at hh
  rw [Go.Maps.atKey_put_other hne]
  exact h.memo.2 y' x' hy' hx' hh
/-- What may have changed between two worlds: the map, which is still right. -/
def AskOk (comb : Int → Int → Int → Int) (wb w w' : World) (g bm : Nat) (n : Int) (A : Option Addr) (c : Nat) (l : List Int) (m1 m2 : Value) : Prop := ∃ D, AskS comb wb w' g bm n A c l m1 m2 D ∧ Kept w w' (fun k => k = bm)
theorem AskOk.trans (h : AskOk comb wb w w' g bm n A c l m1 m2) (h2 : AskOk comb wb w' w'' g bm n A c l m1 m2) : AskOk comb wb w w'' g bm n A c l m1 m2 := by
 obtain ⟨_, _, k1⟩ := h
 obtain ⟨D, s2, k2⟩ := h2
 exact ⟨D, s2, k1.then_ k2 (fun _ hk => .inl hk)⟩
theorem AskS.at_ (h : AskS comb wb w g bm n A c l m1 m2 D) {y x : Int} (hy : 0 ≤ y ∧ y < 128) (hx : 0 ≤ x ∧ x < 128) : ∃ cv, D.atKey (kl2 y x) (.lit (.int .i64 0)) = .lit (.int .i64 cv) := by
 obtain ⟨cv, _, h2, _⟩ := h.map.lookup_int arr2_law Try.underlying108 Try.underlying3 (zeroE_intA _) (keyOf2 hy hx)
 exact ⟨cv, h2⟩
theorem AskS.look (h : AskS comb wb w g bm n A c l m1 m2 D) {y x cv : Int} {b : Bool} (hy : 0 ≤ y ∧ y < 128) (hx : 0 ≤ x ∧ x < 128) (hc : D.atKey (kl2 y x) (.lit (.int .i64 0)) = .lit (.int .i64 cv)) (hh : Go.Maps.has D (kl2 y x) = b) : (Instr.lookup 108 (.map (some bm)) (.agg #[.int .i64 y, .int .i64 x]) true).run Try.prog w = .ok (.tuple #[.int .i64 cv, .bool b]) w := by
 have hz : plainElem (H := Unit) Try.prog 3 (.int .i64 0) = some (.lit (.int .i64 0), []) := plainElem_int Try.underlying3 (by decide)
 have hl := fun (v : Value) (ps : List MemPlace) => h.map.look_ok arr2_law Try.underlying108 (zeroE_intA w) hz (keyOf2 hy hx)
 obtain ⟨v, ps, hrun, hv⟩ := hl (.int .i64 0) []
 obtain ⟨c, rfl, hc2, _⟩ := plainElem_int_inv Try.underlying3 hv
 rw [hc] at hc2
 have h1 : cv = c := by
  have h2 := congrArg (fun z : DataW Unit × List MemPlace => z.1) hc2
  exact (Lit.int.inj (DataW.lit.inj h2)).2
 rw [hh, ← h1] at hrun
 exact hrun
/-- The world behind a store into the map. -/
noncomputable def putW (bm : Nat) (y x v : Int) (w : World) : World := match (Instr.mapUpdate 108 (.map (some bm)) (.agg #[.int .i64 y, .int .i64 x]) (.int .i64 v)).run Try.prog w with
 | .ok _ w2 => w2
 | _ => w
theorem AskS.update (h : AskS comb wb w g bm n A c l m1 m2 D) {y x v : Int} {k : Nat} (hv : askF comb n l k y x = some v) (hw : (Lit.int .i64 v).wf = true) : (Instr.mapUpdate 108 (.map (some bm)) (.agg #[.int .i64 y, .int .i64 x]) (.int .i64 v)).run Try.prog w = .ok () (putW bm y x v w) ∧ AskOk comb wb w (putW bm y x v w) g bm n A c l m1 m2 := by
 obtain ⟨hy, hx⟩ := askF_range hv
 obtain ⟨w', hrun, h1, h2⟩ := h.map.update arr2_law Try.underlying108 (by unfold maxLen; omega) (keyOf2 hy hx) (plainElem_int Try.underlying3 hw)
 have e : putW bm y x v w = w' := by
  unfold putW
  unfold key2 at hrun
  rw [hrun]
 rw [e]
 exact ⟨hrun, _, h.put hv h1 h2, Kept.of_grown h2 (Kept.refl _ _) (fun k hk => .inl (by cases hk; rfl))⟩
theorem AskOk.below (h : AskOk comb wb w w' g bm n A c l m1 m2) (hb : Below w'.heap.size w' w'') : AskOk comb wb w w'' g bm n A c l m1 m2 := by
 obtain ⟨D, s, k⟩ := h
 exact ⟨D, s.below hb, k.then_ (Kept.of_below hb (fun k => k = bm)) (fun _ hk => .inl hk)⟩
end

-- HAND with (impl.Space).left+impl.open+impl.items
theorem askLoop_ok {comb : Int → Int → Int → Int} {n : Int} {l : List Int} (s : Int) (y x : Nat) (hy : y < 128) (hx : x < 128) (v : Nat → Int) : ∀ (I : List Nat), (∀ i ∈ I, i < 7 ∧ ∃ p q : Int, Ev (fun k => askF comb n l k ((y ||| 2 ^ i : Nat) : Int) (x : Int)) p ∧ Ev (fun k => askF comb n l k (y : Int) ((x ||| 2 ^ i : Nat) : Int)) q ∧ comb s p q = v i) → ∀ (f : Bool) (b : Int), Ev (fun k => askLoop (fun y x => askF comb n l k y x) (comb s) (y : Int) (x : Int) (I.map fun (i : Nat) => (i : Int)) f b) (minV v I f b)
  | [], _, f, b => Ev.const rfl
  | i :: I, h, f, b => by
    obtain ⟨h7, p, q, hp, hq, hv⟩ := h i (by simp)
    have h2i : (2 : Nat) ^ i < 9223372036854775808 := pow_lt63 i (by omega)
    refine Ev.to (g := fun k => (askF comb n l k ((y ||| 2 ^ i : Nat) : Int) (x : Int)).bind fun p => (askF comb n l k (y : Int) ((x ||| 2 ^ i : Nat) : Int)).bind fun q => askLoop (fun y x => askF comb n l k y x) (comb s) (y : Int) (x : Int) (I.map fun (i : Nat) => (i : Int)) false (if f = true ∨ comb s p q < b then comb s p q else b)) (fun k => by
      rw [List.map_cons, askLoop, if_pos (show (0 : Int) ≤ (i : Int) by omega), shl_one i (by omega), bits_or y (2 ^ i) (by omega) h2i, bits_or x (2 ^ i) (by omega) h2i]) ?_
    refine Ev.bind hp ?_
    refine Ev.bind hq ?_
    rw [hv]
    exact askLoop_ok s y x hy hx v I (fun j hj => h j (by simp [hj])) _ _
/-- What it costs to go on is what the sets that are left cost. -/
theorem askE {comb c : Int → Int → Int → Int} {n : Int} {l : List Int} (hM : ∀ x ∈ l, I128 x) (hl : l.length ≤ 128)
    (hc : ∀ (L : List Int) (i : Nat), L.length ≤ 128 → comb L.length (valV c 7 (hasF i L)) (valV c 7 (hasntF i L)) = c L.length (valV c 7 (hasF i L)) (valV c 7 (hasntF i L))) :
    ∀ (d y x : Nat), y < 128 → x < 128 → (itemsN (openS (leftL l (y : Int) (x : Int)))).length ≤ d → Ev (fun k => askF comb n l k (y : Int) (x : Int)) (valV c 7 (leftL l (y : Int) (x : Int))) := by
  intro d
  induction d using Nat.strongRecOn with
  | ind d ih =>
  intro y x hy hx hd
  have hML : ∀ z ∈ leftL l (y : Int) (x : Int), I128 z := fun z hz => hM z (leftL_sub hz)
  have hLl : (leftL l (y : Int) (x : Int)).length ≤ 128 := Nat.le_trans (leftL_length l _ _) hl
  refine Ev.succ (fun k => by rw [askF, if_pos (show (0 : Int) ≤ (y : Int) ∧ (y : Int) < 128 ∧ (0 : Int) ≤ (x : Int) ∧ (x : Int) < 128 by omega)]) ?_
  refine Ev.bind (left_ok n (y := (y : Int)) (n := (x : Int)) ⟨by omega, by omega⟩ ⟨by omega, by omega⟩ hM (by omega)) ?_
  refine Ev.bind (open_ok _ hML hLl) ?_
  rw [valV_step c hML]
  unfold itemsL
  rw [Int.toNat_natCast]
  refine askLoop_ok _ y x hy hx _ _ (fun i hi => ?_) true 0
  have h7 := itemsN_lt hi
  have hy2 : y ||| 2 ^ i < 128 := Nat.or_lt_two_pow (n := 7) hy (Nat.pow_lt_pow_right (by decide) h7)
  have hx2 : x ||| 2 ^ i < 128 := Nat.or_lt_two_pow (n := 7) hx (Nat.pow_lt_pow_right (by decide) h7)
  have o1 := open_part hML hasF_sub hi (hasF_open h7)
  have o2 := open_part hML hasntF_sub hi (hasntF_open h7)
  have e1 := left_has hM y x i
  have e2 := left_hasnt hM y x i
  refine ⟨h7, _, _, ih (d - 1) (by omega) (y ||| 2 ^ i) x hy2 hx (by rw [e1]; omega), ih (d - 1) (by omega) y (x ||| 2 ^ i) hy hx2 (by rw [e2]; omega), ?_⟩
  rw [e1, e2]
  exact hc _ i hLl
theorem combW_ok (L : List Int) (i : Nat) (_ : L.length ≤ 128) : combW L.length (valV cW 7 (hasF i L)) (valV cW 7 (hasntF i L)) = cW L.length (valV cW 7 (hasF i L)) (valV cW 7 (hasntF i L)) := by
  have h1 := valW_bounds 7 (hasF i L)
  have h2 := valW_bounds 7 (hasntF i L)
  generalize valV cW 7 (hasF i L) = p at *
  generalize valV cW 7 (hasntF i L) = q at *
  unfold combW cW
  split <;> (unfold wrap64; omega)
-- HAND with impl.newAsker+(impl.Space).left+impl.open
set_option maxHeartbeats 8000000 in
set_option maxRecDepth 100000 in
theorem newAsker_maps (n : Int) (A : Option Addr) (c : Nat) (l : List Int) (w : World) :
    Calls Try.prog 48 #[.agg #[.int .i64 n, .slice A l.length c]] w fun e w' => ∃ (g b1 b2 : Nat), e = .returned (.pointer (some ⟨g, 0, none⟩)) ∧ AskS combW w w' g b1 n A c l (.map (some b1)) (.map (some b2)) (.map []) ∧ AskS combT w w' g b2 n A c l (.map (some b1)) (.map (some b2)) (.map []) := by
  have hu := Try.underlying28
  have hu2 := Try.underlying110
  have hmm := @run_makeMap Try.prog
  go_enter Try.func48, Try.ntmps48
  go_wp2_with ((with_reducible refine gate_dst (N := 1) rfl ?_); refine box_event ?hg (N := 1) ?hd (cs := #[.int .i64 n, .slice A l.length c]) (t := 28) ?hr ?_; (case hd => rfl); (case hg => rfl); (case hr => first | (go_simp; done) | (go_simp; rfl)); intro g ge W gb Wb; have HXg := Aside0.mk (SpBox.mk_ ge gb Wb); have gz0 := HXg.out.c0; have gz1 := HXg.out.c1; clear ge gb Wb)
  go_ret
  have hb := HXg.out.bel
  have hs := below_size hb
  have hbel := below_alloc (below_alloc (below_alloc hb (.map #[] 0)) (.map #[] 0)) (.cells #[.int .i64 n, .slice A l.length c, .map (some W.heap.size), .map (some (W.heap.size + 1))] 110)
  have hblk : (((W.alloc (.map #[] 0)).alloc (.map #[] 0)).alloc (.cells #[.int .i64 n, .slice A l.length c, .map (some W.heap.size), .map (some (W.heap.size + 1))] 110)).heap[W.heap.size + 1 + 1]? = some (.cells #[.int .i64 n, .slice A l.length c, .map (some W.heap.size), .map (some (W.heap.size + 1))] 110 (0, 0)) := by
    show (((W.heap.push _).push _).push _)[W.heap.size + 1 + 1]? = some _
    rw [show W.heap.size + 1 + 1 = ((W.heap.push (.map #[] 0)).push (.map #[] 0)).size by simp]
    exact Array.getElem?_push_size
  have hm1 := (((World.ownsMap_made W Try.prog 111 (plainElem (H := Unit) Try.prog 3)).mono (Nat.zero_le 16384)).alloc (.map #[] 0)).alloc (.cells #[.int .i64 n, .slice A l.length c, .map (some W.heap.size), .map (some (W.heap.size + 1))] 110)
  have hm2 := ((World.ownsMap_made (W.alloc (.map #[] 0)) Try.prog 111 (plainElem (H := Unit) Try.prog 3)).mono (Nat.zero_le 16384)).alloc (.cells #[.int .i64 n, .slice A l.length c, .map (some W.heap.size), .map (some (W.heap.size + 1))] 110)
  rw [World.size_alloc] at hm2
  refine ⟨W.heap.size + 1 + 1, W.heap.size, W.heap.size + 1, rfl, ⟨hbel, hblk, hm1, ⟨⟨[], rfl, fun p hp => by cases hp⟩, fun y x _ _ hh => by cases hh⟩, hs⟩, ⟨hbel, hblk, hm2, ⟨⟨[], rfl, fun p hp => by cases hp⟩, fun y x _ _ hh => by cases hh⟩, by omega⟩⟩

-- HAND impl_asker_least: function 52
set_option maxHeartbeats 8000000 in
set_option maxRecDepth 100000 in
theorem impl_asker_least.calls (g bm : Nat) (n : Int) (A : Option Addr) (c : Nat) (l : List Int) (m1 : Value) (wb : World) (hl : Kd.C (Kd.int .i64) wb A l.length l) (hc : l.length ≤ c) :
  ∀ (k : Nat) (y x r : Int) (D : DataW Unit) (w : World) (hS : AskS combW wb w g bm n A c l (.map (some bm)) m1 D) (h : askF combW n l k y x = some r),
  Calls Try.prog 52 #[.pointer (some ⟨g, 0, none⟩), .int .i64 y, .int .i64 x] w fun e w' => e = .returned (.int .i64 r) ∧ AskOk combW wb w w' g bm n A c l (.map (some bm)) m1 := by
 have hu := Try.underlying28
 have hu2 := Try.underlying110
 have HL := asd hl
 have HC := asd hc
 clear hl hc
 intro k
 induction k with
 | zero =>
  intro y x r D w hS h
  cases h
 | succ k ih =>
  intro y x r D w hS h
  have IH := asd ih
  have HW := asd h
  have HLW := asd hS.map.lt
  clear ih
  obtain ⟨hry, hrx⟩ := askF_range h
  have hX := below_alloc (Below.refl _ w) (.cells #[.int .i64 y, .int .i64 x] 111)
  have HS1 := asd (hS.below hX)
  have BK1 := asd (heap_alloc_new w (.cells #[.int .i64 y, .int .i64 x] 111))
  have HX := asd hX
  clear hS hX
  unfold askF at h
  rw [if_pos ⟨hry.1, hry.2, hrx⟩] at h
  obtain ⟨L, hL, h⟩ := Option.bind_eq_some_iff.1 h
  obtain ⟨O, hO, h⟩ := Option.bind_eq_some_iff.1 h
  have HLL := asd hL
  have HO := asd hO
  have HV := asd h
  have HRG : Aside0 ((0 ≤ y ∧ y < 128) ∧ (0 ≤ x ∧ x < 128)) := ⟨⟨hry, hrx⟩⟩
  clear h hL hO hry hrx
  obtain ⟨cv, hcv⟩ := HS1.out.at_ HRG.out.1 HRG.out.2
  have HCV := asd hcv
  clear hcv
  cases hh : Go.Maps.has D (kl2 y x) with
  | true =>
   obtain ⟨k2, v2, e1, e2⟩ := HS1.out.memo.2 y x HRG.out.1 HRG.out.2 hh
   have HC2 : Aside0 (cv = r) := ⟨by
    have h1 := HCV.out.symm.trans e2
    rw [askF_det HW.out e1]
    exact (Lit.int.inj (DataW.lit.inj h1)).2⟩
   have HH := asd hh
   clear hh e1 e2
   go_enter Try.func52, Try.ntmps52
   go_wp2
   generalize w.alloc (.cells #[.int .i64 y, .int .i64 x] 111) = w1 at *
   have HK0 : Aside0 (∀ w', Below w1.heap.size w1 w' → Aside0 (Below w1.heap.size w1 w') ∧ w'.cell? ⟨g, 2, none⟩ = some (.map (some bm)) ∧ w'.cell? ⟨w.heap.size, 0, none⟩ = some (.int .i64 y) ∧ w'.cell? ⟨w.heap.size, 1, none⟩ = some (.int .i64 x) ∧ (Instr.lookup 108 (.map (some bm)) (.agg #[.int .i64 y, .int .i64 x]) true).run Try.prog w' = .ok (.tuple #[.int .i64 cv, .bool true]) w') := ⟨fun w' hb => ⟨⟨hb⟩, (HS1.out.below hb).cells.2.2.1, (blk_cell (blk_below BK1.out hb) 0).trans rfl, (blk_cell (blk_below BK1.out hb) 1).trans rfl, (HS1.out.below hb).look HRG.out.1 HRG.out.2 HCV.out HH.out⟩⟩
   go_region_held3 (fun w' => Aside0 (Below w1.heap.size w1 w') ∧ w'.cell? ⟨g, 2, none⟩ = some (.map (some bm)) ∧ w'.cell? ⟨w.heap.size, 0, none⟩ = some (.int .i64 y) ∧ w'.cell? ⟨w.heap.size, 1, none⟩ = some (.int .i64 x) ∧ (Instr.lookup 108 (.map (some bm)) (.agg #[.int .i64 y, .int .i64 x]) true).run Try.prog w' = .ok (.tuple #[.int .i64 cv, .bool true]) w') (first | exact HK0.out _ (Below.refl _ _) | exact HK0.out _ (below_drew1 (Below.refl _ _)) | exact HK0.out _ (below_step (‹Aside0 (Below w1.heap.size w1 _) ∧ _›).1.out (by assumption))) (fail)
   go_wp2
   go_ret
   exact ⟨by rw [HC2.out]; rfl, D, HS1.out.below (below_drew1 (Below.refl _ _)), Kept.of_below (below_step HX.out (below_drew1 (Below.refl _ _))) _⟩
  | false =>
   have HH := asd hh
   clear hh
   go_enter Try.func52, Try.ntmps52
   go_wp2
   generalize w.alloc (.cells #[.int .i64 y, .int .i64 x] 111) = w1 at *
   have HK0 : Aside0 (∀ w', Below w1.heap.size w1 w' → Aside0 (Below w1.heap.size w1 w') ∧ w'.cell? ⟨g, 2, none⟩ = some (.map (some bm)) ∧ w'.cell? ⟨w.heap.size, 0, none⟩ = some (.int .i64 y) ∧ w'.cell? ⟨w.heap.size, 1, none⟩ = some (.int .i64 x) ∧ (Instr.lookup 108 (.map (some bm)) (.agg #[.int .i64 y, .int .i64 x]) true).run Try.prog w' = .ok (.tuple #[.int .i64 cv, .bool false]) w') := ⟨fun w' hb => ⟨⟨hb⟩, (HS1.out.below hb).cells.2.2.1, (blk_cell (blk_below BK1.out hb) 0).trans rfl, (blk_cell (blk_below BK1.out hb) 1).trans rfl, (HS1.out.below hb).look HRG.out.1 HRG.out.2 HCV.out HH.out⟩⟩
   go_region_held3 (fun w' => Aside0 (Below w1.heap.size w1 w') ∧ w'.cell? ⟨g, 2, none⟩ = some (.map (some bm)) ∧ w'.cell? ⟨w.heap.size, 0, none⟩ = some (.int .i64 y) ∧ w'.cell? ⟨w.heap.size, 1, none⟩ = some (.int .i64 x) ∧ (Instr.lookup 108 (.map (some bm)) (.agg #[.int .i64 y, .int .i64 x]) true).run Try.prog w' = .ok (.tuple #[.int .i64 cv, .bool false]) w') (first | exact HK0.out _ (Below.refl _ _) | exact HK0.out _ (below_drew1 (Below.refl _ _)) | exact HK0.out _ (below_step (‹Aside0 (Below w1.heap.size w1 _) ∧ _›).1.out (by assumption))) (fail)
   have HB2 : Aside0 (Below w1.heap.size w1 w1.drew) := ⟨below_drew1 (Below.refl _ _)⟩
   clear HK0 HCV HH
   generalize w1.drew = w2 at *
   have HS2 := asd (HS1.out.below HB2.out)
   have BK2 := asd (blk_below BK1.out HB2.out)
   have HX2 := asd (below_step HX.out HB2.out)
   have q0 := HS2.out.cells.1
   have q1 := HS2.out.cells.2.1
   clear HS1 HB2 BK1 HX
   go_wp2_with (first | (go_at_call 55; (with_reducible refine (impl_Space_left.calls k n _ _ l y x L _ ?sa ?sb HLL.out).mono ?_); (case sa => exact Kd.C_below HL.out HS2.out.bel); (case sb => exact HC.out); rintro e W4 ⟨vL, rfl, hR, hb4⟩; have HS4 := asd (HS2.out.below hb4); have HB4 := asd (below_step HX2.out hb4); have BK4 := asd (blk_below BK2.out hb4); obtain ⟨AL, cL, rfl⟩ := Kd.R_slice hR; have HRL := asd (Kd.R_reads' hR).2.2; have HCL := asd (Kd.R_reads' hR).2.1; clear hR hb4 q0 q1) | (go_at_call 105; (refine (impl_open.calls k _ _ L O _ HRL.out HCL.out HO.out).mono ?_); rintro e W5 ⟨vI, rfl, hR, hb5⟩; have HS5 := asd (HS4.out.below hb5); have HB5 := asd (below_step HB4.out hb5); have BK5 := asd (blk_below BK4.out hb5); obtain ⟨AI, cI, rfl⟩ := Kd.R_slice hR; have HIT := asd (Kd.R_tight rfl hR); have HIB := asd (Kd.R_base hR); have HLT := asd HS4.out.map.lt; clear hR hb5))
   have HNI : Aside0 (∀ k, some k = (Value.slice AI O.length cI).ownBlock → ¬ k = bm) := ⟨fun k hk hh => by
    have h1 := HIB.out k hk.symm
    have := HLT.out
    omega⟩
   clear HS2 BK2 HX2 HS4 HB4 BK4 HRL HCL HIB HLT
   go_loopg [10, 37] O.length (fun kq v11 v39 wr => ∃ (j : Nat) (b : Int) (D1 : DataW Unit), v11 = .int .i64 b ∧ v39 = .int .i64 j ∧ Aside0 (j ≤ O.length ∧ O.length - j ≤ kq) ∧ Aside0 (askLoop (fun y x => askF combW n l k y x) (combW L.length) y x (O.drop j) (decide (j = 0)) b = some r) ∧ Aside0 (AskS combW wb wr g bm n A c l (.map (some bm)) m1 D1) ∧ Aside0 (Kept W5 wr (fun k => k = bm)))
   case atStart => exact ⟨0, 0, D, rfl, rfl, ⟨Nat.zero_le _, Nat.le_refl _⟩, ⟨HV.out⟩, HS5, ⟨Kept.refl _ _⟩⟩
   case round =>
    obtain ⟨j, b, D1, rfl, rfl, hj, HA, HS, HK⟩ := hrel
    obtain ⟨hjl, hgg⟩ := hj.out
    clear hj
    have HOK : Aside0 (AskOk combW wb wr wr g bm n A c l (.map (some bm)) m1) := ⟨⟨D1, HS.out, Kept.refl _ _⟩⟩
    by_cases hlt : j < O.length
    ·
     have HIR := asd (Kd.R_reads' (Kd.R_step HIT.out (fun k hk hlt => HK.out.2 k hlt (HNI.out k hk)))).2.2
     have hmx := Kd.C_max HIR.out
     have hltz : (j : Int) < (O.length : Int) := by omega
     have H := HA.out
     clear HA
     rw [List.drop_eq_getElem_cons hlt, ← rd_get hlt] at H
     obtain ⟨ad, e, hcx⟩ := Kd.at_int HIR.out (j : Int) (by omega) hltz
     cases e
     rw [Int.toNat_natCast] at hcx
     generalize rd O (j : Int) = i at *
     unfold askLoop at H
     by_cases hi : 0 ≤ i
     ·
      rw [if_pos hi] at H
      obtain ⟨p, hp, H⟩ := Option.bind_eq_some_iff.1 H
      obtain ⟨q, hq, H⟩ := Option.bind_eq_some_iff.1 H
      obtain ⟨v0, hv0⟩ : ∃ v0, v0 = combW L.length p q := ⟨_, rfl⟩
      rw [← hv0] at H
      have HH2 := asd H
      have hi0b : decide (0 ≤ i) = true := decide_eq_true hi
      obtain ⟨sx, hsx⟩ : ∃ y, y = shl .i64 1 i := ⟨_, rfl⟩
      have sA : IntKind.i64.wrap (1 * 2 ^ min i.toNat 64) = sx := hsx.symm
      have sB : IntKind.i64.wrap (2 ^ min i.toNat 64) = sx := by rw [← sA, Int.one_mul]
      have sC : wrap64 (1 * 2 ^ min i.toNat 64) = sx := (i64_w _).symm.trans sA
      have sD : wrap64 (2 ^ min i.toNat 64) = sx := (i64_w _).symm.trans sB
      have HREC1 : Aside0 (askF combW n l k (Go.bits .or .i64 y sx) x = some p) := ⟨by rw [hsx]; exact hp⟩
      have HREC2 : Aside0 (askF combW n l k y (Go.bits .or .i64 x sx) = some q) := ⟨by rw [hsx]; exact hq⟩
      have cA : IntKind.i64.wrap (1 + if p < q then q else p) = v0 := by rw [hv0, i64_w]; rfl
      clear hsx H hp hq hv0
      go_wp2
      go_region_held3 (fun w' => Aside0 (AskOk combW wb wr w' g bm n A c l (.map (some bm)) m1)) (first | assumption | exact ⟨HOK.out.below (below_drew1 (Below.refl _ _))⟩ | exact ⟨(‹Aside0 (AskOk combW wb wr _ g bm n A c l (.map (some bm)) m1)›).out.trans (by assumption)⟩ | exact HOK) (first | (go_at_call 52; obtain ⟨Dq, hSq, hKq⟩ := (‹Aside0 (AskOk combW wb wr _ g bm n A c l (.map (some bm)) m1)›).out; (first | (with_reducible refine (IH.out (Go.bits .or .i64 y sx) x p Dq _ hSq HREC1.out).mono ?_) | (with_reducible refine (IH.out y (Go.bits .or .i64 x sx) q Dq _ hSq HREC2.out).mono ?_)); rintro e W3 ⟨rfl, hb3⟩))
      have HB3 := ‹Aside0 (AskOk combW wb wr _ g bm n A c l (.map (some bm)) m1)›
      by_cases hj0 : j = 0
      ·
       have jb : ((j : Int) == 0) = true := beq_iff_eq.mpr (by omega)
       go_wp2
       all_goals go_roundg (O.length - (j + 1))
       all_goals first | (case measure => omega) | (case rel => obtain ⟨D2, hS2, hK2⟩ := HB3.out; exact ⟨j + 1, v0, D2, rfl, by go_num, ⟨by omega, Nat.le_refl _⟩, ⟨by have h := HH2.out; rw [if_pos (Or.inl (decide_eq_true hj0))] at h; rw [show decide (j + 1 = 0) = false from decide_eq_false (by omega)]; exact h⟩, ⟨hS2⟩, ⟨HK.out.then_ hK2 (fun _ hk => .inl hk)⟩⟩)
      ·
       have jb : ((j : Int) == 0) = false := beq_eq_false_iff_ne.mpr (by omega)
       have jd : ¬ decide (j = 0) = true := by simp [hj0]
       by_cases hvb : v0 < b
       ·
        have vb : decide (v0 < b) = true := decide_eq_true hvb
        go_wp2
        all_goals go_roundg (O.length - (j + 1))
        all_goals first | (case measure => omega) | (case rel => obtain ⟨D2, hS2, hK2⟩ := HB3.out; exact ⟨j + 1, v0, D2, rfl, by go_num, ⟨by omega, Nat.le_refl _⟩, ⟨by have h := HH2.out; rw [if_pos (Or.inr hvb)] at h; rw [show decide (j + 1 = 0) = false from decide_eq_false (by omega)]; exact h⟩, ⟨hS2⟩, ⟨HK.out.then_ hK2 (fun _ hk => .inl hk)⟩⟩)
       ·
        have vb : decide (v0 < b) = false := decide_eq_false hvb
        go_wp2
        all_goals go_roundg (O.length - (j + 1))
        all_goals first | (case measure => omega) | (case rel => obtain ⟨D2, hS2, hK2⟩ := HB3.out; exact ⟨j + 1, b, D2, rfl, by go_num, ⟨by omega, Nat.le_refl _⟩, ⟨by have h := HH2.out; rw [if_neg (fun h2 => h2.elim jd (fun h3 => absurd h3 (by omega)))] at h; rw [show decide (j + 1 = 0) = false from decide_eq_false (by omega)]; exact h⟩, ⟨hS2⟩, ⟨HK.out.then_ hK2 (fun _ hk => .inl hk)⟩⟩)
     ·
      rw [if_neg hi] at H
      cases H
    ·
     obtain rfl : j = O.length := by omega
     have hltz : ¬ (O.length : Int) < (O.length : Int) := by omega
     have H := HA.out
     clear HA
     rw [List.drop_of_length_le (Nat.le_refl _)] at H
     unfold askLoop at H
     obtain rfl : b = r := Option.some.inj H
     clear H
     have HWV : Aside0 ((Lit.int .i64 b).wf = true) := ⟨askLoop_wf (fun p q => combW_wf _ p q) _ _ _ _ (WalkArith.wf_i64 (by omega)) HV.out⟩
     have BKr := asd (blk_kept BK5.out HK.out (by have := HLW.out; omega))
     have HKU : Aside0 (∀ w', AskOk combW wb wr w' g bm n A c l (.map (some bm)) m1 → Kept wr w' (fun k => k = bm) → Aside0 (AskOk combW wb wr w' g bm n A c l (.map (some bm)) m1) ∧ w'.cell? ⟨g, 2, none⟩ = some (.map (some bm)) ∧ w'.cell? ⟨w.heap.size, 0, none⟩ = some (.int .i64 y) ∧ w'.cell? ⟨w.heap.size, 1, none⟩ = some (.int .i64 x) ∧ (Instr.mapUpdate 108 (.map (some bm)) (.agg #[.int .i64 y, .int .i64 x]) (.int .i64 b)).run Try.prog w' = .ok () (putW bm y x b w')) := ⟨fun w' h hk => by
      obtain ⟨D2, hS2, _⟩ := h
      have hb := blk_kept BKr.out hk (by have := HLW.out; omega)
      exact ⟨⟨⟨D2, hS2, hk⟩⟩, hS2.cells.2.2.1, (blk_cell hb 0).trans rfl, (blk_cell hb 1).trans rfl, (hS2.update HW.out HWV.out).1⟩⟩
     have HKA : Aside0 (∀ w', AskOk combW wb wr w' g bm n A c l (.map (some bm)) m1 → Aside0 (AskOk combW wb wr w' g bm n A c l (.map (some bm)) m1) ∧ w'.cell? ⟨g, 2, none⟩ = some (.map (some bm)) ∧ w'.cell? ⟨w.heap.size, 0, none⟩ = some (.int .i64 y) ∧ w'.cell? ⟨w.heap.size, 1, none⟩ = some (.int .i64 x) ∧ (Instr.mapUpdate 108 (.map (some bm)) (.agg #[.int .i64 y, .int .i64 x]) (.int .i64 b)).run Try.prog w' = .ok () (putW bm y x b w')) := ⟨fun w' h => HKU.out w' h (by obtain ⟨_, _, hk⟩ := h; exact hk)⟩
     have HKP : Aside0 (∀ w', AskOk combW wb wr w' g bm n A c l (.map (some bm)) m1 → AskOk combW wb wr (putW bm y x b w') g bm n A c l (.map (some bm)) m1) := ⟨fun w' h => by
      obtain ⟨D2, hS2, hk⟩ := h
      exact AskOk.trans ⟨D2, hS2, hk⟩ (hS2.update HW.out HWV.out).2⟩
     go_wp2
     go_region_held3 (fun w' => Aside0 (AskOk combW wb wr w' g bm n A c l (.map (some bm)) m1) ∧ w'.cell? ⟨g, 2, none⟩ = some (.map (some bm)) ∧ w'.cell? ⟨w.heap.size, 0, none⟩ = some (.int .i64 y) ∧ w'.cell? ⟨w.heap.size, 1, none⟩ = some (.int .i64 x) ∧ (Instr.mapUpdate 108 (.map (some bm)) (.agg #[.int .i64 y, .int .i64 x]) (.int .i64 b)).run Try.prog w' = .ok () (putW bm y x b w')) (first | exact HKA.out _ HOK.out | exact HKA.out _ (HOK.out.below (below_drew1 (Below.refl _ _))) | exact HKA.out _ (HKP.out _ (‹Aside0 (AskOk combW wb wr _ g bm n A c l (.map (some bm)) m1) ∧ _›).1.out)) (fail)
     go_wp2
     go_ret
     have hw1 : AskOk combW wb w wr g bm n A c l (.map (some bm)) m1 := ⟨D1, HS.out, (Kept.of_below HB5.out (fun k => k = bm)).then_ HK.out (fun _ hk => .inl hk)⟩
     exact ⟨rfl, hw1.trans (HKP.out _ (HOK.out.below (below_drew1 (Below.refl _ _))))⟩

-- HAND impl_LeastWorst: function 17
def impl_LeastWorst.f (k : Nat) (n : Int) (l : List Int) (y x : Int) : Option (Int × Bool) := (impl_goOn.f k n l y x).bind fun b => if b = true then (if goOnB n l y x = true then some (valV cW 7 (leftL l y x), true) else none) else some (0, false)
theorem impl_LeastWorst.mono (y0 : Int) (y1 : List Int) (y2 y3 : Int) (k : Nat) : LeO (impl_LeastWorst.f k y0 y1 y2 y3) (impl_LeastWorst.f (k + 1) y0 y1 y2 y3) := by
  unfold impl_LeastWorst.f
  exact LeO.bind (impl_goOn.mono _ _ _ _ k) fun b => LeO.refl _
theorem goOnB_facts2 {n : Int} {l : List Int} {y x : Int} (h : goOnB n l y x = true) : ∃ (a b : Nat), y = (a : Int) ∧ x = (b : Int) ∧ a < 128 ∧ b < 128 ∧ isSpaceB n l = true := by
  obtain ⟨hS, hy, hm, _⟩ := answersB_parts (goOnB_parts h)
  obtain ⟨a, rfl⟩ := Int.eq_ofNat_of_zero_le hy.1
  obtain ⟨b, rfl⟩ := Int.eq_ofNat_of_zero_le hm.1
  exact ⟨a, b, rfl, rfl, by have := hy.2; omega, by have := hm.2; omega, hS⟩
set_option maxHeartbeats 8000000 in
set_option maxRecDepth 100000 in
theorem impl_LeastWorst.calls (k : Nat) (n : Int) (A : Option Addr) (c : Nat) (l : List Int) (yes no : Int) (r1 : Int) (r2 : Bool) (w : World) (hr : Kd.C (Kd.int .i64) w A l.length l) (hc : l.length ≤ c) (h : impl_LeastWorst.f k n l yes no = some (r1, r2)) :
    Calls Try.prog 17 #[.agg #[.int .i64 n, .slice A l.length c], .int .i64 yes, .int .i64 no] w fun e w' => e = .returned (.tuple #[.int .i64 r1, .bool r2]) ∧ Below w.heap.size w w' := by
  have hu := Try.underlying28
  have HR := Aside0.mk hr
  have HC := Aside0.mk hc
  clear hr hc
  unfold impl_LeastWorst.f at h
  obtain ⟨b, hg, h⟩ := Option.bind_eq_some_iff.1 h
  have HG := Aside0.mk hg
  clear hg
  cases b with
  | false =>
    obtain ⟨rfl, rfl⟩ : (0 : Int) = r1 ∧ false = r2 := by simpa using h
    clear h
    go_enter Try.func17, Try.ntmps17
    go_wp2_with (first | ((with_reducible refine gate_dst (N := 3) rfl ?_); refine box_event ?hg (N := 3) ?hd (cs := #[.int .i64 n, .slice A l.length c]) (t := 28) ?hr ?_; (case hd => rfl); (case hg => rfl); (case hr => first | (go_simp; done) | (go_simp; rfl)); intro g ge W gb Wb; have HXg := Aside0.mk (SpBox.mk_ ge gb Wb); have gz0 := HXg.out.c0; have gz1 := HXg.out.c1; clear ge gb Wb) | (go_at_call 51; (with_reducible refine (impl_goOn.calls k n _ _ l yes no false _ (by repeat (first | exact Kd.C_below HR.out HXg.out.bel | (with_reducible refine Kd.C_drewN ?_ _) | (with_reducible refine Kd.C_drew ?_))) HC.out HG.out).mono ?_); rintro e W2 ⟨rfl, hbel_⟩; have HX2 := Aside0.mk (SpBox.next HXg.out (by first | exact hbel_ | exact below_since hbel_ | exact below_since1 hbel_)); skip; clear hbel_))
    go_ret2
    exact ⟨rfl, (by repeat (first | exact HX2.out.bel | apply pw_below_drewN | apply below_drew1))⟩
  | true =>
    rw [if_pos rfl] at h
    by_cases hgo : goOnB n l yes no = true
    · rw [if_pos hgo] at h
      obtain ⟨rfl, rfl⟩ : valV cW 7 (leftL l yes no) = r1 ∧ true = r2 := by simpa using h
      clear h
      obtain ⟨a, b, rfl, rfl, ha, hb, hS⟩ := goOnB_facts2 hgo
      obtain ⟨k1, hk1⟩ := askE (n := n) (isSpaceB_i128 hS) (isSpaceB_len hS) combW_ok 7 a b ha hb (items_len _)
      have HK1 := Aside0.mk (hk1 k1 (Nat.le_refl _))
      clear hS ha hb hgo hk1
      generalize valV cW 7 (leftL l (a : Int) (b : Int)) = v1 at *
      generalize (a : Int) = yi at *
      generalize (b : Int) = xi at *
      go_enter Try.func17, Try.ntmps17
      go_wp2_with (first | ((with_reducible refine gate_dst (N := 3) rfl ?_); refine box_event ?hg (N := 3) ?hd (cs := #[.int .i64 n, .slice A l.length c]) (t := 28) ?hr ?_; (case hd => rfl); (case hg => rfl); (case hr => first | (go_simp; done) | (go_simp; rfl)); intro g ge W gb Wb; have HXg := Aside0.mk (SpBox.mk_ ge gb Wb); have gz0 := HXg.out.c0; have gz1 := HXg.out.c1; clear ge gb Wb) | (go_at_call 51; (with_reducible refine (impl_goOn.calls k n _ _ l yi xi true _ (by repeat (first | exact Kd.C_below HR.out HXg.out.bel | (with_reducible refine Kd.C_drewN ?_ _) | (with_reducible refine Kd.C_drew ?_))) HC.out HG.out).mono ?_); rintro e W2 ⟨rfl, hbel_⟩; have HX2 := Aside0.mk (SpBox.next HXg.out (by first | exact hbel_ | exact below_since hbel_ | exact below_since1 hbel_)); have q0 := HX2.out.c0; have q1 := HX2.out.c1; clear hbel_) | (go_at_call 48; (with_reducible refine (newAsker_maps n A c l _).mono ?_); rintro e W3 ⟨g3, m1, m2, rfl, hA1, _⟩; have HRW2 := Aside0.mk (Kd.C_below HR.out HX2.out.bel); have HT3 := Aside0.mk hA1; clear hA1) | (go_at_call 52; (with_reducible refine (impl_asker_least.calls g3 m1 n A c l (.map (some m2)) W2 HRW2.out HC.out k1 yi xi v1 _ _ HT3.out HK1.out).mono ?_); rintro e W4 ⟨rfl, D4, hS4, _⟩; have HB4 := Aside0.mk (below_step HX2.out.bel hS4.bel); clear hS4))
      go_ret2
      exact ⟨rfl, HB4.out⟩
    · rw [if_neg hgo] at h
      cases h

/-! ### laws_FnExactLeastWorst: function 4 -/
def laws_FnExactLeastWorst.j0 : Nat → Bool → Int → List Int → Int → List Int → Option (Bool)
 | 0, _, _, _, _, _ => none
 | k + 1, x42, x102000, x102001, x114000, x114001 => if x42 = true then (some false) else ((laws_toSpace.f k x102000 x102001).bind fun bt116 => ((laws_eqSpace.f k x114000 x114001 bt116.1 bt116.2).bind fun t120 => (if t120 = true then (some true) else (some false))))
def laws_FnExactLeastWorst.f (k : Nat) (a0_0 : Int) (l0_1 : List Int) (a1 : Int) (a2 : Int) : Option (Bool) := (laws_szSpace.f a0_0 l0_1 1048576).bind fun t102 => (if t102 < 0 then (some true) else ((laws_toSpace.f k a0_0 l0_1).bind fun bt103 => ((spec_LeastWorst.f k bt103.1 bt103.2 a1 a2).bind fun bt107 => ((laws_toSpace.f k a0_0 l0_1).bind fun bt109 => ((impl_LeastWorst.f k bt109.1 bt109.2 a1 a2).bind fun bt114 => (if bt114.1 = bt107.1 then (laws_FnExactLeastWorst.j0 k (bt114.2 != bt107.2) a0_0 l0_1 bt109.1 bt109.2) else (laws_FnExactLeastWorst.j0 k true a0_0 l0_1 bt109.1 bt109.2)))))))
theorem laws_FnExactLeastWorst.mono_l : ∀ k, (∀ y0 y1 y2 y3 y4, LeO (laws_FnExactLeastWorst.j0 k y0 y1 y2 y3 y4) (laws_FnExactLeastWorst.j0 (k + 1) y0 y1 y2 y3 y4))
 | 0 => fun _ _ _ _ _ r h => by simp [laws_FnExactLeastWorst.j0] at h
 | k + 1 => by
  have ih0 := laws_FnExactLeastWorst.mono_l k
  ·
   intro y0 y1 y2 y3 y4
   unfold laws_FnExactLeastWorst.j0
   repeat' first
   | (with_reducible exact ih0 _ _ _ _ _)
   | (with_reducible exact impl_LeastWorst.mono _ _ _ _ _)
   | (with_reducible exact laws_eqSpace.mono _ _ _ _ _)
   | (with_reducible exact laws_toSpace.mono _ _ _)
   | (with_reducible exact spec_LeastWorst.mono _ _ _ _ _)
   | (with_reducible exact LeO.refl _)
   | (with_reducible exact LeO.none _)
   | (with_reducible refine LeO.ite ?_ ?_)
   | (with_reducible refine LeO.bind ?_ (fun _ => ?_))
   | exact ih0 _ _ _ _ _
   | exact impl_LeastWorst.mono _ _ _ _ _
   | exact laws_eqSpace.mono _ _ _ _ _
   | exact laws_toSpace.mono _ _ _
   | exact spec_LeastWorst.mono _ _ _ _ _
   | exact LeO.none _
   | refine LeO.ite ?_ ?_
   | refine LeO.bind ?_ (fun _ => ?_)
theorem laws_FnExactLeastWorst.mono : ∀ a0 a1 a2 a3 k, LeO (laws_FnExactLeastWorst.f k a0 a1 a2 a3) (laws_FnExactLeastWorst.f (k + 1) a0 a1 a2 a3) := by
 intro a0 a1 a2 a3 k
 have ih0 := laws_FnExactLeastWorst.mono_l k
 unfold laws_FnExactLeastWorst.f
 repeat' first
   | (with_reducible exact ih0 _ _ _ _ _)
   | (with_reducible exact impl_LeastWorst.mono _ _ _ _ _)
   | (with_reducible exact laws_eqSpace.mono _ _ _ _ _)
   | (with_reducible exact laws_toSpace.mono _ _ _)
   | (with_reducible exact spec_LeastWorst.mono _ _ _ _ _)
   | (with_reducible exact LeO.refl _)
   | (with_reducible exact LeO.none _)
   | (with_reducible refine LeO.ite ?_ ?_)
   | (with_reducible refine LeO.bind ?_ (fun _ => ?_))
   | exact ih0 _ _ _ _ _
   | exact impl_LeastWorst.mono _ _ _ _ _
   | exact laws_eqSpace.mono _ _ _ _ _
   | exact laws_toSpace.mono _ _ _
   | exact spec_LeastWorst.mono _ _ _ _ _
   | exact LeO.none _
   | refine LeO.ite ?_ ?_
   | refine LeO.bind ?_ (fun _ => ?_)
set_option maxHeartbeats 8000000 in
set_option maxRecDepth 100000 in
theorem laws_FnExactLeastWorst.calls (k : Nat) (a0_0 : Int) (A0_1 : Option Addr) (c0_1 : Nat) (l0_1 : List Int) (a1 : Int) (a2 : Int) (r : Bool) (w : World) (hr0_1 : Kd.C (Kd.int .i64) w A0_1 l0_1.length l0_1) (hc0_1 : l0_1.length ≤ c0_1) (h : laws_FnExactLeastWorst.f k a0_0 l0_1 a1 a2 = some r) (hT_ : Aside0 (r = true)) :
  Calls Try.prog 4 #[.agg #[.int .i64 a0_0, .slice A0_1 l0_1.length c0_1], .int .i64 a1, .int .i64 a2] w fun e w' => e = .returned (.bool r) ∧ Below w.heap.size w w' := by
 have hu24 := Try.underlying24
 have hu28 := Try.underlying28
 have HR0_1 := asd hr0_1
 have HC0_1 := asd hc0_1
 clear hr0_1 hc0_1
 have HB := asd (Below.refl w.heap.size w)
 have H : ((laws_szSpace.f a0_0 l0_1 1048576).bind fun t102 => (if t102 < 0 then (some true) else ((laws_toSpace.f k a0_0 l0_1).bind fun bt103 => ((spec_LeastWorst.f k bt103.1 bt103.2 a1 a2).bind fun bt107 => ((laws_toSpace.f k a0_0 l0_1).bind fun bt109 => ((impl_LeastWorst.f k bt109.1 bt109.2 a1 a2).bind fun bt114 => (if bt114.1 = bt107.1 then (laws_FnExactLeastWorst.j0 k (bt114.2 != bt107.2) a0_0 l0_1 bt109.1 bt109.2) else (laws_FnExactLeastWorst.j0 k true a0_0 l0_1 bt109.1 bt109.2)))))))) = some r := h
 clear h
 replace H := Option.bind_eq_some_iff.mp H
 obtain ⟨t102, A40, H⟩ := H
 replace H : (if t102 < 0 then (some true) else ((laws_toSpace.f k a0_0 l0_1).bind fun bt103 => ((spec_LeastWorst.f k bt103.1 bt103.2 a1 a2).bind fun bt107 => ((laws_toSpace.f k a0_0 l0_1).bind fun bt109 => ((impl_LeastWorst.f k bt109.1 bt109.2 a1 a2).bind fun bt114 => (if bt114.1 = bt107.1 then (laws_FnExactLeastWorst.j0 k (bt114.2 != bt107.2) a0_0 l0_1 bt109.1 bt109.2) else (laws_FnExactLeastWorst.j0 k true a0_0 l0_1 bt109.1 bt109.2))))))) = some r := H
 have A4 := asd A40
 clear A40
 by_cases c5 : t102 < 0
 ·
  rw [if_pos c5] at H
  have c5b0 : decide (t102 < 0) = true := decide_eq_true c5
  clear c5
  obtain rfl := Option.some.inj H
  go_enter Try.func4, Try.ntmps4
  go_wp2_with (first | ((with_reducible refine gate_dst (N := 3) rfl ?_); refine box_event ?hg (N := 3) ?hd (cs := #[.int .i64 a0_0, .slice A0_1 l0_1.length c0_1]) (t := 24) ?hr ?_; (case hd => rfl); (case hg => rfl); (case hr => first | (go_simp; done) | (go_simp; rfl)); intro gb101 hg w6 hbox hb; have n0_ := asd (below_step (by repeat (first | (with_reducible first | exact HB.out | apply below_alloc | apply pw_below_drewN | apply below_drew1) | exact HB.out)) hb); have n1_ := asd (hbox); have n2_ := asd ((by rw [hg]; exact (below_size (by repeat (first | (with_reducible first | exact HB.out | apply below_alloc | apply pw_below_drewN | apply below_drew1) | exact HB.out))) : w.heap.size ≤ gb101)); have n3_ := asd ((by rw [hg]; exact (below_size (by repeat (first | (with_reducible first | exact HB.out | apply below_alloc | apply pw_below_drewN | apply below_drew1) | exact HB.out))) : w.heap.size ≤ gb101)); clear HB; have HB := n0_; have BK101 := n1_; have GW101 := n2_; have GE101 := n3_; clear n0_ n1_ n2_ n3_; clear hb hbox hg; have hcz7_0 : w6.cell? ⟨gb101, 0, none⟩ = some (.int .i64 a0_0) := (blk_cell BK101.out 0).trans rfl; have hcz7_1 : w6.cell? ⟨gb101, 1, none⟩ = some (.slice A0_1 l0_1.length c0_1) := (blk_cell BK101.out 1).trans rfl; have hfz7_0 := blk_frozen BK101.out 0; have hfz7_1 := blk_frozen BK101.out 1) | ((with_reducible refine gate_callee (f := 11) rfl ?_); refine goesL_ (some 15) rfl rfl Try.func11 (by kernel_rfl) rfl #[.agg #[.int .i64 a0_0, .slice A0_1 l0_1.length c0_1], .int .i64 1048576] rfl (by (try simp only [List.map_toArray, List.map_cons, List.map_nil]); first | done | rfl | (simp only [List.length_drop, List.length_take]; rfl)) ?_; (with_reducible refine (laws_szSpace.calls a0_0 _ _ l0_1 1048576 t102 _ ?side1 ?side2 A4.out).mono ?_); (case side1 => repeat (first | exact (Kd.C_below HR0_1.out HB.out) | (with_reducible refine Kd.C_alloc ?_ _) | (with_reducible refine Kd.C_drewN ?_ _) | (with_reducible refine Kd.C_drew ?_))); (case side2 => exact HC0_1.out); rintro e w8 ⟨rfl, hb⟩; refine ⟨_, rfl, ?_⟩; have n0_ := asd (blk_below (upB BK101.out) hb); have n1_ := asd (below_step (by repeat (first | (with_reducible first | exact HB.out | apply below_alloc | apply pw_below_drewN | apply below_drew1 | refine below_set ?_ GE101.out) | exact HB.out)) hb); clear BK101; clear HB; have BK101 := n0_; have HB := n1_; clear n0_ n1_; (try clear hb); (try clear hb2); (try clear hk); (try clear hi)))
  go_ret
  exact ⟨by first | rfl | (simp [errW_none, errW_some] <;> rfl) | (simp [*, errW_none, errW_some] <;> rfl), by repeat (first | (with_reducible first | exact HB.out | apply below_alloc | apply pw_below_drewN | apply below_drew1 | refine below_set ?_ GE101.out) | exact HB.out)⟩
 ·
  rw [if_neg c5] at H
  have c5b0 : decide (t102 < 0) = false := decide_eq_false c5
  clear c5
  replace H := Option.bind_eq_some_iff.mp H
  obtain ⟨⟨t103, t104⟩, A90, H⟩ := H
  replace H : ((spec_LeastWorst.f k t103 t104 a1 a2).bind fun bt107 => ((laws_toSpace.f k a0_0 l0_1).bind fun bt109 => ((impl_LeastWorst.f k bt109.1 bt109.2 a1 a2).bind fun bt114 => (if bt114.1 = bt107.1 then (laws_FnExactLeastWorst.j0 k (bt114.2 != bt107.2) a0_0 l0_1 bt109.1 bt109.2) else (laws_FnExactLeastWorst.j0 k true a0_0 l0_1 bt109.1 bt109.2))))) = some r := H
  have A9 := asd A90
  clear A90
  replace H := Option.bind_eq_some_iff.mp H
  obtain ⟨⟨t107, t108⟩, A100, H⟩ := H
  replace H : ((laws_toSpace.f k a0_0 l0_1).bind fun bt109 => ((impl_LeastWorst.f k bt109.1 bt109.2 a1 a2).bind fun bt114 => (if bt114.1 = t107 then (laws_FnExactLeastWorst.j0 k (bt114.2 != t108) a0_0 l0_1 bt109.1 bt109.2) else (laws_FnExactLeastWorst.j0 k true a0_0 l0_1 bt109.1 bt109.2)))) = some r := H
  have A10 := asd A100
  clear A100
  replace H := Option.bind_eq_some_iff.mp H
  obtain ⟨⟨t109, t110⟩, A110, H⟩ := H
  replace H : ((impl_LeastWorst.f k t109 t110 a1 a2).bind fun bt114 => (if bt114.1 = t107 then (laws_FnExactLeastWorst.j0 k (bt114.2 != t108) a0_0 l0_1 t109 t110) else (laws_FnExactLeastWorst.j0 k true a0_0 l0_1 t109 t110))) = some r := H
  have A11 := asd A110
  clear A110
  replace H := Option.bind_eq_some_iff.mp H
  obtain ⟨⟨t114, t115⟩, A120, H⟩ := H
  replace H : (if t114 = t107 then (laws_FnExactLeastWorst.j0 k (t115 != t108) a0_0 l0_1 t109 t110) else (laws_FnExactLeastWorst.j0 k true a0_0 l0_1 t109 t110)) = some r := H
  have A12 := asd A120
  clear A120
  have HC13 := asd H
  clear H
  go_enter Try.func4, Try.ntmps4
  go_upto_region 8 with (first | ((with_reducible refine gate_dst (N := 3) rfl ?_); refine box_event ?hg (N := 3) ?hd (cs := #[.int .i64 a0_0, .slice A0_1 l0_1.length c0_1]) (t := 24) ?hr ?_; (case hd => rfl); (case hg => rfl); (case hr => first | (go_simp; done) | (go_simp; rfl)); intro gb101 hg w14 hbox hb; have n0_ := asd (below_step (by repeat (first | (with_reducible first | exact HB.out | apply below_alloc | apply pw_below_drewN | apply below_drew1) | exact HB.out)) hb); have n1_ := asd (hbox); have n2_ := asd ((by rw [hg]; exact (below_size (by repeat (first | (with_reducible first | exact HB.out | apply below_alloc | apply pw_below_drewN | apply below_drew1) | exact HB.out))) : w.heap.size ≤ gb101)); have n3_ := asd ((by rw [hg]; exact (below_size (by repeat (first | (with_reducible first | exact HB.out | apply below_alloc | apply pw_below_drewN | apply below_drew1) | exact HB.out))) : w.heap.size ≤ gb101)); clear HB; have HB := n0_; have BK101 := n1_; have GW101 := n2_; have GE101 := n3_; clear n0_ n1_ n2_ n3_; clear hb hbox hg; have hcz15_0 : w14.cell? ⟨gb101, 0, none⟩ = some (.int .i64 a0_0) := (blk_cell BK101.out 0).trans rfl; have hcz15_1 : w14.cell? ⟨gb101, 1, none⟩ = some (.slice A0_1 l0_1.length c0_1) := (blk_cell BK101.out 1).trans rfl; have hfz15_0 := blk_frozen BK101.out 0; have hfz15_1 := blk_frozen BK101.out 1) | ((with_reducible refine gate_callee (f := 11) rfl ?_); refine goesL_ (some 15) rfl rfl Try.func11 (by kernel_rfl) rfl #[.agg #[.int .i64 a0_0, .slice A0_1 l0_1.length c0_1], .int .i64 1048576] rfl (by (try simp only [List.map_toArray, List.map_cons, List.map_nil]); first | done | rfl | (simp only [List.length_drop, List.length_take]; rfl)) ?_; (with_reducible refine (laws_szSpace.calls a0_0 _ _ l0_1 1048576 t102 _ ?side1 ?side2 A4.out).mono ?_); (case side1 => repeat (first | exact (Kd.C_below HR0_1.out HB.out) | (with_reducible refine Kd.C_alloc ?_ _) | (with_reducible refine Kd.C_drewN ?_ _) | (with_reducible refine Kd.C_drew ?_))); (case side2 => exact HC0_1.out); rintro e w16 ⟨rfl, hb⟩; refine ⟨_, rfl, ?_⟩; have n0_ := asd (blk_below (upB BK101.out) hb); have n1_ := asd (below_step (by repeat (first | (with_reducible first | exact HB.out | apply below_alloc | apply pw_below_drewN | apply below_drew1 | refine below_set ?_ GE101.out) | exact HB.out)) hb); clear BK101; clear HB; have BK101 := n0_; have HB := n1_; clear n0_ n1_; (try clear hb); (try clear hb2); (try clear hk); (try clear hi); have hcz17_0 : w16.cell? ⟨gb101, 0, none⟩ = some (.int .i64 a0_0) := (blk_cell BK101.out 0).trans rfl; have hcz17_1 : w16.cell? ⟨gb101, 1, none⟩ = some (.slice A0_1 l0_1.length c0_1) := (blk_cell BK101.out 1).trans rfl; have hfz17_0 := blk_frozen BK101.out 0; have hfz17_1 := blk_frozen BK101.out 1) | ((with_reducible refine gate_callee (f := 13) rfl ?_); refine goesL_ (some 20) rfl rfl Try.func13 (by kernel_rfl) rfl #[.agg #[.int .i64 a0_0, .slice A0_1 l0_1.length c0_1]] rfl (by (try simp only [List.map_toArray, List.map_cons, List.map_nil]); first | done | rfl | (simp only [List.length_drop, List.length_take]; rfl)) ?_; (with_reducible refine (laws_toSpace.calls k a0_0 _ _ l0_1 t103 t104 _ ?side1 ?side2 A9.out).mono ?_); (case side1 => repeat (first | exact (Kd.C_below HR0_1.out HB.out) | (with_reducible refine Kd.C_alloc ?_ _) | (with_reducible refine Kd.C_drewN ?_ _) | (with_reducible refine Kd.C_drew ?_))); (case side2 => exact HC0_1.out); rintro e w18 ⟨v105, rfl, ho0, hb⟩; refine ⟨_, rfl, ?_⟩; have n0_ := asd (Kd.R_lower ho0 (below_size (by repeat (first | (with_reducible first | exact HB.out | apply below_alloc | apply pw_below_drewN | apply below_drew1 | refine below_set ?_ GE101.out) | exact HB.out)))); have n1_ := asd (blk_below (upB BK101.out) hb); have n2_ := asd (below_step (by repeat (first | (with_reducible first | exact HB.out | apply below_alloc | apply pw_below_drewN | apply below_drew1 | refine below_set ?_ GE101.out) | exact HB.out)) hb); clear BK101; clear HB; have HO106 := n0_; have BK101 := n1_; have HB := n2_; clear n0_ n1_ n2_; (try clear hb); (try clear hb2); (try clear hk); (try clear hi); (try clear ho0); obtain ⟨Ao19, co19, eo19⟩ := Kd.R_slice HO106.out; subst eo19) | ((with_reducible refine gate_callee (f := 16) rfl ?_); refine goesL_ (some 23) rfl rfl Try.func16 (by kernel_rfl) rfl #[.agg #[.int .i64 t103, .slice Ao19 t104.length co19], .int .i64 a1, .int .i64 a2] rfl (by (try simp only [List.map_toArray, List.map_cons, List.map_nil]); first | done | rfl | (simp only [List.length_drop, List.length_take]; rfl)) ?_; (with_reducible refine (spec_LeastWorst.calls k t103 _ _ t104 a1 a2 t107 t108 _ ?side1 ?side2 A10.out).mono ?_); (case side1 => repeat (first | exact (Kd.R_reads' HO106.out).2.2 | (with_reducible refine Kd.C_alloc ?_ _) | (with_reducible refine Kd.C_drewN ?_ _) | (with_reducible refine Kd.C_drew ?_))); (case side2 => exact (Kd.R_reads' HO106.out).2.1); rintro e w20 ⟨rfl, hb⟩; refine ⟨_, rfl, ?_⟩; have n0_ := asd (Kd.R_below (upR <| HO106.out) hb); have n1_ := asd (blk_below (upB BK101.out) hb); have n2_ := asd (below_step (by repeat (first | (with_reducible first | exact HB.out | apply below_alloc | apply pw_below_drewN | apply below_drew1 | refine below_set ?_ GE101.out) | exact HB.out)) hb); clear HO106; clear BK101; clear HB; have HO106 := n0_; have BK101 := n1_; have HB := n2_; clear n0_ n1_ n2_; (try clear hb); (try clear hb2); (try clear hk); (try clear hi); have hcz21_0 : w20.cell? ⟨gb101, 0, none⟩ = some (.int .i64 a0_0) := (blk_cell BK101.out 0).trans rfl; have hcz21_1 : w20.cell? ⟨gb101, 1, none⟩ = some (.slice A0_1 l0_1.length c0_1) := (blk_cell BK101.out 1).trans rfl; have hfz21_0 := blk_frozen BK101.out 0; have hfz21_1 := blk_frozen BK101.out 1) | ((with_reducible refine gate_callee (f := 13) rfl ?_); refine goesL_ (some 27) rfl rfl Try.func13 (by kernel_rfl) rfl #[.agg #[.int .i64 a0_0, .slice A0_1 l0_1.length c0_1]] rfl (by (try simp only [List.map_toArray, List.map_cons, List.map_nil]); first | done | rfl | (simp only [List.length_drop, List.length_take]; rfl)) ?_; (with_reducible refine (laws_toSpace.calls k a0_0 _ _ l0_1 t109 t110 _ ?side1 ?side2 A11.out).mono ?_); (case side1 => repeat (first | exact (Kd.C_below HR0_1.out HB.out) | (with_reducible refine Kd.C_alloc ?_ _) | (with_reducible refine Kd.C_drewN ?_ _) | (with_reducible refine Kd.C_drew ?_))); (case side2 => exact HC0_1.out); rintro e w22 ⟨v111, rfl, ho0, hb⟩; refine ⟨_, rfl, ?_⟩; have n0_ := asd (Kd.R_elder' (upR <| HO106.out) (Kd.R_base ho0) hb); have n1_ := asd (Kd.R_lower (Kd.R_new' ho0 (Kd.R_lt (upR <| HO106.out))) (below_size (by repeat (first | (with_reducible first | exact HB.out | apply below_alloc | apply pw_below_drewN | apply below_drew1 | refine below_set ?_ GE101.out) | exact HB.out)))); have n2_ := asd (blk_below (upB BK101.out) hb); have n3_ := asd (below_step (by repeat (first | (with_reducible first | exact HB.out | apply below_alloc | apply pw_below_drewN | apply below_drew1 | refine below_set ?_ GE101.out) | exact HB.out)) hb); clear HO106; clear BK101; clear HB; have HO106 := n0_; have HO112 := n1_; have BK101 := n2_; have HB := n3_; clear n0_ n1_ n2_ n3_; (try clear hb); (try clear hb2); (try clear hk); (try clear hi); (try clear ho0)) | ((with_reducible refine gate_dst (N := 10) rfl ?_); refine box_event ?hg (N := 10) ?hd (cs := #[.int .i64 0, .slice none 0 0]) (t := 28) ?hr ?_; (case hd => rfl); (case hg => rfl); (case hr => first | (go_simp; done) | (go_simp; rfl)); intro gb113 hg w23 hbox hb; have n0_ := asd (Kd.R_below (upR <| HO106.out) hb); have n1_ := asd (Kd.R_below (upR <| HO112.out) hb); have n2_ := asd (blk_below (upB BK101.out) hb); have n3_ := asd (below_step (by repeat (first | (with_reducible first | exact HB.out | apply below_alloc | apply pw_below_drewN | apply below_drew1 | refine below_set ?_ GE101.out) | exact HB.out)) hb); have n4_ := asd (hbox); have n5_ := asd ((by rw [hg]; exact (below_size (by repeat (first | (with_reducible first | exact HB.out | apply below_alloc | apply pw_below_drewN | apply below_drew1 | refine below_set ?_ GE101.out) | exact HB.out))) : w.heap.size ≤ gb113)); have n6_ := asd ((by rw [hg]; exact (below_size (by repeat (first | (with_reducible first | exact HB.out | apply below_alloc | apply pw_below_drewN | apply below_drew1 | refine below_set ?_ GE101.out) | exact HB.out))) : w.heap.size ≤ gb113)); have n7_ := asd ((by rw [hg]; exact Nat.ne_of_lt (blk_lt (upB BK101.out)) : gb101 ≠ gb113)); have n8_ := asd ((by rw [hg]; exact Nat.ne_of_gt (blk_lt (upB BK101.out)) : gb113 ≠ gb101)); clear HO106; clear HO112; clear BK101; clear HB; have HO106 := n0_; have HO112 := n1_; have BK101 := n2_; have HB := n3_; have BK113 := n4_; have GW113 := n5_; have GE113 := n6_; have NB101_113 := n7_; have NB113_101 := n8_; clear n0_ n1_ n2_ n3_ n4_ n5_ n6_ n7_ n8_; clear hb hbox hg; have hnb24 := NB113_101.out; have hnc24 := NB101_113.out; have hcz25_0 : w23.cell? ⟨gb113, 0, none⟩ = some (.int .i64 0) := (blk_cell BK113.out 0).trans rfl; have hcz25_1 : w23.cell? ⟨gb113, 1, none⟩ = some (.slice none 0 0) := (blk_cell BK113.out 1).trans rfl; have hfz25_0 := blk_frozen BK113.out 0; have hfz25_1 := blk_frozen BK113.out 1; obtain ⟨Ao26, co26, eo26⟩ := Kd.R_slice HO112.out; subst eo26) | ((with_reducible refine gate_callee (f := 17) rfl ?_); refine goesL_ (some 32) rfl rfl Try.func17 (by kernel_rfl) rfl #[.agg #[.int .i64 t109, .slice Ao26 t110.length co26], .int .i64 a1, .int .i64 a2] rfl (by (try simp only [List.map_toArray, List.map_cons, List.map_nil]); first | done | rfl | (simp only [List.length_drop, List.length_take]; rfl)) ?_; (with_reducible refine (impl_LeastWorst.calls k t109 _ _ t110 a1 a2 t114 t115 _ ?side1 ?side2 A12.out).mono ?_); (case side1 => refine (Kd.R_reads' (e := 3) (base := w.heap.size) (ok := fun k_ => (True ∧ some k_ ≠ (.slice Ao19 t104.length co19 : Value).ownBlock)) (n := t110.length) (c := co26) ?_).2.2; exact (upR <| (Kd.R_mono (Kd.R_far (p := ⟨gb113, 1, none⟩) (Kd.R_far (p := ⟨gb113, 0, none⟩) (Kd.R_types HO112.out BK113.out (by decide)) (fun _ hk => hk.2) (.int .i64 t109)) (fun _ hk => hk.2) (.slice Ao26 t110.length co26)) (fun _ h_ => h_.1)))); (case side2 => exact (Kd.R_reads' HO112.out).2.1); rintro e w27 ⟨rfl, hb⟩; refine ⟨_, rfl, ?_⟩; have n0_ := asd (Kd.R_below (upR <| (Kd.R_mono (Kd.R_far (p := ⟨gb113, 1, none⟩) (Kd.R_far (p := ⟨gb113, 0, none⟩) (Kd.R_types HO106.out BK113.out (by decide)) (fun _ hk => hk.2) (.int .i64 t109)) (fun _ hk => hk.2) (.slice Ao26 t110.length co26)) (fun _ h_ => h_.1))) hb); have n1_ := asd (Kd.R_below (upR <| (Kd.R_mono (Kd.R_far (p := ⟨gb113, 1, none⟩) (Kd.R_far (p := ⟨gb113, 0, none⟩) (Kd.R_types HO112.out BK113.out (by decide)) (fun _ hk => hk.2) (.int .i64 t109)) (fun _ hk => hk.2) (.slice Ao26 t110.length co26)) (fun _ h_ => h_.1))) hb); have n2_ := asd (blk_below (g := gb101) (o := .cells #[.int .i64 a0_0, .slice A0_1 l0_1.length c0_1] 24 (0, 0)) (by (with_reducible repeat (first | refine blk_drewN ?_ _ | refine blk_drew ?_ | refine blk_alloc ?_ _)); refine blk_far ?_ NB101_113.out _; (with_reducible repeat (first | refine blk_drewN ?_ _ | refine blk_drew ?_ | refine blk_alloc ?_ _)); refine blk_far ?_ NB101_113.out _; (with_reducible repeat (first | refine blk_drewN ?_ _ | refine blk_drew ?_ | refine blk_alloc ?_ _)); exact BK101.out) hb); have n3_ := asd (blk_below (g := gb113) (o := .cells #[.int .i64 t109, .slice Ao26 t110.length co26] 28 (0, 0)) (by (with_reducible repeat (first | refine blk_drewN ?_ _ | refine blk_drew ?_ | refine blk_alloc ?_ _)); refine blk_put (cs := #[.int .i64 t109, .slice none 0 0]) ?_ 1 _ rfl; (with_reducible repeat (first | refine blk_drewN ?_ _ | refine blk_drew ?_ | refine blk_alloc ?_ _)); refine blk_put (cs := #[.int .i64 0, .slice none 0 0]) ?_ 0 _ rfl; (with_reducible repeat (first | refine blk_drewN ?_ _ | refine blk_drew ?_ | refine blk_alloc ?_ _)); exact BK113.out) hb); have n4_ := asd (below_step (by repeat (first | (with_reducible first | exact HB.out | apply below_alloc | apply pw_below_drewN | apply below_drew1 | refine below_set ?_ GE101.out | refine below_set ?_ GE113.out) | exact HB.out)) hb); clear HO106; clear HO112; clear BK101; clear BK113; clear HB; have HO106 := n0_; have HO112 := n1_; have BK101 := n2_; have BK113 := n3_; have HB := n4_; clear n0_ n1_ n2_ n3_ n4_; (try clear hb); (try clear hb2); (try clear hk); (try clear hi)))
  (try simp only [Act.put, List.setIfInBounds_toArray, List.set_cons_zero, List.set_cons_succ])
  go_cut [42] (fun v42 wc => ∃ (kq : Nat) (x42_12 : Bool), v42 = .bool x42_12 ∧ Aside0 (laws_FnExactLeastWorst.j0 kq x42_12 a0_0 l0_1 t109 t110 = some r) ∧ Aside0 (kq ≤ k) ∧ Aside0 (Kd.R (Kd.int .i64) 3 wc w.heap.size (fun _ => True) (.slice Ao26 t110.length co26) t110) ∧ Aside0 (wc.heap[gb101]? = some (.cells #[.int .i64 a0_0, (.slice A0_1 l0_1.length c0_1)] 24 (0, 0))) ∧ Aside0 (wc.heap[gb113]? = some (.cells #[.int .i64 t109, (.slice Ao26 t110.length co26)] 28 (0, 0))) ∧ Aside0 (Below w.heap.size w wc))
  case first =>
   have H := HC13.out
   clear HC13
   by_cases c28 : t114 = t107
   ·
    rw [if_pos c28] at H
    have c28b0 : (t114 == t107) = true := beq_iff_eq.mpr c28
    have c28b1 : (t114 != t107) = false := bne_eq_false_iff_eq.mpr c28
    clear c28
    (first | rw [c28b0] | (simp only [i64_w, i32_w]; rw [c28b0]) | skip)
    have H' := asd H
    clear H
    go_wp2
    go_meet
    case rel => exact ⟨_, ((t115 != t108)), (by first | rfl | (simp; done) | (simp [*]; done)), H', ⟨by first | omega | exact Nat.le_refl _⟩, ⟨by (with_reducible repeat (first | apply Kd.R_alloc | apply Kd.R_drewN | apply Kd.R_drew)); exact Kd.R_mono HO112.out (fun _ hk => trivial)⟩, ⟨by (with_reducible repeat (first | refine blk_drewN ?_ _ | refine blk_drew ?_ | refine blk_alloc ?_ _)); exact BK101.out⟩, ⟨by (with_reducible repeat (first | refine blk_drewN ?_ _ | refine blk_drew ?_ | refine blk_alloc ?_ _)); exact BK113.out⟩, ⟨by repeat (first | (with_reducible first | exact HB.out | apply below_alloc | apply pw_below_drewN | apply below_drew1 | refine below_set ?_ GE101.out | refine below_set ?_ GE113.out) | exact HB.out)⟩⟩
   ·
    rw [if_neg c28] at H
    have c28b0 : (t114 == t107) = false := beq_eq_false_iff_ne.mpr c28
    have c28b1 : (t114 != t107) = true := bne_iff_ne.mpr c28
    (first | rw [c28b0] | (simp only [i64_w, i32_w]; rw [c28b0]) | skip)
    rcases k with _ | kk_
    ·
     exact absurd H (by simp [laws_FnExactLeastWorst.j0])
    ·
     simp only [laws_FnExactLeastWorst.j0] at H
     rw [if_pos trivial] at H
     exact absurd ((Option.some.inj H).trans hT_.out) (by decide)
  case rest =>
   clear HC13
   try clear c1
   try clear c2
   try clear p2
   try clear c4
   try clear c5
   try clear c5b0
   try clear c11
   try clear c13
   try clear c16
   try clear c17
   try clear c24
   try clear c28
   try clear c28b0
   try clear c28b1
   try clear hcz15_0
   try clear hcz15_1
   try clear hcz17_0
   try clear hcz17_1
   try clear hcz21_0
   try clear hcz21_1
   try clear hcz25_0
   try clear hcz25_1
   try clear hcz7_0
   try clear hcz7_1
   try clear hfz15_0
   try clear hfz15_1
   try clear hfz17_0
   try clear hfz17_1
   try clear hfz21_0
   try clear hfz21_1
   try clear hfz25_0
   try clear hfz25_1
   try clear hfz7_0
   try clear hfz7_1
   obtain ⟨kq, x42_12, rfl, HA, HJ12, HO_114001, BK101, BK113, HB⟩ := hcut
   cases kq with
   | zero => exact absurd HA.out (by simp [laws_FnExactLeastWorst.j0])
   | succ kj12 =>
    have H := HA.out
    clear HA
    simp only [laws_FnExactLeastWorst.j0] at H
    by_cases c29 : x42_12 = true
    ·
     subst c29
     have H1 : (some false) = some r := by rw [if_pos rfl] at H; exact H
     clear H
     have H := H1
     clear H1
     exact absurd ((Option.some.inj H).trans hT_.out) (by decide)
    ·
     replace c29 := Bool.eq_false_iff.mpr c29
     subst c29
     have H1 : ((laws_toSpace.f kj12 a0_0 l0_1).bind fun bt116 => ((laws_eqSpace.f kj12 t109 t110 bt116.1 bt116.2).bind fun t120 => (if t120 = true then (some true) else (some false)))) = some r := by rw [if_neg (show ¬ (false = true) by decide)] at H; exact H
     clear H
     have H := H1
     clear H1
     replace H := Option.bind_eq_some_iff.mp H
     obtain ⟨⟨t116, t117⟩, A300, H⟩ := H
     replace H : ((laws_eqSpace.f kj12 t109 t110 t116 t117).bind fun t120 => (if t120 = true then (some true) else (some false))) = some r := H
     have A30 := asd A300
     clear A300
     replace H := Option.bind_eq_some_iff.mp H
     obtain ⟨t120, A310, H⟩ := H
     replace H : (if t120 = true then (some true) else (some false)) = some r := H
     have A31 := asd A310
     clear A310
     by_cases c32 : t120 = true
     ·
      subst c32
      have H1 : (some true) = some r := by rw [if_pos rfl] at H; exact H
      clear H
      have H := H1
      clear H1
      obtain rfl := Option.some.inj H
      try go_wp2
      have n0_ := asd (Kd.R_drew HO_114001.out)
      have n1_ := asd (blk_drew BK101.out)
      have n2_ := asd (blk_drew BK113.out)
      have n3_ := asd (below_drew1 HB.out)
      clear HO_114001
      clear BK101
      clear BK113
      clear HB
      have HO_114001 := n0_
      have BK101 := n1_
      have BK113 := n2_
      have HB := n3_
      clear n0_ n1_ n2_ n3_
      refine start_ (n := 5) (S := fun w' => w'.cell? ⟨gb113, 0, none⟩ = some (.int .i64 t109) ∧ w'.cell? ⟨gb113, 1, none⟩ = some (.slice Ao26 t110.length co26) ∧ w'.cell? ⟨gb101, 0, none⟩ = some (.int .i64 a0_0) ∧ w'.cell? ⟨gb101, 1, none⟩ = some (.slice A0_1 l0_1.length c0_1)) (ds := []) #[false, false, false, false, false] (by kernel_rfl) rfl rfl ⟨(blk_cell BK113.out 0).trans rfl, (blk_cell BK113.out 1).trans rfl, (blk_cell BK101.out 0).trans rfl, (blk_cell BK101.out 1).trans rfl⟩ (fun hHeld => ?_)
      generalize wc.drew = w33 at HO_114001 BK101 BK113 HB hHeld ⊢
      refine take_ (i := 0) (N := some 43) (v := ?_) (a' := ?_) #[true, false, false, false, false] rfl rfl (by kernel_rfl) (fun _ _ _ h => h) (Or.inl ⟨by rfl, ?_⟩) hHeld ?_ ?_
      rotate_left
      ·
       rintro w' ⟨s0, s1, s2, s3⟩
       go_simp
       with_reducible rfl
      rotate_left
      ·
       simp only [Act.put, List.setIfInBounds_toArray, List.set_cons_zero, List.set_cons_succ, i64_w, i32_w]
       rfl
      refine take_ (i := 1) (N := some 44) (v := ?_) (a' := ?_) #[true, true, false, false, false] rfl rfl (by kernel_rfl) (fun _ _ _ h => h) (Or.inl ⟨by rfl, ?_⟩) hHeld ?_ ?_
      rotate_left
      ·
       rintro w' ⟨s0, s1, s2, s3⟩
       go_simp
       with_reducible rfl
      rotate_left
      ·
       simp only [Act.put, List.setIfInBounds_toArray, List.set_cons_zero, List.set_cons_succ, i64_w, i32_w]
       rfl
      refine one_ (i := 2) (N := some 45) #[true, true, true, false, false] rfl rfl (by kernel_rfl) (by decide) (fun K hK => ?_)
      refine goes_ Try.func13 (by kernel_rfl) rfl #[.agg #[.int .i64 a0_0, .slice A0_1 l0_1.length c0_1]] (by rfl) rfl rfl (by (try simp only [List.map_toArray, List.map_cons, List.map_nil]); first | done | rfl | (simp only [List.length_drop, List.length_take]; rfl)) ?_
      with_reducible refine (laws_toSpace.calls kj12 a0_0 _ _ l0_1 t116 t117 _ ?side1 ?side2 A30.out).mono ?_
      (case side1 => repeat (first | exact (Kd.C_below HR0_1.out HB.out) | (with_reducible refine Kd.C_alloc ?_ _) | (with_reducible refine Kd.C_drewN ?_ _) | (with_reducible refine Kd.C_drew ?_)))
      (case side2 => exact HC0_1.out)
      rintro e w34 ⟨v118, rfl, ho0, hb⟩
      refine ⟨_, rfl, ?_⟩
      have n0_ := asd (Kd.R_elder' (upR <| HO_114001.out) (Kd.R_base ho0) hb)
      have n1_ := asd (Kd.R_lower (Kd.R_new' ho0 (Kd.R_lt (upR <| HO_114001.out))) (below_size (by repeat (first | (with_reducible first | exact HB.out | apply below_alloc | apply pw_below_drewN | apply below_drew1 | refine below_set ?_ GE101.out | refine below_set ?_ GE113.out) | exact HB.out))))
      have n2_ := asd (blk_below (upB BK101.out) hb)
      have n3_ := asd (blk_below (upB BK113.out) hb)
      have n4_ := asd (below_step (by repeat (first | (with_reducible first | exact HB.out | apply below_alloc | apply pw_below_drewN | apply below_drew1 | refine below_set ?_ GE101.out | refine below_set ?_ GE113.out) | exact HB.out)) hb)
      clear HO_114001
      clear BK101
      clear BK113
      clear HB
      have HO_114001 := n0_
      have HO119 := n1_
      have BK101 := n2_
      have BK113 := n3_
      have HB := n4_
      clear n0_ n1_ n2_ n3_ n4_
      (try clear hb)
      (try clear hb2)
      (try clear hk)
      (try clear hi)
      (try clear ho0)
      obtain ⟨Ao35, co35, eo35⟩ := Kd.R_slice HO119.out
      (first | subst eo35 | (injection eo35 with f1_ f2_ f3_; have f4_ := f1_.symm; have f5_ := f3_.symm; clear f1_ f2_ f3_; subst f4_; subst f5_))
      refine hK.out _ _ ⟨(blk_cell BK113.out 0).trans rfl, (blk_cell BK113.out 1).trans rfl, (blk_cell BK101.out 0).trans rfl, (blk_cell BK101.out 1).trans rfl⟩ (fun hHeld => ?_)
      clear hK K
      refine norm_ (a' := ?_) ?_ ?_
      rotate_left
      ·
       show Act.put _ (some 45) _ = _
       simp only [Act.put, List.setIfInBounds_toArray, List.set_cons_zero, List.set_cons_succ, i64_w, i32_w]
       rfl
      refine one_ (i := 3) (N := some 46) #[true, true, true, true, false] rfl rfl (by kernel_rfl) (by decide) (fun K hK => ?_)
      refine goes_ Try.func15 (by kernel_rfl) rfl #[.agg #[.int .i64 t109, .slice Ao26 t110.length co26], .agg #[.int .i64 t116, .slice Ao35 t117.length co35]] (by rfl) rfl rfl (by (try simp only [List.map_toArray, List.map_cons, List.map_nil]); first | done | rfl | (simp only [List.length_drop, List.length_take]; rfl)) ?_
      with_reducible refine (laws_eqSpace.calls kj12 t109 _ _ t110 t116 _ _ t117 true _ ?side1 ?side2 ?side3 ?side4 A31.out).mono ?_
      (case side1 => repeat (first | exact (Kd.R_reads' HO_114001.out).2.2 | (with_reducible refine Kd.C_alloc ?_ _) | (with_reducible refine Kd.C_drewN ?_ _) | (with_reducible refine Kd.C_drew ?_)))
      (case side2 => exact (Kd.R_reads' HO_114001.out).2.1)
      (case side3 => repeat (first | exact (Kd.R_reads' HO119.out).2.2 | (with_reducible refine Kd.C_alloc ?_ _) | (with_reducible refine Kd.C_drewN ?_ _) | (with_reducible refine Kd.C_drew ?_)))
      (case side4 => exact (Kd.R_reads' HO119.out).2.1)
      rintro e w36 ⟨rfl, hb⟩
      refine ⟨_, rfl, ?_⟩
      have n0_ := asd (Kd.R_below (upR <| HO_114001.out) hb)
      have n1_ := asd (Kd.R_below (upR <| HO119.out) hb)
      have n2_ := asd (blk_below (upB BK101.out) hb)
      have n3_ := asd (blk_below (upB BK113.out) hb)
      have n4_ := asd (below_step (by repeat (first | (with_reducible first | exact HB.out | apply below_alloc | apply pw_below_drewN | apply below_drew1 | refine below_set ?_ GE101.out | refine below_set ?_ GE113.out) | exact HB.out)) hb)
      clear HO_114001
      clear HO119
      clear BK101
      clear BK113
      clear HB
      have HO_114001 := n0_
      have HO119 := n1_
      have BK101 := n2_
      have BK113 := n3_
      have HB := n4_
      clear n0_ n1_ n2_ n3_ n4_
      (try clear hb)
      (try clear hb2)
      (try clear hk)
      (try clear hi)
      refine hK.out _ _ ⟨(blk_cell BK113.out 0).trans rfl, (blk_cell BK113.out 1).trans rfl, (blk_cell BK101.out 0).trans rfl, (blk_cell BK101.out 1).trans rfl⟩ (fun hHeld => ?_)
      clear hK K
      refine norm_ (a' := ?_) ?_ ?_
      rotate_left
      ·
       show Act.put _ (some 46) _ = _
       simp only [Act.put, List.setIfInBounds_toArray, List.set_cons_zero, List.set_cons_succ, i64_w, i32_w]
       rfl
      refine pure_ (i := 4) (N := some 47) (v := ?_) (a' := ?_) #[true, true, true, true, true] rfl rfl (by kernel_rfl) (fun _ _ _ h => h) (Or.inl ⟨by rfl, ?_⟩) ?_ ?_
      rotate_left
      ·
       intro w'
       go_simp
       with_reducible rfl
      rotate_left
      ·
       simp only [Act.put, List.setIfInBounds_toArray, List.set_cons_zero, List.set_cons_succ, i64_w, i32_w]
       rfl
      refine done_ (by kernel_rfl) ?_
      try go_wp2
      go_ret
      exact ⟨by first | rfl | (simp [errW_none, errW_some] <;> rfl) | (simp [*, errW_none, errW_some] <;> rfl), by repeat (first | (with_reducible first | exact HB.out | apply below_alloc | apply pw_below_drewN | apply below_drew1 | refine below_set ?_ GE101.out | refine below_set ?_ GE113.out) | exact HB.out)⟩
     ·
      replace c32 := Bool.eq_false_iff.mpr c32
      subst c32
      have H1 : (some false) = some r := by rw [if_neg (show ¬ (false = true) by decide)] at H; exact H
      clear H
      have H := H1
      clear H1
      exact absurd ((Option.some.inj H).trans hT_.out) (by decide)

end Go.Proofs.Ytkepeflplmkcmaa.Q
