/- Contracts of functions that the laws reach: a call returns what the plain Lean function of the same name tells. Conditions: those of each theorem. Made by gen.py, a program of this session, over the print of the translation. -/
import Derived.Test.YtkepeflplmkcmaaPx0
import Derived.Test.YtkepeflplmkcmaaPx1
import Derived.Test.YtkepeflplmkcmaaPx2
import Derived.Test.YtkepeflplmkcmaaPx5
import Derived.Test.YtkepeflplmkcmaaPx7
import Derived.Test.YtkepeflplmkcmaaPx8
import Derived.Shelf.Abstract
namespace Go.Proofs.Ytkepeflplmkcmaa.Q
open Go.RowKit Go.Proofs.YtkepeflplmkcmaaW.PrintWords Go.Proofs.YtkepeflplmkcmaaW.PrintLast Go.Proofs.YtkepeflplmkcmaaW.PrintMore
attribute [local go_sem] max2_int min2_int max_two min_two max_three min_three max_four min_four   -- for this text's walks alone
set_option linter.unusedVariables false
set_option linter.unusedSimpArgs false

-- HAND slices_Repeat_int_int: function 137
theorem rep_mul : ∀ c : Fin 1025, bits_Mul.f 1 (c.val : Int) = some (0, (c.val : Int)) := by decide +kernel
theorem u64_in : ∀ c : Fin 1025, IntKind.u64.wrap (c.val : Int) = c.val := by decide +kernel
theorem step_copy_run {P : Program} {ops : Array Oper} {o : Oper} {a : Act} {w w' : World} {K : Act → World → Prop} {Q : Exit → Act → World → Prop} {E : Prop} (hgd : o.guard = none) (d s : Operand) (dT sT : TypeId) (ho : o.op = .call { callee := .builtin .copy, args := #[d, s], argTypes := #[dT, sT] })
  (v u x : Value) (hd : a.eval d = v) (hs : a.eval s = u) (hrun : ∀ ty, (Builtin.copy_ #[dT, sT] ty #[v, u]).run P w = .ok x w') (h : K (a.put o.dst x) w') : if Region.wanted o (yielded ops a.tmps) = true then Oper.wp P o a w K Q else E := by
 have hw : Region.wanted o (yielded ops a.tmps) = true := by simp [Region.wanted, hgd]
 rw [if_pos hw]
 unfold Oper.wp
 simp [execOp, ho, resolve, invoke, builtin, hd, hs, hrun, Result.andThen]
 exact h
def putAt : List Int → Nat → List Int → List Int
 | xs, _, [] => xs
 | xs, o, v :: vs => putAt (xs.set o v) (o + 1) vs
theorem R_setVals {e base g n cap : Nat} {ok : Nat → Prop} : ∀ (vs : List Int) (o : Nat) (xs : List Int) (W : World), Kd.R (Kd.int .i64) e W base ok (.slice (some ⟨g, 0, none⟩) n cap) xs → Kd.R (Kd.int .i64) e (W.setCells g o (vs.map (Value.int .i64))) base ok (.slice (some ⟨g, 0, none⟩) n cap) (putAt xs o vs)
 | [], o, xs, W, h => h
 | v :: vs, o, xs, W, h => by
  have h1 := Kd.R_putn h (o : Int) v
  rw [Int.toNat_natCast] at h1
  exact R_setVals vs (o + 1) _ _ h1
theorem below_setVals {w : World} {B b : Nat} (hb : B ≤ b) : ∀ (vs : List Value) (o : Nat) (W : World), Below B w W → Below B w (W.setCells b o vs)
 | [], _, _, h => h
 | v :: vs, o, W, h => below_setVals hb vs (o + 1) _ (h.setCell hb _)
/-- The row when m entries are repeated. -/
def repL (x : Int) (n m : Nat) : List Int := List.replicate m x ++ List.replicate (n - m) 0
theorem repL_set (x : Int) {n m : Nat} (h : m < n) : (repL x n m).set m x = repL x n (m + 1) := by
 unfold repL
 rw [List.set_append_right _ _ (by rw [List.length_replicate]; exact Nat.le_refl _), List.length_replicate, Nat.sub_self, show n - m = (n - (m + 1)) + 1 by omega, List.replicate_succ, List.set_cons_zero, List.replicate_succ', List.append_assoc]
 rfl
theorem repL_put (x : Int) (n : Nat) : ∀ (j m : Nat), m + j ≤ n → putAt (repL x n m) m (List.replicate j x) = repL x n (m + j)
 | 0, m, _ => rfl
 | j + 1, m, h => by
  rw [List.replicate_succ]
  show putAt ((repL x n m).set m x) (m + 1) (List.replicate j x) = _
  rw [repL_set x (by omega), repL_put x n j (m + 1) (by omega), show m + 1 + j = m + (j + 1) by omega]
theorem repL_len (x : Int) {n m : Nat} (h : m ≤ n) : (repL x n m).length = n := by
 unfold repL
 rw [List.length_append, List.length_replicate, List.length_replicate]
 omega
theorem repL_get (x : Int) {n m i : Nat} (h : i < m) : rdOf 0 (repL x n m) (i : Int) = x := by
 show (repL x n m).getD ((i : Int)).toNat 0 = x
 rw [Int.toNat_natCast, List.getD_eq_getElem?_getD]
 unfold repL
 rw [List.getElem?_append_left (by rw [List.length_replicate]; exact h), List.getElem?_replicate, if_pos h]
 rfl
theorem repL_all (x : Int) (n : Nat) : repL x n n = List.replicate n x := by
 unfold repL
 rw [Nat.sub_self]
 exact List.append_nil _
/-- The first entry goes over. -/
theorem rep_first {w W1 : World} {A A1 : Option Addr} {c c1 n : Nat} {x : Int} (hr : Kd.C (Kd.int .i64) w A 1 [x]) (h1 : Kd.R (Kd.int .i64) 3 W1 w.heap.size (fun _ => True) (.slice A1 n c1) (repL x n 0)) (hb : Below w.heap.size w W1) :
  ∃ (W2 : World) (m : Nat), (∀ ty, (Builtin.copy_ #[22, 22] ty #[.slice A1 n c1, .slice A 1 c]).run Try.prog W1 = .ok (.int .i64 (m : Int)) W2) ∧ Aside0 (Kd.R (Kd.int .i64) 3 W2 w.heap.size (fun _ => True) (.slice A1 n c1) (repL x n m) ∧ Below w.heap.size w W2 ∧ m ≤ n ∧ (n = 0 ∨ 1 ≤ m)) := by
 rcases Nat.eq_zero_or_pos n with h0 | h0
 ·
  refine ⟨W1, 0, fun ty => run_copy_none W1 _ _ ty 3 _ _ _ _ _ _ Try.underlying22 (by kernel_rfl) (by rw [h0]; rfl), ⟨h1, hb, Nat.zero_le _, .inl h0⟩⟩
 ·
  obtain ⟨b, cb, eb, gb, gl, cl, HG⟩ := Kd.R_form h1 (by rw [repL_len x (Nat.zero_le n)]; exact h0)
  rw [repL_len x (Nat.zero_le n)] at eb
  cases eb
  obtain ⟨ad, e, hc0⟩ := Kd.at_int (Kd.C_below hr hb) 0 (by decide) (by decide)
  cases e
  refine ⟨W1.setCells b 0 [.int .i64 x], 1, fun ty => run_copy_cells W1 _ _ ty 3 b 0 _ _ ad _ _ [.int .i64 x] Try.underlying22 (by kernel_rfl) ?_ ?_ ?_ ?_ ?_, ⟨?_, ?_, h0, .inr (Nat.le_refl _)⟩⟩
  ·
   show 1 = min 1 n
   omega
  ·
   intro j v hj
   match j, hj with
   | 0, hj =>
    obtain rfl := Option.some.inj hj
    exact hc0
  ·
   intro j hj
   obtain rfl : j = 0 := by simp at hj; omega
   rw [show (⟨b, 0 + 0, none⟩ : Addr) = ⟨b, ((0 : Int)).toNat, none⟩ from rfl, (Kd.R_celln 0 h1 0 (by decide) (by omega)).1]
   rfl
  ·
   intro j hj
   obtain rfl : j = 0 := by simp at hj; omega
   exact (Kd.R_celln 0 h1 0 (by decide) (by omega)).2
  ·
   intro v hv
   obtain rfl := List.mem_singleton.1 hv
   rfl
  ·
   have := R_setVals [x] 0 _ _ h1
   rw [show putAt (repL x n 0) 0 [x] = repL x n 1 from repL_put x n 1 0 (by omega)] at this
   exact this
  ·
   exact below_setVals gb _ _ _ hb
/-- As many again as there are go over. -/
theorem rep_next {W : World} {b c1 n m N : Nat} {x : Int} (h1 : Kd.R (Kd.int .i64) 3 W N (fun _ => True) (.slice (some ⟨b, 0, none⟩) n c1) (repL x n m)) (hm : m ≤ n) :
  ∀ ty, (Builtin.copy_ #[22, 22] ty #[.slice (some ⟨b, m, none⟩) (n - m) (c1 - m), .slice (some ⟨b, 0, none⟩) m c1]).run Try.prog W = .ok (.int .i64 ((min m (n - m) : Nat) : Int)) (W.setCells b m (List.replicate (min m (n - m)) (.int .i64 x))) := by
 intro ty
 have hcell : ∀ j, j < n → W.cell? ⟨b, j, none⟩ = some (.int .i64 (rdOf 0 (repL x n m) (j : Int))) ∧ W.frozen? ⟨b, j, none⟩ = false := by
  intro j hj
  have := Kd.R_celln 0 h1 (j : Int) (by omega) (by omega)
  rwa [Int.toNat_natCast] at this
 have := run_copy_cells (P := Try.prog) W 22 22 ty 3 b m (n - m) (c1 - m) ⟨b, 0, none⟩ m c1 (List.replicate (min m (n - m)) (.int .i64 x)) Try.underlying22 (by kernel_rfl) List.length_replicate (fun j v hj => by
  rw [List.getElem?_replicate] at hj
  split at hj
  ·
   obtain rfl := Option.some.inj hj
   have h2 := (hcell j (by omega)).1
   rw [repL_get x (by omega)] at h2
   rw [← h2]
   rw [Addr.add_lit, Nat.zero_add]
  ·
   cases hj) (fun j hj => by
  rw [List.length_replicate] at hj
  rw [(hcell (m + j) (by omega)).1]
  rfl) (fun j hj => by
  rw [List.length_replicate] at hj
  exact (hcell (m + j) (by omega)).2) (fun v hv => by
  obtain rfl := List.eq_of_mem_replicate hv
  rfl)
 rw [List.length_replicate] at this
 exact this
set_option maxHeartbeats 2000000 in
set_option maxRecDepth 100000 in
theorem slices_Repeat_int_int.calls (A : Option Addr) (c : Nat) (x : Int) (n : Nat) (w : World) (hr : Kd.C (Kd.int .i64) w A 1 [x]) (hc : 1 ≤ c) (hn : n ≤ 1024) :
  Calls Try.prog 137 #[.slice A 1 c, .int .i64 n] w fun e w' => ∃ v0_ : Value, e = .returned v0_ ∧ Kd.R (Kd.int .i64) 3 w' w.heap.size (fun _ => True) v0_ (List.replicate n x) ∧ Below w.heap.size w w' := by
 have hu := Try.underlying22
 have HR := asd hr
 have HM := asd (rep_mul ⟨n, by omega⟩)
 have hn0 : ¬ (n : Int) < 0 := by omega
 have hw1 : IntKind.u64.wrap (n : Int) = n := u64_in ⟨n, by omega⟩
 have hbig : ¬ (9223372036854775807 : Int) < (n : Int) := by omega
 have hz : List.replicate (n : Int).toNat 0 = repL x n 0 := by rw [Int.toNat_natCast]; rfl
 have HZ := asd hz
 clear hr hz
 go_enter Try.func137, Try.ntmps137
 go_wp2_with (first | (go_at_call 153; (with_reducible refine (bits_Mul.calls 1 (n : Int) 0 (n : Int) _ HM.out).mono ?_); rintro e w' ⟨rfl, ⟨nd, rfl⟩⟩; (try first | exact ⟨rfl, _, World.drewN_drewN _ _ _⟩ | exact ⟨rfl, _, Eq.trans (World.drewN_drewN _ _ _) (congrArg (World.drewN _) (Nat.add_assoc _ _ _))⟩)) | ((with_reducible refine gate_dst (N := 30) rfl ?_); refine Kd.R_make (Kd.int .i64) _ 3 rfl (N := 30) rfl 22 _ _ rfl (n : Int) rfl rfl Try.underlying22 (.int .i64 0) 8 info3 rfl (by decide) (by omega) 0 (ok := fun _ => True) (okp := fun _ => True) rfl (fun _ hk => hk) trivial (by omega) (by omega) (Below.refl _ _) (Nat.le_refl _) ?_; intro v30 W1 hR1 hb1 hg1 hn1; rw [HZ.out] at hR1; have HB1 := asd (show Below w.heap.size w W1 from by first | exact hb1 | exact below_since hb1 | exact below_since1 hb1); have HR1 := asd (Kd.R_lower hR1 (below_size (show Below w.heap.size w _ from by repeat (first | exact Below.refl _ _ | apply pw_below_drewN | apply below_drew1)))); obtain ⟨A1, c1, e1⟩ := Kd.R_slice hR1; rw [repL_len x (Nat.zero_le n)] at e1; subst e1; clear hR1 hb1 hg1 hn1; obtain ⟨W2, m2, hcp, HW2⟩ := rep_first (c := c) HR.out HR1.out HB1.out))
 obtain ⟨HR2, HB2, hm2, hm0⟩ := HW2.out
 have HR2 := asd HR2
 have HB2 := asd HB2
 have HM0 := asd hm0
 clear HW2 hcp hm0
 go_loopg [8] n (fun kq v8 wr => ∃ m : Nat, v8 = .int .i64 (m : Int) ∧ Aside0 (m ≤ n ∧ (n = 0 ∨ 1 ≤ m) ∧ n - m ≤ kq) ∧ Aside0 (Kd.R (Kd.int .i64) 3 wr w.heap.size (fun _ => True) (.slice A1 n c1) (repL x n m)) ∧ Aside0 (Below w.heap.size w wr))
 case atStart => exact ⟨m2, rfl, ⟨hm2, HM0.out, by omega⟩, HR2, HB2⟩
 case round =>
  clear HR2 HB2 HM0 HR1 HB1
  obtain ⟨m, rfl, hm, HR2, HB2⟩ := hrel
  obtain ⟨hmn, hm1, hgk⟩ := hm.out
  by_cases hlt : m < n
  ·
   have hltz : (m : Int) < (n : Int) := by omega
   obtain ⟨b, cb, eb, gb, gl, cl, HG⟩ := Kd.R_form HR2.out (by rw [repL_len x hmn]; omega)
   rw [repL_len x hmn] at eb
   cases eb
   clear gl cl HG
   go_wp2
   have hcp := rep_next (Kd.R_below HR2.out (below_drew (Below.refl _ _))) hmn
   obtain ⟨_, _, e3, hlc, _⟩ := Kd.R_reads HR2.out
   rw [repL_len x hmn] at e3 hlc
   cases e3
   have hne : c1 ≠ m := by omega
   have hmc : m ≤ c1 := by omega
   have hmcz : (m : Int) ≤ (c1 : Int) := by omega
   have hm0z : (0 : Int) ≤ (m : Int) := by omega
   go_region_law (refine step_copy_run rfl (.tmp 41) (.tmp 44) _ _ rfl _ _ _ (by simp [Act.eval, Act.put]) (by simp [Act.eval, Act.put]) hcp ?_)
   have HR3 := asd (R_setVals (List.replicate (min m (n - m)) x) m _ _ (Kd.R_below HR2.out (below_drew (Below.refl _ _))))
   have HB3 := asd (below_setVals gb (List.replicate (min m (n - m)) (.int .i64 x)) m _ (below_drew HB2.out))
   rw [List.map_replicate, repL_put x n _ _ (by omega)] at HR3
   have hwr : IntKind.i64.wrap ((m : Int) + ((min m (n - m) : Nat) : Int)) = ((m + min m (n - m) : Nat) : Int) := by
    have : (m : Int) + ((min m (n - m) : Nat) : Int) = ((m + min m (n - m) : Nat) : Int) := by omega
    rw [this]
    simp (disch := omega) only [IntWalk.i64_in]
   clear hcp
   generalize World.setCells _ _ _ _ = W4 at *
   go_wp2
   go_roundg (n - (m + min m (n - m)))
   case measure => omega
   case rel => exact ⟨m + min m (n - m), by first | rfl | exact congrArg _ hwr | go_num, ⟨by omega, by omega, Nat.le_refl _⟩, HR3, HB3⟩
  ·
   obtain rfl : m = n := by omega
   have hltz : ¬ (m : Int) < (m : Int) := by omega
   go_wp2
   go_ret
   exact ⟨_, rfl, by rw [← repL_all]; exact HR2.out, HB2.out⟩

/-! ### impl_part: function 82 -/
def impl_part.f (a0 : Int) (a1 : Int) : Option (Bool) := some ((Go.bits .andNot .i64 a0 a1) == 0)
set_option maxHeartbeats 8000000 in
set_option maxRecDepth 100000 in
theorem impl_part.calls (a0 : Int) (a1 : Int) (r : Bool) (w : World) (h : impl_part.f a0 a1 = some r) :
    Calls Try.prog 82 #[.int .i64 a0, .int .i64 a1] w fun e w' => e = .returned (.bool r) ∧ Drawn0 w w' := by
  have H : (some ((Go.bits .andNot .i64 a0 a1) == 0)) = some r := h
  clear h
  obtain rfl := Option.some.inj H
  go_enter Try.func82, Try.ntmps82
  go_wp2
  go_ret
  exact ⟨by first | rfl | (simp; done) | (simp [*]; done), by repeat (first | exact Drawn0.refl _ | apply Drawn0.step)⟩

-- HAND impl_followers_1: function 138
def partV (x y : Int) : Bool := Go.bits .andNot .i64 x y == 0
/-- What follows in chains: one more is put in its place, from a place u on. (Fuel; what is tried; what follows.) -/
def putL (s : List Int) : Nat → List Bool → List Int → Int → Int → Option (Bool × List Bool × List Int)
 | 0, _, _, _, _ => none
 | k + 1, t, o, v, u => if 0 ≤ v ∧ v < (s.length : Int) then (if u < (s.length : Int) then
   (if u = v then putL s k t o v (u + 1) else if partV (rd s u) (rd s v) = false then putL s k t o v (u + 1) else if rdOf false t u = true then putL s k t o v (u + 1)
   else if rd o u < 0 then some (true, t.set u.toNat true, o.set u.toNat v)
   else (putL s k (t.set u.toNat true) o (rd o u) 0).bind fun r => if r.1 = true then some (true, r.2.1, r.2.2.set u.toNat v) else putL s k r.2.1 r.2.2 v (u + 1))
  else some (false, t, o)) else none
theorem putL_len (s : List Int) : ∀ (k : Nat) (t : List Bool) (o : List Int) (v u : Int) (r : Bool × List Bool × List Int), putL s k t o v u = some r → r.2.1.length = t.length ∧ r.2.2.length = o.length
 | 0, t, o, v, u, r, h => by simp [putL] at h
 | k + 1, t, o, v, u, r, h => by
  unfold putL at h
  split at h
  ·
   split at h
   ·
    split at h
    ·
     exact putL_len s k _ _ _ _ _ h
    ·
     split at h
     ·
      exact putL_len s k _ _ _ _ _ h
     ·
      split at h
      ·
       exact putL_len s k _ _ _ _ _ h
      ·
       split at h
       ·
        obtain rfl := Option.some.inj h
        exact ⟨List.length_set .., List.length_set ..⟩
       ·
        obtain ⟨r1, h1, h2⟩ := Option.bind_eq_some_iff.1 h
        have i1 := putL_len s k _ _ _ _ _ h1
        rw [List.length_set] at i1
        split at h2
        ·
         obtain rfl := Option.some.inj h2
         exact ⟨i1.1, by rw [← i1.2]; exact List.length_set ..⟩
        ·
         have i2 := putL_len s k _ _ _ _ _ h2
         exact ⟨i2.1.trans i1.1, i2.2.trans i1.2⟩
   ·
    obtain rfl := Option.some.inj h
    exact ⟨rfl, rfl⟩
  ·
   cases h
/-- The four variables in memory, the two rows of the call's own. -/
structure PutS (w0 w : World) (g1 g2 g3 g4 : Nat) (A : Option Addr) (c : Nat) (s : List Int) (bt ct bo co : Nat) (t : List Bool) (o : List Int) : Prop where
 bel : Below w0.heap.size w0 w
 b1 : w.heap[g1]? = some (.cells #[.slice A s.length c] 22 (0, 0))
 b2 : w.heap[g2]? = some (.cells #[.slice (some ⟨bt, 0, none⟩) s.length ct] 131 (0, 0))
 b3 : w.heap[g3]? = some (.cells #[.slice (some ⟨bo, 0, none⟩) s.length co] 22 (0, 0))
 b4 : w.heap[g4]? = some (.cells #[.func (.func 138) #[] #[.pointer (some ⟨g1, 0, none⟩), .pointer (some ⟨g2, 0, none⟩), .pointer (some ⟨g3, 0, none⟩), .pointer (some ⟨g4, 0, none⟩)]] 93 (0, 0))
 rt : Kd.R Kd.bool 4 w w0.heap.size (fun _ => True) (.slice (some ⟨bt, 0, none⟩) s.length ct) t
 ro : Kd.R (Kd.int .i64) 3 w w0.heap.size (fun _ => True) (.slice (some ⟨bo, 0, none⟩) s.length co) o
section
variable {w0 w W : World} {g1 g2 g3 g4 : Nat} {A : Option Addr} {c : Nat} {s : List Int} {bt ct bo co : Nat} {t : List Bool} {o : List Int}
theorem PutS.below (h : PutS w0 w g1 g2 g3 g4 A c s bt ct bo co t o) (hb : Below w.heap.size w W) : PutS w0 W g1 g2 g3 g4 A c s bt ct bo co t o :=
 ⟨below_step h.bel hb, blk_below h.b1 hb, blk_below h.b2 hb, blk_below h.b3 hb, blk_below h.b4 hb, Kd.R_below h.rt hb, Kd.R_below h.ro hb⟩
theorem PutS.drewN (h : PutS w0 w g1 g2 g3 g4 A c s bt ct bo co t o) (m : Nat) : PutS w0 (w.drewN m) g1 g2 g3 g4 A c s bt ct bo co t o := h.below (pw_below_drewN (Below.refl _ _) m)
theorem PutS.nebt (h : PutS w0 w g1 g2 g3 g4 A c s bt ct bo co t o) {g tp : Nat} {cs : Array Value} (hb : w.heap[g]? = some (.cells cs tp (0, 0))) (ht : 4 ≠ tp) : g ≠ bt := fun e => Kd.R_ne h.rt hb ht (by rw [e]; rfl)
theorem PutS.nebo (h : PutS w0 w g1 g2 g3 g4 A c s bt ct bo co t o) {g tp : Nat} {cs : Array Value} (hb : w.heap[g]? = some (.cells cs tp (0, 0))) (ht : 3 ≠ tp) : g ≠ bo := fun e => Kd.R_ne h.ro hb ht (by rw [e]; rfl)
theorem PutS.two (h : PutS w0 w g1 g2 g3 g4 A c s bt ct bo co t o) : bt ≠ bo := by
 obtain ⟨cs, hcs⟩ := Kd.R_typed h.rt bt rfl
 exact h.nebo hcs (by decide)
theorem PutS.setT (h : PutS w0 w g1 g2 g3 g4 A c s bt ct bo co t o) (i : Int) : PutS w0 (w.setCell ⟨bt, i.toNat, none⟩ (.bool true)) g1 g2 g3 g4 A c s bt ct bo co (t.set i.toNat true) o :=
 ⟨below_set h.bel (Kd.R_base h.rt bt rfl), blk_far h.b1 (p := ⟨bt, i.toNat, none⟩) (h.nebt h.b1 (by decide)) _, blk_far h.b2 (p := ⟨bt, i.toNat, none⟩) (h.nebt h.b2 (by decide)) _, blk_far h.b3 (p := ⟨bt, i.toNat, none⟩) (h.nebt h.b3 (by decide)) _, blk_far h.b4 (p := ⟨bt, i.toNat, none⟩) (h.nebt h.b4 (by decide)) _, Kd.R_putn h.rt i true,
  Kd.R_mono (Kd.R_far (p := ⟨bt, i.toNat, none⟩) (Kd.R_tight rfl h.ro) (fun k hk e => h.two (Option.some.inj (show some bt = some bo from by rw [show bt = k from e.symm]; exact hk))) _) (fun _ _ => trivial)⟩
theorem PutS.setO (h : PutS w0 w g1 g2 g3 g4 A c s bt ct bo co t o) (i x : Int) : PutS w0 (w.setCell ⟨bo, i.toNat, none⟩ (.int .i64 x)) g1 g2 g3 g4 A c s bt ct bo co t (o.set i.toNat x) :=
 ⟨below_set h.bel (Kd.R_base h.ro bo rfl), blk_far h.b1 (p := ⟨bo, i.toNat, none⟩) (h.nebo h.b1 (by decide)) _, blk_far h.b2 (p := ⟨bo, i.toNat, none⟩) (h.nebo h.b2 (by decide)) _, blk_far h.b3 (p := ⟨bo, i.toNat, none⟩) (h.nebo h.b3 (by decide)) _, blk_far h.b4 (p := ⟨bo, i.toNat, none⟩) (h.nebo h.b4 (by decide)) _,
  Kd.R_mono (Kd.R_far (p := ⟨bo, i.toNat, none⟩) (Kd.R_tight rfl h.rt) (fun k hk e => h.two (Option.some.inj (show some bt = some bo from by rw [show bo = k from e.symm]; exact hk.symm))) _) (fun _ _ => trivial), Kd.R_putn h.ro i x⟩
end
set_option maxHeartbeats 2000000 in
set_option maxRecDepth 100000 in
theorem impl_followers_1.calls (A : Option Addr) (c : Nat) (s : List Int) (g1 g2 g3 g4 bt ct bo co : Nat) (w0 : World) (hs : Kd.C (Kd.int .i64) w0 A s.length s) (hc : s.length ≤ c) : ∀ (k : Nat) (t : List Bool) (o : List Int) (v : Int) (r : Bool) (t' : List Bool) (o' : List Int) (w : World) (hS : PutS w0 w g1 g2 g3 g4 A c s bt ct bo co t o) (h : putL s k t o v 0 = some (r, t', o')),
  Calls Try.prog 138 #[.int .i64 v, .pointer (some ⟨g1, 0, none⟩), .pointer (some ⟨g2, 0, none⟩), .pointer (some ⟨g3, 0, none⟩), .pointer (some ⟨g4, 0, none⟩)] w fun e w' => e = .returned (.bool r) ∧ PutS w0 w' g1 g2 g3 g4 A c s bt ct bo co t' o' := by
 have HSR := asd hs
 have hmx := Kd.C_max hs
 have HC := asd hc
 clear hs hc
 intro k
 induction k using Nat.strongRecOn with
 | ind k ih =>
 intro t o v r t' o' w hS h
 have HS := asd hS
 have H' := asd h
 have IH := asd ih
 clear hS h ih
 have q1 : w.cell? ⟨g1, 0, none⟩ = some (.slice A s.length c) := (blk_cell HS.out.b1 0).trans rfl
 go_enter Try.func138, Try.ntmps138
 go_wp2
 clear q1
 go_loopg [11] k (fun kq v11 wr => ∃ (u : Int) (t1 : List Bool) (o1 : List Int), v11 = .int .i64 u ∧ Aside0 (0 ≤ u) ∧ Aside0 (putL s kq t1 o1 v u = some (r, t', o')) ∧ Aside0 (kq ≤ k) ∧ Aside0 (PutS w0 wr g1 g2 g3 g4 A c s bt ct bo co t1 o1))
 case atStart => exact ⟨0, t, o, rfl, ⟨Int.le_refl _⟩, H', ⟨Nat.le_refl _⟩, HS⟩
 case round =>
  clear H' HS
  obtain ⟨u, t1, o1, rfl, hu, HA, HK, HS⟩ := hrel
  cases gk with
  | zero => exact absurd HA.out (by simp [putL])
  | succ kn =>
   have H := HA.out
   clear HA
   unfold putL at H
   have hu0 := hu.out
   by_cases hv : 0 ≤ v ∧ v < (s.length : Int)
   ·
    rw [if_pos hv] at H
    obtain ⟨hv0, hv1⟩ := hv
    by_cases hlt : u < (s.length : Int)
    ·
     rw [if_pos hlt] at H
     have q1 : wr.cell? ⟨g1, 0, none⟩ = some (.slice A s.length c) := (blk_cell HS.out.b1 0).trans rfl
     have HRD := asd (Kd.C_below HSR.out HS.out.bel)
     obtain ⟨ad, e, hcu⟩ := Kd.at_int HRD.out u hu0 hlt
     cases e
     obtain ⟨ad2, e2, hcv⟩ := Kd.at_int HRD.out v hv0 hv1
     cases e2
     have hHRD := HRD
     clear HRD
     obtain ⟨x, hx⟩ : ∃ x, x = rd s u := ⟨_, rfl⟩
     obtain ⟨y, hy⟩ : ∃ y, y = rd s v := ⟨_, rfl⟩
     rw [← hx] at H hcu
     rw [← hy] at H hcv
     clear hx hy
     by_cases c1 : u = v
     ·
      rw [if_pos c1] at H
      have H' := asd H
      have c1b : (u == v) = true := beq_iff_eq.mpr c1
      clear H
      go_wp2
      go_roundg kn
      case measure => have := HK.out; omega
      case rel => exact ⟨u + 1, t1, o1, by first | rfl | go_num, ⟨by omega⟩, H', ⟨by have := HK.out; omega⟩, HS⟩
     ·
      rw [if_neg c1] at H
      have c1b : (u == v) = false := beq_eq_false_iff_ne.mpr c1
      cases hp : partV x y with
      | false =>
       rw [hp, if_pos rfl] at H
       have H' := asd H
       have HP := asd (show impl_part.f x y = some false from congrArg some hp)
       clear H hp
       go_wp2_with (first | (go_at_call 82; (with_reducible refine (impl_part.calls x y false _ HP.out).mono ?_); rintro e w' ⟨rfl, ⟨nd, rfl⟩⟩; (try first | exact ⟨rfl, _, World.drewN_drewN _ _ _⟩ | exact ⟨rfl, _, Eq.trans (World.drewN_drewN _ _ _) (congrArg (World.drewN _) (Nat.add_assoc _ _ _))⟩)))
       go_roundg kn
       case measure => have := HK.out; omega
       case rel => exact ⟨u + 1, t1, o1, by first | rfl | go_num, ⟨by omega⟩, H', ⟨by have := HK.out; omega⟩, ⟨by first | exact HS.out | exact HS.out.drewN _⟩⟩
      | true =>
       rw [hp, if_neg (by decide)] at H
       have HP := asd (show impl_part.f x y = some true from congrArg some hp)
       clear hp
       cases hb : rdOf false t1 u with
       | true =>
        rw [hb, if_pos rfl] at H
        have H' := asd H
        have HBT := asd hb
        clear H hb
        go_wp2_with (go_at_call 82; (with_reducible refine (impl_part.calls x y true _ HP.out).mono ?_); rintro e w' ⟨rfl, ⟨nd, rfl⟩⟩; have HS2 := asd (HS.out.drewN nd); generalize World.drewN wr nd = W2 at *; have q2 : W2.cell? ⟨g2, 0, none⟩ = some (.slice (some ⟨bt, 0, none⟩) s.length ct) := (blk_cell HS2.out.b2 0).trans rfl; obtain ⟨hct, hft⟩ := Kd.R_celln false HS2.out.rt u hu0 hlt; rw [HBT.out] at hct)
        go_roundg kn
        case measure => have := HK.out; omega
        case rel => exact ⟨u + 1, t1, o1, by first | rfl | go_num, ⟨by omega⟩, H', ⟨by have := HK.out; omega⟩, HS2⟩
       | false =>
        rw [hb, if_neg (by decide)] at H
        have HBT := asd hb
        clear hb
        by_cases hn : rd o1 u < 0
        ·
         rw [if_pos hn] at H
         obtain ⟨rfl, rfl, rfl⟩ : true = r ∧ t1.set u.toNat true = t' ∧ o1.set u.toNat v = o' := by simpa using H
         clear H
         go_wp2_with (go_at_call 82; (with_reducible refine (impl_part.calls x y true _ HP.out).mono ?_); rintro e w' ⟨rfl, ⟨nd, rfl⟩⟩; have HS2 := asd (HS.out.drewN nd); generalize World.drewN wr nd = W2 at *; have q2 : W2.cell? ⟨g2, 0, none⟩ = some (.slice (some ⟨bt, 0, none⟩) s.length ct) := (blk_cell HS2.out.b2 0).trans rfl; obtain ⟨hct, hft⟩ := Kd.R_celln false HS2.out.rt u hu0 hlt; rw [HBT.out] at hct)
         have HS3 := asd (HS2.out.setT u)
         generalize World.setCell W2 ⟨bt, u.toNat, none⟩ (.bool true) = W3 at *
         have q3 : W3.cell? ⟨g3, 0, none⟩ = some (.slice (some ⟨bo, 0, none⟩) s.length co) := (blk_cell HS3.out.b3 0).trans rfl
         obtain ⟨hco, hfo⟩ := Kd.R_celln 0 HS3.out.ro u hu0 hlt
         rw [show rdOf 0 o1 u = rd o1 u from rfl] at hco
         generalize rd o1 u = z at *
         have hzb : decide (z < 0) = true := decide_eq_true hn
         go_quiet (fail)
         go_wp2
         go_ret
         exact ⟨rfl, by first | exact HS3.out.setO u v | exact (HS3.out.drewN _).setO u v⟩
        ·
         rw [if_neg hn] at H
         obtain ⟨⟨r1, t2, o2⟩, hrec, H⟩ := Option.bind_eq_some_iff.1 H
         have HREC := asd hrec
         have HH := asd H
         clear H hrec
         go_wp2_with (go_at_call 82; (with_reducible refine (impl_part.calls x y true _ HP.out).mono ?_); rintro e w' ⟨rfl, ⟨nd, rfl⟩⟩; have HS2 := asd (HS.out.drewN nd); generalize World.drewN wr nd = W2 at *; have q2 : W2.cell? ⟨g2, 0, none⟩ = some (.slice (some ⟨bt, 0, none⟩) s.length ct) := (blk_cell HS2.out.b2 0).trans rfl; obtain ⟨hct, hft⟩ := Kd.R_celln false HS2.out.rt u hu0 hlt; rw [HBT.out] at hct)
         have HS3 := asd (HS2.out.setT u)
         generalize World.setCell W2 ⟨bt, u.toNat, none⟩ (.bool true) = W3 at *
         have q3 : W3.cell? ⟨g3, 0, none⟩ = some (.slice (some ⟨bo, 0, none⟩) s.length co) := (blk_cell HS3.out.b3 0).trans rfl
         have q4 : W3.cell? ⟨g4, 0, none⟩ = some (.func (.func 138) #[] #[.pointer (some ⟨g1, 0, none⟩), .pointer (some ⟨g2, 0, none⟩), .pointer (some ⟨g3, 0, none⟩), .pointer (some ⟨g4, 0, none⟩)]) := (blk_cell HS3.out.b4 0).trans rfl
         obtain ⟨hco, hfo⟩ := Kd.R_celln 0 HS3.out.ro u hu0 hlt
         rw [show rdOf 0 o1 u = rd o1 u from rfl] at hco
         generalize rd o1 u = z at *
         have hzb : decide (z < 0) = false := decide_eq_false (by omega)
         go_still_tail 11, (by kernel_rfl)
         change wpList _ _ _ _ _ W3.drew
         have HS4 : Aside0 (PutS w0 W3.drew g1 g2 g3 g4 (some ad) c s bt ct bo co (t1.set u.toNat true) o1) := ⟨HS3.out.below (below_drew (Below.refl _ _))⟩
         generalize World.drew W3 = W4 at *
         cases r1 with
         | true =>
          have H := HH.out
          rw [if_pos rfl] at H
          obtain ⟨rfl, rfl, rfl⟩ : true = r ∧ t2 = t' ∧ o2.set u.toNat v = o' := by simpa using H
          clear H
          go_wp2_with (go_at_call 138; (refine (IH.out kn (by have := HK.out; omega) (t1.set u.toNat true) o1 z true t2 o2 _ HS4.out HREC.out).mono ?_); rintro e W5 ⟨rfl, hS5⟩; have HS5 := asd hS5; have q5 : W5.cell? ⟨g3, 0, none⟩ = some (.slice (some ⟨bo, 0, none⟩) s.length co) := (blk_cell hS5.b3 0).trans rfl; obtain ⟨hco5, hfo5⟩ := Kd.R_celln 0 hS5.ro u hu0 hlt; clear hS5)
          go_ret
          exact ⟨rfl, HS5.out.setO u v⟩
         | false =>
          have H := HH.out
          rw [if_neg (by decide)] at H
          have H' := asd H
          clear H
          go_wp2_with (go_at_call 138; (refine (IH.out kn (by have := HK.out; omega) (t1.set u.toNat true) o1 z false t2 o2 _ HS4.out HREC.out).mono ?_); rintro e W5 ⟨rfl, hS5⟩; have HS5 := asd hS5; clear hS5)
          go_roundg kn
          case measure => have := HK.out; omega
          case rel => exact ⟨u + 1, t2, o2, by first | rfl | go_num, ⟨by omega⟩, H', ⟨by have := HK.out; omega⟩, HS5⟩
    ·
     rw [if_neg hlt] at H
     obtain ⟨rfl, rfl, rfl⟩ : false = r ∧ t1 = t' ∧ o1 = o' := by simpa using H
     clear H
     go_wp2
     go_ret
     exact ⟨rfl, HS.out⟩
   ·
    rw [if_neg hv] at H
    cases H

-- HAND with impl.followers$1+spec.cnGet+spec.cnParts
/-- Both search alike. -/
theorem put_ok {s : List Int} (hsz : s.length < 1048577) (hup : ∀ x y : Nat, x < s.length → y < s.length → x ≠ y → partV (rd s x) (rd s y) = true → x < y) (m d : Nat) (b o : List Int) (t : List Bool) (u v : Nat) (hP : Pair s.length b o) (ht : t.length = s.length) (hv : v < s.length) (hs : 0 ≤ rd b v → rdOf false t (rd b v) = true) (hm : unT t ≤ m) (hd : s.length - u ≤ d) (hu : u ≤ s.length) :
  ∃ (r : Bool) (b' o' : List Int) (t' : List Bool), Ev (fun k => putL s k t o v u) (r, t', o') ∧ Ev (fun k => spec_cnGet.l0 k s b o t v s s.length u) (r, b', o', t') ∧ t'.length = s.length ∧ (∀ y : Nat, rdOf false t y = true → rdOf false t' y = true) ∧ unT t' ≤ unT t ∧ (r = false → b' = b ∧ o' = o) ∧ (r = true → Got s.length v b o t b' o') := by
 have hwu : wrap64 ((u : Int) + 1) = u + 1 := wrap_succ (by omega) (by omega)
 have hv0 : 0 ≤ (v : Int) ∧ (v : Int) < (s.length : Int) := ⟨by omega, by omega⟩
 by_cases hlt : u < s.length
 ·
  have hltz : (u : Int) < (s.length : Int) := by omega
  have cont : ∀ t2 : List Bool, t2.length = s.length → (∀ y : Nat, rdOf false t y = true → rdOf false t2 y = true) → unT t2 ≤ unT t → ∃ (r : Bool) (b' o' : List Int) (t' : List Bool), Ev (fun k => putL s k t2 o v ((u : Int) + 1)) (r, t', o') ∧ Ev (fun k => spec_cnGet.l0 k s b o t2 v s s.length ((u : Int) + 1)) (r, b', o', t') ∧ t'.length = s.length ∧ (∀ y : Nat, rdOf false t y = true → rdOf false t' y = true) ∧ unT t' ≤ unT t ∧ (r = false → b' = b ∧ o' = o) ∧ (r = true → Got s.length v b o t b' o') := by
   intro t2 hl2 hs2 hm2
   obtain ⟨r, b', o', t', h1, h2, h3, h4, h5, h6, h7⟩ := put_ok hsz hup m (d - 1) b o t2 (u + 1) v hP hl2 hv (fun h0 => by
    obtain ⟨j, hj, e⟩ := nat_of h0 (hP.rb v hv).2
    have := hs h0
    rw [e] at this ⊢
    exact hs2 j this) (by omega) (by omega) (by omega)
   exact ⟨r, b', o', t', h1, h2, h3, fun y hy => h4 y (hs2 y hy), by omega, h6, fun h => (h7 h).mono hP hs2⟩
  by_cases huv : (u : Int) = (v : Int)
  ·
   obtain ⟨r, b', o', t', h1, h2, h3⟩ := cont t ht (fun _ h => h) (Nat.le_refl _)
   exact ⟨r, b', o', t', Ev.succ (fun k => by simp only [putL]; rw [if_pos hv0, if_pos hltz, if_pos huv]) h1, Ev.succ (fun k => by simp only [spec_cnGet.l0]; rw [if_pos hltz, if_pos (by omega), if_pos hltz, if_pos huv.symm]) (Ev.succ (fun k => by simp only [spec_cnGet.j1, if_true, hwu]) h2), h3⟩
  ·
   have hvu : ¬ (v : Int) = (u : Int) := fun e => huv e.symm
   cases hp : partV (rd s u) (rd s v) with
   | false =>
    obtain ⟨r, b', o', t', h1, h2, h3⟩ := cont t ht (fun _ h => h) (Nat.le_refl _)
    have hcn : spec_cnParts.f (rd s u) (rd s v) = some false := congrArg some hp
    refine ⟨r, b', o', t', Ev.succ (fun k => by simp only [putL]; rw [if_pos hv0, if_pos hltz, if_neg huv, if_pos hp]) h1, Ev.succ (fun k => by simp only [spec_cnGet.l0]; rw [if_pos hltz, if_pos (by omega), if_pos hltz, if_neg hvu, if_pos hv0.1, if_pos hv0.2]) (Ev.bindc hcn (Ev.to (fun k => by rw [if_neg (by decide)]) (Ev.succ (fun k => by simp only [spec_cnGet.j1, if_true, hwu]) h2))), h3⟩
   | true =>
    have hcn : spec_cnParts.f (rd s u) (rd s v) = some true := congrArg some hp
    have hult : (u : Int) < (t.length : Int) := by omega
    have hpn : ¬ partV (rd s u) (rd s v) = false := by rw [hp]; decide
    cases hb : rdOf false t (u : Int) with
    | true =>
     obtain ⟨r, b', o', t', h1, h2, h3⟩ := cont t ht (fun _ h => h) (Nat.le_refl _)
     refine ⟨r, b', o', t', Ev.succ (fun k => by simp only [putL]; rw [if_pos hv0, if_pos hltz, if_neg huv, if_neg hpn, if_pos hb]) h1, Ev.succ (fun k => by simp only [spec_cnGet.l0]; rw [if_pos hltz, if_pos (by omega), if_pos hltz, if_neg hvu, if_pos hv0.1, if_pos hv0.2]) (Ev.bindc hcn (Ev.to (fun k => by rw [if_pos rfl, if_pos hult, hb]) (Ev.succ (fun k => by simp only [spec_cnGet.j1, if_true, hwu]) h2))), h3⟩
    | false =>
     have hbn : ¬ rdOf false t (u : Int) = true := by rw [hb]; decide
     have huv2 : u < v := hup u v hlt hv (fun e => huv (by rw [e])) hp
     have huto : (u : Int) < (o.length : Int) := by rw [hP.lo]; exact hltz
     have hvb : (v : Int) < (b.length : Int) := by rw [hP.lb]; exact hv0.2
     have hsu := unT_set (t := t) (i := u) (by omega) hb
     have hset : ∀ y : Nat, rdOf false t y = true → rdOf false (t.set u true) y = true := fun y hy => tset_up (by omega) hy
     by_cases ho : rd o u < 0
     ·
      refine ⟨true, b.set v u, o.set u v, t.set u true, Ev.succ (fun k => by simp only [putL]; rw [if_pos hv0, if_pos hltz, if_neg huv, if_neg hpn, if_neg hbn, if_pos ho]) (Ev.const (by rw [Int.toNat_natCast])), Ev.succ (fun k => by simp only [spec_cnGet.l0]; rw [if_pos hltz, if_pos (by omega), if_pos hltz, if_neg hvu, if_pos hv0.1, if_pos hv0.2]) (Ev.bindc hcn (Ev.to (fun k => by rw [if_pos rfl, if_pos hult, hb]) (Ev.succ (fun k => by simp only [spec_cnGet.j1]; rw [if_neg (by decide), if_pos (by omega), if_pos hult]) (Ev.bindc rfl (Ev.to (fun k => by rw [if_pos huto, if_pos ho, if_pos hv0.1, if_pos hvb]) (Ev.const (by rw [Int.toNat_natCast, Int.toNat_natCast]))))))), by rw [List.length_set]; exact ht, hset, by omega, (fun h => Bool.noConfusion h), fun _ => got_base hP hv hlt ht hb hs ho huv2⟩
     ·
      obtain ⟨i, hi, hoi⟩ := nat_of (x := rd o u) (by omega) (hP.ro u hlt).2
      have hbi : rd b i = (u : Int) := (hP.bo i u hi hlt).2 hoi
      have hm1 : 0 < m := by omega
      obtain ⟨r1, b1, o1, t1, e1, e2, l1, s1, u1, f1, g1⟩ := put_ok hsz hup (m - 1) s.length b o (t.set u true) 0 i hP (by rw [List.length_set]; exact ht) hi (fun _ => by rw [hbi, tset t (by omega), if_pos rfl]) (by omega) (by omega) (by omega)
      have e2' : Ev (fun k => spec_cnGet.f k s b o (t.set u true) i) (r1, b1, o1, t1) := Ev.succ (fun k => by simp only [spec_cnGet.f]; rfl) e2
      have E1 : ∀ {q : Bool × List Bool × List Int}, Ev (fun k => (putL s k (t.set u true) o i 0).bind fun r => if r.1 = true then some (true, r.2.1, r.2.2.set (u : Int).toNat v) else putL s k r.2.1 r.2.2 v ((u : Int) + 1)) q → Ev (fun k => putL s k t o v u) q := fun h => Ev.succ (fun k => by simp only [putL]; rw [if_pos hv0, if_pos hltz, if_neg huv, if_neg hpn, if_neg hbn, if_neg ho, hoi, Int.toNat_natCast]) h
      have E2 : ∀ {q : Bool × List Int × List Int × List Bool}, Ev (fun k => (spec_cnGet.f k s b o (t.set u true) i).bind fun bt110 => (if bt110.1 = true then (if 0 ≤ (v : Int) then (if (v : Int) < (b.length : Int) then (some (true, (bt110.2.1.set (v : Int).toNat u), (bt110.2.2.1.set (u : Int).toNat v), bt110.2.2.2)) else (none)) else (none)) else (spec_cnGet.l0 k s bt110.2.1 bt110.2.2.1 bt110.2.2.2 v s s.length ((u : Int) + 1)))) q → Ev (fun k => spec_cnGet.l0 k s b o t v s s.length u) q := fun h => Ev.succ (fun k => by simp only [spec_cnGet.l0]; rw [if_pos hltz, if_pos (by omega), if_pos hltz, if_neg hvu, if_pos hv0.1, if_pos hv0.2]) (Ev.bindc hcn (Ev.to (fun k => by rw [if_pos rfl, if_pos hult, hb]) (Ev.succ (fun k => by simp only [spec_cnGet.j1]; rw [if_neg (by decide), if_pos (by omega), if_pos hult]) (Ev.bindc rfl (Ev.to (fun k => by rw [if_pos huto, if_neg ho, hoi, hwu, Int.toNat_natCast]) h)))))
      cases r1 with
      | true =>
       refine ⟨true, b1.set v u, o1.set u v, t1, E1 (Ev.bind e1 (Ev.to (fun k => by rw [if_pos rfl]) (Ev.const (by rw [Int.toNat_natCast])))), E2 (Ev.bind e2' (Ev.to (fun k => by rw [if_pos rfl, if_pos hv0.1, if_pos hvb]) (Ev.const (by rw [Int.toNat_natCast, Int.toNat_natCast])))), l1, fun y hy => s1 y (hset y hy), by omega, (fun h => Bool.noConfusion h), fun _ => got_step hP hv hlt hi ht hb hs hoi huv2 (g1 rfl)⟩
      | false =>
       obtain ⟨rfl, rfl⟩ := f1 rfl
       obtain ⟨r, b', o', t', h1, h2, h3⟩ := cont t1 l1 (fun y hy => s1 y (hset y hy)) (by omega)
       exact ⟨r, b', o', t', E1 (Ev.bind e1 (Ev.to (fun k => if_neg Bool.false_ne_true) h1)), E2 (Ev.bind e2' (Ev.to (fun k => if_neg Bool.false_ne_true) h2)), h3⟩
 ·
  obtain rfl : u = s.length := by omega
  exact ⟨false, b, o, t, Ev.succ (fun k => by simp only [putL]; rw [if_pos hv0, if_neg (by omega)]) (Ev.const rfl), Ev.succ (fun k => by simp only [spec_cnGet.l0]; rw [if_neg (by omega)]) (Ev.const rfl), ht, fun _ h => h, Nat.le_refl _, fun _ => ⟨rfl, rfl⟩, (fun h => Bool.noConfusion h)⟩
termination_by (m, d)

-- HAND with impl.part+impl.followers$1
theorem partV_le {x y : Int} (hx : 0 ≤ x ∧ x < 128) (hy : 0 ≤ y ∧ y < 128) (h : partV x y = true) : x ≤ y := by
  unfold partV at h
  rw [beq_iff_eq] at h
  obtain ⟨a, ha⟩ := Int.eq_ofNat_of_zero_le hx.1
  obtain ⟨b, hb⟩ := Int.eq_ofNat_of_zero_le hy.1
  subst ha
  subst hb
  rw [bits_nd a b (by omega) (by omega)] at h
  have h0 : nd a b = 0 := by exact_mod_cast h
  have h1 : a &&& b = a := by
    apply Nat.eq_of_testBit_eq
    intro i
    have := congrArg (fun z => z.testBit i) h0
    simp only [nd_testBit, Nat.zero_testBit] at this
    rw [Nat.testBit_and]
    cases ea : a.testBit i <;> cases eb : b.testBit i <;> simp_all
  have h2 : a &&& b ≤ b := Nat.and_le_right
  omega
theorem parts_up {s : List Int} (hr : Rise s) (hM : ∀ x ∈ s, 0 ≤ x ∧ x < 128) : ∀ x y : Nat, x < s.length → y < s.length → x ≠ y → partV (rd s x) (rd s y) = true → x < y := by
  intro x y hx hy hne h
  have h1 := partV_le (hM _ (rd_mem (by omega) (by omega))) (hM _ (rd_mem (by omega) (by omega))) h
  rcases Nat.lt_or_ge x y with h2 | h2
  · exact h2
  · have := hr y x (by omega) hx
    omega

-- HAND impl_followers: function 122
/-- Each is put once: so many are still to go, from one on. -/
def folL (s : List Int) (k : Nat) : Nat → Int → List Int → Option (List Int)
 | 0, _, o => some o
 | m + 1, v, o => (putL s k (List.replicate s.length false) o v 0).bind fun r => folL s k m (v + 1) r.2.2
def impl_followers.f (k : Nat) (s : List Int) : Option (List Int) := if s.length ≤ 1024 then folL s k s.length 0 (List.replicate s.length (-1)) else none
theorem putL_mono (s : List Int) : ∀ (k : Nat) (t : List Bool) (o : List Int) (v u : Int), LeO (putL s k t o v u) (putL s (k + 1) t o v u)
 | 0, t, o, v, u => LeO.none _
 | k + 1, t, o, v, u => by
  rw [putL, putL]
  refine LeO.ite (LeO.ite (LeO.ite (putL_mono s k _ _ _ _) (LeO.ite (putL_mono s k _ _ _ _) (LeO.ite (putL_mono s k _ _ _ _) (LeO.ite (LeO.refl _) (LeO.bind (putL_mono s k _ _ _ _) fun r => LeO.ite (LeO.refl _) (putL_mono s k _ _ _ _)))))) (LeO.refl _)) (LeO.refl _)
theorem folL_mono (s : List Int) (k : Nat) : ∀ (m : Nat) (v : Int) (o : List Int), LeO (folL s k m v o) (folL s (k + 1) m v o)
 | 0, _, _ => LeO.refl _
 | m + 1, v, o => LeO.bind (putL_mono s k _ _ _ _) fun r => folL_mono s k m _ _
theorem impl_followers.mono (y0 : List Int) (k : Nat) : LeO (impl_followers.f k y0) (impl_followers.f (k + 1) y0) := by
 unfold impl_followers.f
 exact LeO.ite (folL_mono _ _ _ _ _) (LeO.refl _)
theorem R_var {α : Type} {d : Kd α} {e tp base i g : Nat} {W : World} {v : Value} {xs : List α} {cs : Array Value} (h : Kd.R d e W base (fun _ => True) v xs) (hE : d.E = []) (hb : W.heap[g]? = some (.cells cs tp (0, 0))) (ht : e ≠ tp) (u : Value) : Kd.R d e (W.setCell ⟨g, i, none⟩ u) base (fun _ => True) v xs :=
 Kd.R_mono (Kd.R_far (p := ⟨g, i, none⟩) (Kd.R_tight hE h) (fun k hk e1 => Kd.R_ne h hb ht (by rw [show g = k from e1.symm]; exact hk)) u) (fun _ _ => trivial)
/-- What the loop keeps: the two variables in memory, the row of what follows. -/
structure FolS (w W : World) (g1 g3 : Nat) (A : Option Addr) (c : Nat) (s : List Int) (A3 : Option Addr) (c3 : Nat) (o : List Int) : Prop where
 bel : Below w.heap.size w W
 b1 : W.heap[g1]? = some (.cells #[.slice A s.length c] 22 (0, 0))
 b3 : W.heap[g3]? = some (.cells #[.slice A3 s.length c3] 22 (0, 0))
 ne : g1 ≠ g3
 ge1 : w.heap.size ≤ g1
 ge3 : w.heap.size ≤ g3
 ro : Kd.R (Kd.int .i64) 3 W w.heap.size (fun _ => True) (.slice A3 s.length c3) o
theorem FolS.below {w W W2 : World} {g1 g3 c c3 : Nat} {A A3 : Option Addr} {s o : List Int} (h : FolS w W g1 g3 A c s A3 c3 o) (hb : Below W.heap.size W W2) : FolS w W2 g1 g3 A c s A3 c3 o :=
 ⟨below_step h.bel hb, blk_below h.b1 hb, blk_below h.b3 hb, h.ne, h.ge1, h.ge3, Kd.R_below h.ro hb⟩
theorem R_addr {α : Type} {d : Kd α} {e base n c : Nat} {ok : Nat → Prop} {W : World} {A : Option Addr} {xs : List α} (h : Kd.R d e W base ok (.slice A n c) xs) (hn : 0 < xs.length) : ∃ b, A = some ⟨b, 0, none⟩ := by
 obtain ⟨b, cb, e, _⟩ := Kd.R_form h hn
 injection e with e1
 exact ⟨b, e1⟩
theorem two_new (W : World) (o o' : Obj) : ((W.alloc o).alloc o').heap[W.heap.size + 1]? = some o' ∧ ((W.alloc o).alloc o').heap[W.heap.size]? = some o := by
 have h1 := blk_new (W.alloc o) o'
 rw [World.size_alloc] at h1
 exact ⟨h1, blk_alloc (blk_new W o) o'⟩
/-- Ahead of the closure's call (the walk stores a function value). -/
theorem fol_start {w W5 : World} {g1 g3 c c3 c5 b3 b5 : Nat} {A : Option Addr} {s o : List Int} (h : FolS w W5 g1 g3 A c s (some ⟨b3, 0, none⟩) c3 o) (h5 : Kd.R Kd.bool 4 W5 w.heap.size (fun _ => True) (.slice (some ⟨b5, 0, none⟩) s.length c5) (List.replicate s.length false)) :
  PutS w ((W5.alloc (.cells #[.slice (some ⟨b5, 0, none⟩) s.length c5] 131)).alloc (.cells #[.func (.func 138) #[] #[.pointer (some ⟨g1, 0, none⟩), .pointer (some ⟨W5.heap.size, 0, none⟩), .pointer (some ⟨g3, 0, none⟩), .pointer (some ⟨W5.heap.size + 1, 0, none⟩)]] 93)) g1 W5.heap.size g3 (W5.heap.size + 1) A c s b5 c5 b3 c3 (List.replicate s.length false) o := by
 have hb := below_alloc (below_alloc (Below.refl W5.heap.size W5) (.cells #[.slice (some ⟨b5, 0, none⟩) s.length c5] 131)) (.cells #[.func (.func 138) #[] #[.pointer (some ⟨g1, 0, none⟩), .pointer (some ⟨W5.heap.size, 0, none⟩), .pointer (some ⟨g3, 0, none⟩), .pointer (some ⟨W5.heap.size + 1, 0, none⟩)]] 93)
 have hf := h.below hb
 exact ⟨hf.bel, hf.b1, (two_new _ _ _).2, hf.b3, (two_new _ _ _).1, Kd.R_below h5 hb, hf.ro⟩
set_option maxHeartbeats 2000000 in
set_option maxRecDepth 100000 in
theorem impl_followers.calls (k : Nat) (A0 : Option Addr) (c0 : Nat) (l0 : List Int) (r : List Int) (w : World) (hr0 : Kd.C (Kd.int .i64) w A0 l0.length l0) (hc0 : l0.length ≤ c0) (h : impl_followers.f k l0 = some r) :
  Calls Try.prog 122 #[.slice A0 l0.length c0] w fun e w' => ∃ v0_ : Value, e = .returned (v0_) ∧ Kd.R (Kd.int .i64) 3 w' w.heap.size (fun _ => True) v0_ r ∧ Below w.heap.size w w' := by
 unfold impl_followers.f at h
 by_cases hn : l0.length ≤ 1024
 ·
  rw [if_pos hn] at h
  have H := asd h
  have HR0 := asd hr0
  have HC0 := asd hc0
  have HB := asd (Below.refl w.heap.size w)
  clear h hr0 hc0
  go_enter Try.func122, Try.ntmps122
  go_wp2_with (first | ((with_reducible refine gate_dst (N := 1) rfl ?_); refine box_event ?hg (N := 1) ?hd (cs := #[.slice A0 l0.length c0]) (t := 22) ?hr ?_; (case hd => rfl); (case hg => rfl); (case hr => first | (go_simp; done) | (go_simp; rfl)); intro g1 g1e W1 g1b W1b; have HB1 := asd (below_step (by repeat (first | exact HB.out | apply pw_below_drewN | apply below_drew1 | apply below_alloc)) W1b); have BK1 := asd g1b; have GE1 := asd ((by rw [g1e]; exact below_size (by repeat (first | exact HB.out | apply pw_below_drewN | apply below_drew1 | apply below_alloc))) : w.heap.size ≤ g1); have q1 : W1.cell? ⟨g1, 0, none⟩ = some (.slice A0 l0.length c0) := (blk_cell BK1.out 0).trans rfl; clear W1b g1b g1e) | ((with_reducible refine gate_dst (N := 7) rfl ?_); refine Kd.R_lit (Kd.int .i64) _ 3 ?hg (N := 7) ?hd (xs := ([-1] : List Int)) (inner := [.int .i64 (-1)]) (ok := fun _ => True) (okp := fun _ => True) ?hr ?hp (fun _ hk => hk) trivial (Below.refl _ _) (Nat.le_refl _) (by simp) ?_; (case hd => rfl); (case hg => rfl); (case hr => first | (go_simp; done) | (go_simp; rfl)); (case hp => exact (Reps.one (show Kd.M (Kd.int .i64) _ _ _ (-1) [.int .i64 (-1)] from rfl) (Reps.none _ _))); intro v7 W2 hR7 hb7 hg7 hn7; have HB2 := asd (below_step HB1.out hb7); have BK12 := asd (blk_below BK1.out hb7); obtain ⟨A7, c7, e7, hc7, hC7⟩ := Kd.R_reads hR7; subst e7; have HC7 := asd hc7; have HR7 := asd hC7; have q2 : W2.cell? ⟨g1, 0, none⟩ = some (.slice A0 l0.length c0) := (blk_cell BK12.out 0).trans rfl; clear hR7 hb7 hg7 hn7 hc7 hC7 q1) | (go_at_call 137; (refine (slices_Repeat_int_int.calls A7 c7 (-1) l0.length W2 HR7.out HC7.out hn).mono ?_); rintro e W3 ⟨v3, rfl, hR3, hb3⟩; have HR3 := asd (Kd.R_lower hR3 (below_size HB2.out)); have HB3 := asd (below_step HB2.out hb3); have BK13 := asd (blk_below BK12.out hb3); obtain ⟨A3, c3, e3⟩ := Kd.R_slice hR3; rw [List.length_replicate] at e3; subst e3; clear hR3 hb3 q2) | ((with_reducible refine gate_dst (N := 3) rfl ?_); refine box_event ?hg (N := 3) ?hd (cs := #[.slice none 0 0]) (t := 22) ?hr ?_; (case hd => rfl); (case hg => rfl); (case hr => first | (go_simp; done) | (go_simp; rfl)); intro g3 g3e W4 g3b W4b; have HB4 := asd (below_step (by repeat (first | exact HB3.out | apply pw_below_drewN | apply below_drew1 | apply below_alloc)) W4b); have BK3 := asd g3b; have GE3 := asd ((by rw [g3e]; exact below_size (by repeat (first | exact HB3.out | apply pw_below_drewN | apply below_drew1 | apply below_alloc))) : w.heap.size ≤ g3); have hne : g1 ≠ g3 := (by have := blk_lt BK13.out; omega); have BK14 := asd (blk_below BK13.out W4b); have HR4 := asd (Kd.R_below HR3.out W4b); have hc3 : W4.cell? ⟨g3, 0, none⟩ = some (.slice none 0 0) := (blk_cell BK3.out 0).trans rfl; have hf3 : W4.frozen? ⟨g3, 0, none⟩ = false := blk_frozen BK3.out 0; have HF := asd (⟨below_set HB4.out GE3.out, blk_far BK14.out (p := ⟨g3, 0, none⟩) hne _, blk_put BK3.out 0 _ rfl, hne, GE1.out, GE3.out, R_var HR4.out rfl BK3.out (by decide) _⟩ : FolS w (W4.setCell ⟨g3, 0, none⟩ (.slice A3 l0.length c3)) g1 g3 A0 c0 l0 A3 c3 (List.replicate l0.length (-1))); have q4 := (blk_cell HF.out.b1 0).trans rfl; clear W4b g3b g3e))
  clear hc3 hf3 q4 HB1 BK1 HB2 BK12 HC7 HR7 HB3 BK13 HR3 BK3 BK14 HR4 HB4 GE1 GE3
  go_loopg [13] l0.length (fun kq v13 wr => ∃ (j : Nat) (o : List Int), v13 = .int .i64 (j : Int) ∧ Aside0 (j + kq = l0.length) ∧ Aside0 (folL l0 k kq (j : Int) o = some r) ∧ Aside0 (FolS w wr g1 g3 A0 c0 l0 A3 c3 o))
  case atStart => exact ⟨0, _, rfl, ⟨by omega⟩, H, HF⟩
  case round =>
   clear H HF
   obtain ⟨j, o, rfl, hj, H, HF⟩ := hrel
   have hjl := hj.out
   cases gk with
   | zero =>
    obtain rfl : j = l0.length := by omega
    have hlt : ¬ (l0.length : Int) < (l0.length : Int) := by omega
    obtain rfl : o = r := Option.some.inj H.out
    have q3 : wr.cell? ⟨g3, 0, none⟩ = some (.slice A3 l0.length c3) := (blk_cell HF.out.b3 0).trans rfl
    go_wp2
    go_ret
    exact ⟨_, rfl, HF.out.ro, HF.out.bel⟩
   | succ kn =>
    have hlt : (j : Int) < (l0.length : Int) := by omega
    obtain ⟨⟨r1, t1, o1⟩, hp, hf⟩ := Option.bind_eq_some_iff.1 H.out
    have HP := asd hp
    have HN := asd hf
    clear H hp hf
    have q1 : wr.cell? ⟨g1, 0, none⟩ = some (.slice A0 l0.length c0) := (blk_cell HF.out.b1 0).trans rfl
    have hz5 : List.replicate (l0.length : Int).toNat false = List.replicate l0.length false := by rw [Int.toNat_natCast]
    have HZ5 := asd hz5
    clear hz5
    go_wp2_with (first | ((with_reducible refine gate_dst (N := 18) rfl ?_); refine Kd.R_make Kd.bool _ 4 rfl (N := 18) rfl 131 _ _ rfl (l0.length : Int) rfl rfl Try.underlying131 (.bool false) 1 info4 rfl (by decide) (by omega) false (ok := fun _ => True) (okp := fun _ => True) rfl (fun _ hk => hk) trivial (by omega) (by omega) (Below.refl _ _) (Nat.le_refl _) ?_; intro v18 W5 hR5 hb5 hg5 hn5; rw [HZ5.out] at hR5; have HR5 := asd (Kd.R_lower hR5 (below_size HF.out.bel)); have HF5 := asd (HF.out.below hb5); obtain ⟨A5, c5, e5⟩ := Kd.R_slice hR5; rw [List.length_replicate] at e5; subst e5; obtain ⟨b5, eb5⟩ := R_addr hR5 (by rw [List.length_replicate]; omega); subst eb5; obtain ⟨b3, eb3⟩ := R_addr HF.out.ro (by have := (Kd.R_reads' HF.out.ro).1; omega); subst eb3; clear hR5 hb5 hg5 hn5 q1) | (go_at_call 138; (refine (impl_followers_1.calls A0 c0 l0 g1 W5.heap.size g3 (W5.heap.size + 1) b5 c5 b3 c3 w HR0.out HC0.out k (List.replicate l0.length false) o (j : Int) r1 t1 o1 _ (fol_start HF5.out HR5.out) HP.out).mono ?_); rintro e W7 ⟨rfl, hS7⟩; have HF7 := asd (⟨hS7.bel, hS7.b1, hS7.b3, HF5.out.ne, HF5.out.ge1, HF5.out.ge3, hS7.ro⟩ : FolS w W7 g1 g3 A0 c0 l0 (some ⟨b3, 0, none⟩) c3 o1); clear hS7))
    go_roundg kn
    case measure => exact Nat.le_refl _
    case rel => exact ⟨j + 1, o1, by first | rfl | go_num, ⟨by omega⟩, HN, HF7⟩
 ·
  rw [if_neg hn] at h
  cases h

-- HAND with impl.followers+impl.followers$1+spec.cnMatch+spec.cnGet+spec.cnParts+slices.Repeat[[]int,int]
theorem match_fill {s : List Int} (hsz : s.length < 1048577) {r : List Int} (h : Ev (fun k => spec_cnMatch.l1 k s (List.replicate s.length (-1)) (List.replicate s.length (-1)) s.length 0) r) : ∀ (d i : Nat), s.length - i = d → i ≤ s.length → Ev (fun k => spec_cnMatch.l0 k s (repL (-1) s.length i) (repL (-1) s.length i) s.length i) r
  | 0, i, hd, hi => by
    obtain rfl : i = s.length := by omega
    exact Ev.succ (fun k => by simp only [spec_cnMatch.l0]; rw [if_neg (by omega), repL_all]) h
  | d + 1, i, hd, hi => by
    have hn := match_fill hsz h d (i + 1) (by omega) (by omega)
    push_cast at hn
    have hws : wrap64 ((i : Int) + 1) = i + 1 := wrap_succ (by omega) (by omega)
    have hl := repL_len (-1) hi
    exact Ev.succ (fun k => by simp only [spec_cnMatch.l0]; rw [if_pos (by omega), if_pos (by omega), if_pos (by rw [hl]; omega), if_pos (by rw [hl]; omega), hws, Int.toNat_natCast, repL_set (-1) (by omega)]) hn
theorem top_ok {s : List Int} (hsz : s.length < 1048577) (hup : ∀ x y : Nat, x < s.length → y < s.length → x ≠ y → partV (rd s x) (rd s y) = true → x < y) : ∀ (d i : Nat) (b o : List Int), s.length - i = d → i ≤ s.length → Pair s.length b o → (∀ x : Nat, i ≤ x → x < s.length → rd b x < 0) → cntP b = cntP o →
    ∃ b' o' : List Int, Ev (fun k => folL s k d i o) o' ∧ Ev (fun k => spec_cnMatch.l1 k s b o s.length i) b' ∧ Pair s.length b' o' ∧ cntP b' = cntP o'
  | 0, i, b, o, hd, hi, hP, hb, hc => ⟨b, o, Ev.const rfl, Ev.succ (fun k => by simp only [spec_cnMatch.l1]; rw [if_neg (by omega)]) (Ev.const rfl), hP, hc⟩
  | d + 1, i, b, o, hd, hi, hP, hb, hc => by
    have hlt : i < s.length := by omega
    have hbi := hb i (Nat.le_refl _) hlt
    have hws : wrap64 ((i : Int) + 1) = i + 1 := wrap_succ (by omega) (by omega)
    obtain ⟨r, b1, o1, t1, e1, e2, _, _, _, hF, hT⟩ := put_ok hsz hup (unT (List.replicate s.length false)) s.length b o (List.replicate s.length false) 0 i hP List.length_replicate hlt (fun h => absurd hbi (by omega)) (Nat.le_refl _) (by omega) (Nat.zero_le _)
    have key : Pair s.length b1 o1 ∧ (∀ x : Nat, i + 1 ≤ x → x < s.length → rd b1 x < 0) ∧ cntP b1 = cntP o1 := by
      cases r with
      | false =>
        obtain ⟨rfl, rfl⟩ := hF rfl
        exact ⟨hP, fun x hx hx2 => hb x (by omega) hx2, hc⟩
      | true =>
        have G := hT rfl
        refine ⟨⟨G.lb, G.lo, G.rb, G.ro, fun x y hx hy => G.bo x y hx hy (by omega), G.up⟩, fun x hx hx2 => ?_, ?_⟩
        · rw [G.keep x hx2 (by omega) (.inl (hb x (by omega) hx2))]
          exact hb x (by omega) hx2
        · rw [G.cb, G.co, if_pos hbi, hc]
    obtain ⟨b2, o2, f1, f2, hP2, hc2⟩ := top_ok hsz hup d (i + 1) b1 o1 (by omega) (by omega) key.1 key.2.1 key.2.2
    push_cast at f1 f2
    refine ⟨b2, o2, Ev.bind e1 f1, Ev.succ (fun k => by simp only [spec_cnMatch.l1]; rw [if_pos (by omega), if_pos (by omega), if_pos (by omega), Int.toNat_natCast, hws]) (Ev.bind (Ev.succ (fun k => by simp only [spec_cnGet.f]; rfl) e2) f2), hP2, hc2⟩
theorem rd_rep (n x : Nat) (h : x < n) (v : Int) : rd (List.replicate n v) (x : Int) = v := by
  rw [rd_get (by rw [List.length_replicate]; exact h), List.getElem_replicate]
theorem match_ok {s : List Int} (hlen : s.length ≤ 1024) (hup : ∀ x y : Nat, x < s.length → y < s.length → x ≠ y → partV (rd s x) (rd s y) = true → x < y) :
    ∃ b o : List Int, Ev (fun k => impl_followers.f k s) o ∧ Ev (fun k => spec_cnMatch.f k s) b ∧ Pair s.length b o ∧ cntP b = cntP o := by
  have hr := fun (x : Nat) (hx : x < s.length) => rd_rep s.length x hx (-1)
  obtain ⟨b, o, f1, f2, hP, hc⟩ := top_ok (s := s) (by omega) hup s.length 0 (List.replicate s.length (-1)) (List.replicate s.length (-1)) (by omega) (Nat.zero_le _) ⟨List.length_replicate, List.length_replicate, fun x hx => by rw [hr x hx]; omega, fun x hx => by rw [hr x hx]; omega, fun x y hx hy => by rw [hr x hx, hr y hy]; constructor <;> (intro h; omega), fun y hy h => by rw [hr y hy] at h; omega⟩ (fun x _ hx => by rw [hr x hx]; decide) rfl
  refine ⟨b, o, ?_, ?_, hP, hc⟩
  · unfold impl_followers.f
    exact Ev.to (fun k => by rw [if_pos hlen]; rfl) f1
  · unfold spec_cnMatch.f
    have := match_fill (s := s) (by omega) (r := b) f2 s.length 0 (by omega) (Nat.zero_le _)
    exact Ev.to (fun k => by rw [if_pos (by omega), if_pos (by omega), Int.toNat_natCast]; rfl) this

-- HAND with impl.followers+impl.followers$1+spec.cnMatch+impl.part
/-- The paths of a space: both match them alike. -/
theorem pathsMatch {n : Int} {l : List Int} (hS : isSpaceB n l = true) : (pathsL (famOf l) l).length ≤ 1024 ∧ ∃ b o : List Int, Ev (fun k => impl_followers.f k (pathsL (famOf l) l)) o ∧ Ev (fun k => spec_cnMatch.f k (pathsL (famOf l) l)) b ∧ Pair (pathsL (famOf l) l).length b o ∧ cntP b = cntP o := by
  have hr := risingB_rise (isSpaceB_parts hS).2.2.2.1
  have hll := isSpaceB_len hS
  have hPl : (pathsL (famOf l) l).length ≤ 1024 := Nat.le_trans (List.length_filter_le _ _) (by omega)
  exact ⟨hPl, match_ok hPl (parts_up (paths_rise hr) (fun x hx => isSpaceB_128 hS x (pathsL_mem hx).1))⟩

-- HAND with impl.followers$1+impl.part+impl.followers
/-- What follows has what it follows. -/
def UpP (s o : List Int) : Prop := ∀ y : Nat, y < o.length → 0 ≤ rd o (y : Int) → partV (rd s y) (rd s (rd o y)) = true
theorem upP_set {s o : List Int} (h : UpP s o) {u v : Int} (hu : 0 ≤ u) (hp : partV (rd s u) (rd s v) = true) : UpP s (o.set u.toNat v) := by
  intro y hl2 hy
  rw [List.length_set] at hl2
  by_cases hl : u.toNat < o.length
  · rw [rd_set o hl] at hy ⊢
    by_cases e : u.toNat = y
    · rw [if_pos e] at hy ⊢
      have e2 : (y : Int) = u := by omega
      rw [e2]
      exact hp
    · rw [if_neg e] at hy ⊢
      exact h y hl2 hy
  · rw [List.set_eq_of_length_le (by omega)] at hy ⊢
    exact h y hl2 hy
theorem putL_part (s : List Int) : ∀ (k : Nat) (t : List Bool) (o : List Int) (v u : Int) (r : Bool × List Bool × List Int), 0 ≤ u → UpP s o → putL s k t o v u = some r → UpP s r.2.2
  | 0, t, o, v, u, r, _, _, h => by simp [putL] at h
  | k + 1, t, o, v, u, r, hu, ho, h => by
    unfold putL at h
    split at h
    · split at h
      · split at h
        · exact putL_part s k _ _ _ _ _ (by omega) ho h
        · split at h
          · exact putL_part s k _ _ _ _ _ (by omega) ho h
          · rename_i hp
            have hp : partV (rd s u) (rd s v) = true := by
              cases e : partV (rd s u) (rd s v)
              · exact absurd e hp
              · rfl
            split at h
            · exact putL_part s k _ _ _ _ _ (by omega) ho h
            · split at h
              · obtain rfl := Option.some.inj h
                exact upP_set ho hu hp
              · obtain ⟨r1, h1, h2⟩ := Option.bind_eq_some_iff.1 h
                have i1 := putL_part s k _ _ _ _ _ (by omega) ho h1
                split at h2
                · obtain rfl := Option.some.inj h2
                  exact upP_set i1 hu hp
                · exact putL_part s k _ _ _ _ _ (by omega) i1 h2
      · obtain rfl := Option.some.inj h
        exact ho
    · cases h
theorem folL_part (s : List Int) (k : Nat) : ∀ (m : Nat) (v : Int) (o r : List Int), UpP s o → folL s k m v o = some r → UpP s r
  | 0, _, o, r, ho, h => by rw [← show o = r from Option.some.inj h]; exact ho
  | m + 1, v, o, r, ho, h => by
    obtain ⟨r1, h1, h2⟩ := Option.bind_eq_some_iff.1 h
    exact folL_part s k m _ _ _ (putL_part s k _ _ _ _ _ (Int.le_refl 0) ho h1) h2
theorem followers_part {s o : List Int} (h : Ev (fun k => impl_followers.f k s) o) : UpP s o := by
  obtain ⟨k0, h0⟩ := h
  have h1 := h0 k0 (Nat.le_refl _)
  unfold impl_followers.f at h1
  split at h1
  · refine folL_part s _ _ _ _ _ ?_ h1
    intro y hl hy
    rw [rd_get hl, List.getElem_replicate] at hy
    exact absurd hy (by decide)
  · cases h1

-- HAND with impl.followers$1+impl.part+impl.followers
/-- What is closed: each has what follows it, and all that this may follow are told, too. -/
def ClosedT (s : List Int) (T : Int → Prop) (o : List Int) : Prop := ∀ y : Int, 0 ≤ y → y < s.length → T y → 0 ≤ rd o y ∧ ∀ z : Int, 0 ≤ z → z < s.length → z ≠ rd o y → partV (rd s z) (rd s (rd o y)) = true → T z
structure PutOk (s : List Int) (T : Int → Prop) (t : List Bool) (o : List Int) (v u : Int) (r : Bool) (t' : List Bool) (o' : List Int) : Prop where
 up : ∀ y : Int, 0 ≤ y → y < s.length → rdOf false t y = true → rdOf false t' y = true
 no : r = false → o' = o
 seen : ∀ y : Int, 0 ≤ y → y < s.length → rdOf false t y = true → rd o' y = rd o y
 got : r = true → ∃ y : Int, 0 ≤ y ∧ y < s.length ∧ ¬ rdOf false t y = true ∧ rd o' y = v
 kept : ∀ x : Int, 0 ≤ x → (∃ y : Int, 0 ≤ y ∧ y < s.length ∧ rd o y = x) → ∃ y : Int, 0 ≤ y ∧ y < s.length ∧ rd o' y = x
 all : r = false → ∀ y : Int, u ≤ y → y < s.length → y ≠ v → partV (rd s y) (rd s v) = true → rdOf false t' y = true
 clo : r = false → ∀ y : Int, 0 ≤ y → y < s.length → rdOf false t' y = true → rdOf false t y = true ∨ (0 ≤ rd o y ∧ ∀ z : Int, 0 ≤ z → z < s.length → z ≠ rd o y → partV (rd s z) (rd s (rd o y)) = true → rdOf false t' z = true)
 far : ClosedT s T o → ∀ y : Int, 0 ≤ y → y < s.length → T y → rd o' y = rd o y
 stuck : ClosedT s T o → (∀ z : Int, 0 ≤ z → z < s.length → z ≠ v → partV (rd s z) (rd s v) = true → T z) → r = false
theorem rdI_set {l : List Int} {u y v : Int} (hu : 0 ≤ u) (hul : u < l.length) (hy : 0 ≤ y) : rd (l.set u.toNat v) y = if u = y then v else rd l y := by
 have h := rd_set l (i := u.toNat) (by omega) v y.toNat
 rw [show ((y.toNat : Nat) : Int) = y by omega] at h
 rw [h]
 by_cases e : u = y
 ·
  rw [if_pos e, if_pos (by omega)]
 ·
  rw [if_neg e, if_neg (by omega)]
theorem rdB_set {l : List Bool} {u y : Int} (hu : 0 ≤ u) (hul : u < l.length) (hy : 0 ≤ y) : rdOf false (l.set u.toNat true) y = if u = y then true else rdOf false l y := by
 have h := tset l (i := u.toNat) (by omega) y.toNat
 rw [show ((y.toNat : Nat) : Int) = y by omega] at h
 rw [h]
 by_cases e : u = y
 ·
  rw [if_pos e, if_pos (by omega)]
 ·
  rw [if_neg e, if_neg (by omega)]
theorem PutOk.next {s : List Int} {T : Int → Prop} {t : List Bool} {o : List Int} {v u : Int} {r : Bool} {t' : List Bool} {o' : List Int} (h : PutOk s T t o v (u + 1) r t' o') (hu : u = v ∨ partV (rd s u) (rd s v) = false ∨ rdOf false t u = true) (hu0 : 0 ≤ u) (hul : u < s.length) : PutOk s T t o v u r t' o' :=
 ⟨h.up, h.no, h.seen, h.got, h.kept, fun hr y hy hyl hne hp => by
  by_cases e : y = u
  ·
   rw [e] at hne hp ⊢
   rcases hu with h1 | h1 | h1
   ·
    exact absurd h1 hne
   ·
    rw [hp] at h1; cases h1
   ·
    exact h.up u hu0 hul h1
  ·
   exact h.all hr y (by omega) hyl hne hp, h.clo, h.far, h.stuck⟩
theorem putL_all (s : List Int) (T : Int → Prop) : ∀ (k : Nat) (t : List Bool) (o : List Int) (v u : Int) (r : Bool × List Bool × List Int), t.length = s.length → o.length = s.length → 0 ≤ u → putL s k t o v u = some r → PutOk s T t o v u r.1 r.2.1 r.2.2
 | 0, t, o, v, u, r, _, _, _, h => by simp [putL] at h
 | k + 1, t, o, v, u, r, ht, ho, hu, h => by
  unfold putL at h
  split at h
  ·
   rename_i hv
   split at h
   ·
    rename_i hul
    split at h
    ·
     rename_i e
     exact (putL_all s T k _ _ _ _ _ ht ho (by omega) h).next (.inl e) hu hul
    ·
     rename_i huv
     split at h
     ·
      rename_i e
      exact (putL_all s T k _ _ _ _ _ ht ho (by omega) h).next (.inr (.inl e)) hu hul
     ·
      rename_i hp
      have hp : partV (rd s u) (rd s v) = true := by
       cases e : partV (rd s u) (rd s v)
       ·
        exact absurd e hp
       ·
        rfl
      split at h
      ·
       rename_i e
       exact (putL_all s T k _ _ _ _ _ ht ho (by omega) h).next (.inr (.inr e)) hu hul
      ·
       rename_i htu
       have hst := fun (y : Int) (hy : 0 ≤ y) => rdB_set (l := t) hu (by omega) hy
       split at h
       ·
        rename_i hfree
        obtain rfl := Option.some.inj h
        have hso := fun (y : Int) (hy : 0 ≤ y) => rdI_set (l := o) (v := v) hu (by omega) hy
        refine ⟨fun y hy hyl hty => ?_, fun hr => (by cases hr), fun y hy hyl hty => ?_, fun _ => ⟨u, hu, hul, htu, ?_⟩, fun x hx hex => ?_, fun hr => (by cases hr), fun hr => (by cases hr), fun hc y hy hyl hTy => ?_, fun hc hn => ?_⟩
        ·
         rw [hst y hy, hty]; split <;> rfl
        ·
         rw [hso y hy, if_neg]
         rintro rfl
         exact htu hty
        ·
         rw [hso u hu, if_pos rfl]
        ·
         obtain ⟨y, hy, hyl, e⟩ := hex
         refine ⟨y, hy, hyl, ?_⟩
         rw [hso y hy, if_neg]
         ·
          exact e
         ·
          rintro rfl
          omega
        ·
         rw [hso y hy, if_neg]
         rintro rfl
         have := (hc u hy hyl hTy).1
         omega
        ·
         have := (hc u hu hul (hn u hu hul huv hp)).1
         omega
       ·
        rename_i hfree
        obtain ⟨r1, h1, h2⟩ := Option.bind_eq_some_iff.1 h
        have hl1 := putL_len s k _ _ _ _ _ h1
        have I1 := putL_all s T k _ _ _ _ _ (by rw [List.length_set]; exact ht) ho (Int.le_refl 0) h1
        have hmark : rdOf false (t.set u.toNat true) u = true := by rw [hst u hu, if_pos rfl]
        have hu1 := I1.seen u hu hul hmark
        have hTstuck : ClosedT s T o → T u → r1.1 = false := fun hc hTu => I1.stuck hc (hc u hu hul hTu).2
        split at h2
        ·
         rename_i hr1
         obtain rfl := Option.some.inj h2
         have hso := fun (y : Int) (hy : 0 ≤ y) => rdI_set (l := r1.2.2) (v := v) hu (by rw [hl1.2]; omega) hy
         refine ⟨fun y hy hyl hty => I1.up y hy hyl (by rw [hst y hy, hty]; split <;> rfl), fun hr => (by cases hr), fun y hy hyl hty => ?_, fun _ => ⟨u, hu, hul, htu, ?_⟩, fun x hx hex => ?_, fun hr => (by cases hr), fun hr => (by cases hr), fun hc y hy hyl hTy => ?_, fun hc hn => ?_⟩
         ·
          rw [hso y hy, if_neg]
          ·
           exact I1.seen y hy hyl (by rw [hst y hy, hty]; split <;> rfl)
          ·
           rintro rfl
           exact htu hty
         ·
          rw [hso u hu, if_pos rfl]
         ·
          obtain ⟨y, hy, hyl, e⟩ := I1.kept x hx hex
          by_cases euy : u = y
          ·
           subst euy
           obtain ⟨y1, hy1, hyl1, hny1, e1⟩ := I1.got hr1
           have hne : u ≠ y1 := by
            rintro rfl
            exact hny1 hmark
           refine ⟨y1, hy1, hyl1, ?_⟩
           rw [hso y1 hy1, if_neg hne, e1, ← hu1, e]
          ·
           refine ⟨y, hy, hyl, ?_⟩
           rw [hso y hy, if_neg euy, e]
         ·
          rw [hso y hy, if_neg]
          ·
           exact I1.far hc y hy hyl hTy
          ·
           rintro rfl
           have := hTstuck hc hTy
           rw [hr1] at this
           cases this
         ·
          have := hTstuck hc (hn u hu hul huv hp)
          rw [hr1] at this
          cases this
        ·
         rename_i hr1
         have hr1 : r1.1 = false := by
          cases e : r1.1
          ·
           rfl
          ·
           exact absurd e hr1
         have ho1 := I1.no hr1
         rw [ho1] at h2
         have I2 := putL_all s T k _ _ _ _ _ (by rw [hl1.1, List.length_set]; exact ht) ho (by omega) h2
         have hup1 : ∀ y : Int, 0 ≤ y → y < s.length → rdOf false t y = true → rdOf false r1.2.1 y = true := fun y hy hyl hty => I1.up y hy hyl (by rw [hst y hy, hty]; split <;> rfl)
         refine ⟨fun y hy hyl hty => I2.up y hy hyl (hup1 y hy hyl hty), I2.no, fun y hy hyl hty => I2.seen y hy hyl (hup1 y hy hyl hty), fun hr => ?_, I2.kept, fun hr y hy hyl hne hpy => ?_, fun hr y hy hyl hty => ?_, I2.far, I2.stuck⟩
         ·
          obtain ⟨y, hy, hyl, hny, e⟩ := I2.got hr
          exact ⟨y, hy, hyl, fun hty => hny (hup1 y hy hyl hty), e⟩
         ·
          by_cases e : y = u
          ·
           rw [e]
           exact I2.up u hu hul (I1.up u hu hul hmark)
          ·
           exact I2.all hr y (by omega) hyl hne hpy
         ·
          rcases I2.clo hr y hy hyl hty with h3 | h3
          ·
           by_cases e : u = y
           ·
            subst e
            refine .inr ⟨by omega, fun z hz hzl hne hpz => I2.up z hz hzl (I1.all hr1 z hz hzl hne hpz)⟩
           ·
            rcases I1.clo hr1 y hy hyl h3 with h4 | h4
            ·
             rw [hst y hy, if_neg e] at h4
             exact .inl h4
            ·
             exact .inr ⟨h4.1, fun z hz hzl hne hpz => I2.up z hz hzl (h4.2 z hz hzl hne hpz)⟩
          ·
           exact .inr h3
   ·
    rename_i hul
    obtain rfl := Option.some.inj h
    exact ⟨fun _ _ _ h => h, fun _ => rfl, fun _ _ _ _ => rfl, fun hr => (by cases hr), fun _ _ h => h, fun _ y hy hyl => absurd hyl (by omega), fun _ y _ _ hty => .inl hty, fun _ _ _ _ _ => rfl, fun _ _ => rfl⟩
  ·
   cases h
/-- A closed set that has all that those without a place may follow. -/
def InvT (s o : List Int) (i : Int) : Prop := ∃ T : Int → Prop, ClosedT s T o ∧ ∀ v : Int, 0 ≤ v → v < i → (¬ ∃ y : Int, 0 ≤ y ∧ y < s.length ∧ rd o y = v) → ∀ z : Int, 0 ≤ z → z < s.length → z ≠ v → partV (rd s z) (rd s v) = true → T z
theorem folL_inv (s : List Int) (k : Nat) : ∀ (m : Nat) (v : Int) (o r : List Int), 0 ≤ v → o.length = s.length → InvT s o v → folL s k m v o = some r → InvT s r (v + m)
 | 0, v, o, r, _, _, hI, h => by rw [← show o = r from Option.some.inj h]; simpa using hI
 | m + 1, v, o, r, hv, ho, ⟨T, hC, hT⟩, h => by
  obtain ⟨r1, h1, h2⟩ := Option.bind_eq_some_iff.1 h
  have hl := putL_len s k _ _ _ _ _ h1
  have P := putL_all s T k _ _ _ _ _ List.length_replicate ho (Int.le_refl 0) h1
  have hfr : ∀ y : Int, 0 ≤ y → y < s.length → ¬ rdOf false (List.replicate s.length false) y = true := by
   intro y hy hyl
   unfold rdOf
   rw [List.getD_eq_getElem?_getD, List.getElem?_replicate, if_pos (by omega)]
   decide
  have key : InvT s r1.2.2 (v + 1) := by
   cases hr : r1.1 with
   | true =>
    refine ⟨T, fun y hy hyl hTy => ?_, fun x hx hxv hno z hz hzl hne hp => ?_⟩
    ·
     rw [P.far hC y hy hyl hTy]
     exact hC y hy hyl hTy
    ·
     by_cases e : x = v
     ·
      obtain ⟨y, hy, hyl, _, e2⟩ := P.got hr
      exact absurd ⟨y, hy, hyl, e2.trans e.symm⟩ hno
     ·
      exact hT x hx (by omega) (fun hex => hno (P.kept x hx hex)) z hz hzl hne hp
   | false =>
    have ho1 := P.no hr
    rw [ho1]
    refine ⟨fun y => T y ∨ rdOf false r1.2.1 y = true, fun y hy hyl hTy => ?_, fun x hx hxv hno z hz hzl hne hp => ?_⟩
    ·
     rcases hTy with hTy | hTy
     ·
      exact ⟨(hC y hy hyl hTy).1, fun z hz hzl hne hp => .inl ((hC y hy hyl hTy).2 z hz hzl hne hp)⟩
     ·
      rcases P.clo hr y hy hyl hTy with h3 | h3
      ·
       exact absurd h3 (hfr y hy hyl)
      ·
       exact ⟨h3.1, fun z hz hzl hne hp => .inr (h3.2 z hz hzl hne hp)⟩
    ·
     by_cases e : x = v
     ·
      rw [e] at hne hp
      exact .inr (P.all hr z hz hzl hne hp)
     ·
      exact .inl (hT x hx (by omega) hno z hz hzl hne hp)
  have := folL_inv s k m (v + 1) _ r (by omega) (by rw [hl.2]; exact ho) key h2
  rwa [show v + 1 + (m : Int) = v + ((m + 1 : Nat) : Int) by push_cast; omega] at this
theorem followers_inv {s o : List Int} (h : Ev (fun k => impl_followers.f k s) o) : InvT s o s.length := by
 obtain ⟨k0, h0⟩ := h
 have h1 := h0 k0 (Nat.le_refl _)
 unfold impl_followers.f at h1
 split at h1
 ·
  have := folL_inv s _ _ _ _ _ (Int.le_refl 0) List.length_replicate ⟨fun _ => False, fun _ _ _ h => h.elim, fun v h0 h1 => absurd h1 (by omega)⟩ h1
  rwa [Int.zero_add] at this
 ·
  cases h1

/-! ### impl_width: function 79 -/
def impl_width.l0 : Nat → Int → List Int → Int → Int → Option (Int)
 | 0, _, _, _, _ => none
 | k + 1, x3, x7, x8, x9 => if x9 < x8 then (if 0 ≤ x9 then (if x9 < (x7.length : Int) then (if (rd x7 x9) < 0 then (impl_width.l0 k (wrap64 (x3 + 1)) x7 x8 (wrap64 (x9 + 1))) else (impl_width.l0 k x3 x7 x8 (wrap64 (x9 + 1)))) else (none)) else (none)) else (some x3)
def impl_width.f (k : Nat) (l0 : List Int) : Option (Int) := (impl_followers.f k l0).bind fun t101 => (impl_width.l0 k 0 t101 (t101.length : Int) 0)
theorem impl_width.mono_l : ∀ k, (∀ y0 y1 y2 y3, LeO (impl_width.l0 k y0 y1 y2 y3) (impl_width.l0 (k + 1) y0 y1 y2 y3))
 | 0 => fun _ _ _ _ r h => by simp [impl_width.l0] at h
 | k + 1 => by
  have ih0 := impl_width.mono_l k
  ·
   intro y0 y1 y2 y3
   unfold impl_width.l0
   repeat' first
   | (with_reducible exact ih0 _ _ _ _)
   | (with_reducible exact impl_followers.mono _ _)
   | (with_reducible exact LeO.refl _)
   | (with_reducible exact LeO.none _)
   | (with_reducible refine LeO.ite ?_ ?_)
   | (with_reducible refine LeO.bind ?_ (fun _ => ?_))
   | exact ih0 _ _ _ _
   | exact impl_followers.mono _ _
   | exact LeO.none _
   | refine LeO.ite ?_ ?_
   | refine LeO.bind ?_ (fun _ => ?_)
theorem impl_width.mono : ∀ a0 k, LeO (impl_width.f k a0) (impl_width.f (k + 1) a0) := by
 intro a0 k
 have ih0 := impl_width.mono_l k
 unfold impl_width.f
 repeat' first
   | (with_reducible exact ih0 _ _ _ _)
   | (with_reducible exact impl_followers.mono _ _)
   | (with_reducible exact LeO.refl _)
   | (with_reducible exact LeO.none _)
   | (with_reducible refine LeO.ite ?_ ?_)
   | (with_reducible refine LeO.bind ?_ (fun _ => ?_))
   | exact ih0 _ _ _ _
   | exact impl_followers.mono _ _
   | exact LeO.none _
   | refine LeO.ite ?_ ?_
   | refine LeO.bind ?_ (fun _ => ?_)
set_option maxHeartbeats 8000000 in
set_option maxRecDepth 100000 in
theorem impl_width.calls (k : Nat) (A0 : Option Addr) (c0 : Nat) (l0 : List Int) (r : Int) (w : World) (hr0 : Kd.C (Kd.int .i64) w A0 l0.length l0) (hc0 : l0.length ≤ c0) (h : impl_width.f k l0 = some r) :
  Calls Try.prog 79 #[.slice A0 l0.length c0] w fun e w' => e = .returned (.int .i64 r) ∧ Below w.heap.size w w' := by
 have HR0 := asd hr0
 have HC0 := asd hc0
 clear hr0 hc0
 have HB := asd (Below.refl w.heap.size w)
 have H : ((impl_followers.f k l0).bind fun t101 => (impl_width.l0 k 0 t101 (t101.length : Int) 0)) = some r := h
 clear h
 replace H := Option.bind_eq_some_iff.mp H
 obtain ⟨t101, A20, H⟩ := H
 replace H : (impl_width.l0 k 0 t101 (t101.length : Int) 0) = some r := H
 have A2 := asd A20
 clear A20
 have H' := asd H
 clear H
 go_enter Try.func79, Try.ntmps79
 go_wp2_with (first | ((with_reducible refine gate_callee (f := 122) rfl ?_); refine goesL_ (some 7) rfl rfl Try.func122 (by kernel_rfl) rfl #[.slice A0 l0.length c0] rfl (by (try simp only [List.map_toArray, List.map_cons, List.map_nil]); first | done | rfl | (simp only [List.length_drop, List.length_take]; rfl)) ?_; (with_reducible refine (impl_followers.calls k _ _ l0 t101 _ ?side1 ?side2 A2.out).mono ?_); (case side1 => repeat (first | exact HR0.out | (with_reducible refine Kd.C_alloc ?_ _) | (with_reducible refine Kd.C_drewN ?_ _) | (with_reducible refine Kd.C_drew ?_))); (case side2 => exact HC0.out); rintro e w3 ⟨v102, rfl, ho0, hb⟩; refine ⟨_, rfl, ?_⟩; have n0_ := asd (Kd.R_lower ho0 (below_size (by repeat (first | (with_reducible first | exact HB.out | apply below_alloc | apply pw_below_drewN | apply below_drew1) | exact HB.out)))); have n1_ := asd (below_step (by repeat (first | (with_reducible first | exact HB.out | apply below_alloc | apply pw_below_drewN | apply below_drew1) | exact HB.out)) hb); clear HB; have HO103 := n0_; have HB := n1_; clear n0_ n1_; (try clear hb); (try clear hb2); (try clear hk); (try clear hi); (try clear ho0); obtain ⟨Ao4, co4, eo4⟩ := Kd.R_slice HO103.out; subst eo4))
 go_loopg [3, 9] k (fun kq v3 v9 w' => ∃ (x3_1 : Int) (x9_1 : Int), v3 = .int .i64 x3_1 ∧ v9 = .int .i64 x9_1 ∧ Aside0 (impl_width.l0 kq x3_1 t101 (t101.length : Int) x9_1 = some r) ∧ Aside0 (kq ≤ k) ∧ Aside0 (Kd.R (Kd.int .i64) 3 w' w.heap.size (fun _ => True) (.slice Ao4 t101.length co4) t101) ∧ Aside0 (Below w.heap.size w w'))
 case atStart => exact ⟨(0), (0), (by first | rfl | (simp; done) | (simp [*]; done)), (by first | rfl | (simp; done) | (simp [*]; done)), H', ⟨Nat.le_refl _⟩, ⟨by (with_reducible repeat (first | apply Kd.R_alloc | apply Kd.R_drewN | apply Kd.R_drew)); exact HO103.out⟩, ⟨by repeat (first | (with_reducible first | exact HB.out | apply below_alloc | apply pw_below_drewN | apply below_drew1) | exact HB.out)⟩⟩
 case round =>
  clear H'
  try clear c1
  try clear p2
  try clear HO_7; skip
  obtain ⟨x3_1, x9_1, rfl, rfl, HA, HK1, HO_7, HB⟩ := hrel
  cases gk with
  | zero => exact absurd HA.out (by simp [impl_width.l0])
  | succ k1 =>
   have H := HA.out
   clear HA
   simp only [impl_width.l0] at H
   by_cases c5 : x9_1 < (t101.length : Int)
   ·
    rw [if_pos c5] at H
    have c5b0 : decide (x9_1 < (t101.length : Int)) = true := decide_eq_true c5
    clear c5
    by_cases c6 : 0 ≤ x9_1
    ·
     rw [if_pos c6] at H
     have c6b0 : decide (0 ≤ x9_1) = true := decide_eq_true c6
     clear c6
     by_cases c7 : x9_1 < (t101.length : Int)
     ·
      rw [if_pos c7] at H
      have c7b0 : decide (x9_1 < (t101.length : Int)) = true := decide_eq_true c7
      clear c7
      by_cases c8 : (rd t101 x9_1) < 0
      ·
       rw [if_pos c8] at H
       have c8b0 : decide ((rd t101 x9_1) < 0) = true := decide_eq_true c8
       clear c8
       have H' := asd H
       clear H
       have p104 : 0 ≤ (x9_1 : Int) := of_decide_eq_true (by first | (with_reducible assumption) | assumption)
       have q104 : x9_1 < (t101.length : Int) := of_decide_eq_true (by first | (with_reducible assumption) | assumption)
       obtain ⟨ad104, e104, hx104_0⟩ := Kd.at_int (Kd.R_reads' HO_7.out).2.2 x9_1 p104 q104
       cases e104
       replace p104 := eq_true p104
       replace q104 := eq_true q104
       go_wp2
       go_roundg k1
       case measure => have := HK1.out; omega
       case rel => exact ⟨(wrap64 (x3_1 + 1)), (wrap64 (x9_1 + 1)), (by first | rfl | (simp; done) | (simp [*]; done)), (by first | rfl | (simp; done) | (simp [*]; done)), H', ⟨by have := HK1.out; omega⟩, ⟨by (with_reducible repeat (first | apply Kd.R_alloc | apply Kd.R_drewN | apply Kd.R_drew)); exact HO_7.out⟩, ⟨by repeat (first | (with_reducible first | exact HB.out | apply below_alloc | apply pw_below_drewN | apply below_drew1) | exact HB.out)⟩⟩
      ·
       rw [if_neg c8] at H
       have c8b0 : decide ((rd t101 x9_1) < 0) = false := decide_eq_false c8
       clear c8
       have H' := asd H
       clear H
       have p104 : 0 ≤ (x9_1 : Int) := of_decide_eq_true (by first | (with_reducible assumption) | assumption)
       have q104 : x9_1 < (t101.length : Int) := of_decide_eq_true (by first | (with_reducible assumption) | assumption)
       obtain ⟨ad104, e104, hx104_0⟩ := Kd.at_int (Kd.R_reads' HO_7.out).2.2 x9_1 p104 q104
       cases e104
       replace p104 := eq_true p104
       replace q104 := eq_true q104
       go_wp2
       go_roundg k1
       case measure => have := HK1.out; omega
       case rel => exact ⟨(x3_1), (wrap64 (x9_1 + 1)), (by first | rfl | (simp; done) | (simp [*]; done)), (by first | rfl | (simp; done) | (simp [*]; done)), H', ⟨by have := HK1.out; omega⟩, ⟨by (with_reducible repeat (first | apply Kd.R_alloc | apply Kd.R_drewN | apply Kd.R_drew)); exact HO_7.out⟩, ⟨by repeat (first | (with_reducible first | exact HB.out | apply below_alloc | apply pw_below_drewN | apply below_drew1) | exact HB.out)⟩⟩
     ·
      rw [if_neg c7] at H
      exact absurd H (by simp)
    ·
     rw [if_neg c6] at H
     exact absurd H (by simp)
   ·
    rw [if_neg c5] at H
    have c5b0 : decide (x9_1 < (t101.length : Int)) = false := decide_eq_false c5
    clear c5
    obtain rfl := Option.some.inj H
    go_wp2
    go_ret
    exact ⟨by first | rfl | (simp [errW_none, errW_some] <;> rfl) | (simp [*, errW_none, errW_some] <;> rfl), by repeat (first | (with_reducible first | exact HB.out | apply below_alloc | apply pw_below_drewN | apply below_drew1) | exact HB.out)⟩

-- HAND with impl.width+impl.followers
theorem width_loop (o : List Int) (hlen : o.length < 1048577) : ∀ (d i : Nat) (m : Nat), o.length - i = d → i ≤ o.length → m ≤ i → Ev (fun k => impl_width.l0 k m o o.length i) ((m + (o.drop i).countP (fun x => decide (x < 0)) : Nat) : Int)
  | 0, i, m, hd, hi, hm => by
    rw [List.drop_of_length_le (by omega)]
    exact Ev.succ (g := fun _ => some (m : Int)) (fun k => by simp only [impl_width.l0]; rw [if_neg (by omega)]) (Ev.const rfl)
  | d + 1, i, m, hd, hi, hm => by
    have hlt : i < o.length := by omega
    have hn := fun m' h' => width_loop o hlen d (i + 1) m' (by omega) (by omega) h'
    push_cast at hn
    have hws : wrap64 ((i : Int) + 1) = i + 1 := wrap_succ (by omega) (by omega)
    have hwm : wrap64 ((m : Int) + 1) = m + 1 := wrap_succ (by omega) (by omega)
    rw [List.drop_eq_getElem_cons hlt, List.countP_cons]
    by_cases h : o[i] < 0
    · rw [if_pos (decide_eq_true h)]
      refine Ev.succ (fun k => by simp only [impl_width.l0]; rw [if_pos (by omega), if_pos (by omega), if_pos (by omega), rd_get hlt, if_pos h, hws, hwm]) ?_
      have := hn (m + 1) (by omega)
      push_cast at this
      exact Ev.val this (by push_cast; omega)
    · rw [if_neg (by rw [decide_eq_true_eq]; exact h)]
      exact Ev.succ (fun k => by simp only [impl_width.l0]; rw [if_pos (by omega), if_pos (by omega), if_pos (by omega), rd_get hlt, if_neg h, hws]) (hn m (by omega))
theorem width_ok {s o : List Int} (ho : Ev (fun k => impl_followers.f k s) o) (hlen : o.length < 1048577) : Ev (fun k => impl_width.f k s) ((o.countP (fun x => decide (x < 0)) : Nat) : Int) := by
  unfold impl_width.f
  refine Ev.bind ho ?_
  have := width_loop o hlen o.length 0 0 (by omega) (Nat.zero_le _) (Nat.le_refl _)
  rw [List.drop_zero, Nat.zero_add] at this
  exact this

-- HAND slices_IndexFunc_int_int: function 123
/-- A predicate's value, asked of the entries of a list. -/
def PredInt (g : Nat) (lb : Array Value) (p : Int → Bool) (l : List Int) (w : World) : Prop :=
  ∀ (W : World) (x : Int), x ∈ l → Below w.heap.size w W → Calls Try.prog g (#[.int .i64 x] ++ lb) W fun e w' => e = .returned (.bool (p x)) ∧ Below W.heap.size W w'
set_option maxHeartbeats 8000000 in
set_option maxRecDepth 100000 in
theorem slices_IndexFunc_int_int.calls (g : Nat) (lb : Array Value) (eg : ∀ args w, (callFunc g args).run Try.prog w = .ok (.enter g args) w) (p : Int → Bool) (A : Option Addr) (c : Nat) (l : List Int) (w : World) (hr : Kd.C (Kd.int .i64) w A l.length l) (hc : l.length ≤ c) (hp : PredInt g lb p l w) :
    Calls Try.prog 123 #[.slice A l.length c, .func (.func g) #[] lb] w fun e w' => e = .returned (.int .i64 (idxG p l)) ∧ Below w.heap.size w w' := by
  have HR := Aside0.mk hr
  have HC := Aside0.mk hc
  have HP := Aside0.mk hp
  have hm := Kd.C_max hr
  clear hr hc hp
  go_enter Try.func123, Try.ntmps123
  go_wp2
  go_loopw [8] (fun v8 wr => ∃ i : Int, Aside0 (0 ≤ i ∧ i ≤ l.length) ∧ v8 = .int .i64 i ∧ Aside0 (allG (fun x => !p x) l i = true) ∧ Aside0 (Below w.heap.size w wr)) (fun v8 _ => l.length - (intOf v8).toNat)
  case atStart => exact ⟨0, ⟨by omega⟩, rfl, ⟨rfl⟩, ⟨by repeat (first | exact Below.refl _ _ | apply pw_below_drewN | apply below_drew1)⟩⟩
  case round =>
    obtain ⟨i, hi, rfl, hz, HB⟩ := hrel
    by_cases hlt : i < l.length
    · have i0 := hi.out.1
      have HZ := Aside0.mk (allG_succ 0 (fun x => !p x) l i i0 hlt)
      have HMEM := Aside0.mk (getD_mem 0 i0 hlt)
      have HHIT : Aside0 (p (l.getD i.toNat 0) = true → idxG p l = i) := ⟨idxG_hit 0 i0 hlt hz.out⟩
      obtain ⟨ad, e, hcell⟩ := Kd.at_int (Kd.C_below HR.out HB.out) i i0 hlt
      cases e
      rw [show rd l i = l.getD i.toNat 0 from rfl] at hcell
      have HCALL := Aside0.mk (HP.out wr (l.getD i.toNat 0) HMEM.out HB.out)
      generalize l.getD i.toNat 0 = x at *
      cases hq : p x with
      | true =>
        have HYES := Aside0.mk (HHIT.out hq)
        rw [hq] at HCALL
        go_wp2_with (go_at_fn g; refine HCALL.out.mono ?_; rintro e w' ⟨rfl, hb'⟩; have HB' := Aside0.mk (below_step HB.out hb'); clear hb')
        go_ret
        exact ⟨by rw [HYES.out]; rfl, HB'.out⟩
      | false =>
        have HNO := Aside0.mk hq
        rw [hq] at HCALL
        clear hq
        go_wp2_with (go_at_fn g; refine HCALL.out.mono ?_; rintro e w' ⟨rfl, hb'⟩; have HB' := Aside0.mk (below_step HB.out hb'); clear hb')
        go_roundw
        case rel => exact ⟨i + 1, ⟨by omega⟩, by first | rfl | go_num, ⟨by rw [HZ.out, hz.out, HNO.out]; rfl⟩, ⟨by repeat (first | exact HB'.out | apply pw_below_drewN | apply below_drew1)⟩⟩
        case measure => simp [intOf]; omega
    · have HNO : Aside0 (idxG p l = -1) := ⟨by have := hz.out; rw [allG_end _ _ _ (by have := hi.out; omega)] at this; exact idxG_miss this⟩
      clear hz
      go_wp2
      go_ret
      exact ⟨by rw [HNO.out]; rfl, HB.out⟩

end Go.Proofs.Ytkepeflplmkcmaa.Q
