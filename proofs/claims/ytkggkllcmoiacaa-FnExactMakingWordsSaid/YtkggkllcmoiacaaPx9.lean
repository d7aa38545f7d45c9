/- Contracts of functions that the laws reach: a call returns what the plain Lean function of the same name tells. Conditions: those of each theorem. Made by gen.py, a program of this session, over the print of the translation. -/
import Derived.Test.YtkggkllcmoiacaaPx0
import Derived.Test.YtkggkllcmoiacaaPx1
import Derived.Test.YtkggkllcmoiacaaPx2
import Derived.Test.YtkggkllcmoiacaaPx4
import Derived.Test.YtkggkllcmoiacaaPx5
import Derived.Test.YtkggkllcmoiacaaPx8
import Derived.Lib.SliceRun
namespace Go.Proofs.Ytkggkllcmoiacaa.Q
open Go.RowKit Go.Proofs.YtkggkllcmoiacaaW.PrintWords Go.Proofs.YtkggkllcmoiacaaW.PrintLast Go.Proofs.YtkggkllcmoiacaaW.PrintMore
attribute [local go_sem] max2_int min2_int max_two min_two max_three min_three max_four min_four   -- for this text's walks alone
set_option linter.unusedVariables false
set_option linter.unusedSimpArgs false

-- HAND slices_Repeat_int_int: function 58
theorem rep_mul : ∀ c : Fin 1025, bits_Mul.f 1 (c.val : Int) = some (0, (c.val : Int)) := by decide +kernel
theorem u64_in : ∀ c : Fin 1025, IntKind.u64.wrap (c.val : Int) = c.val := by decide +kernel
theorem step_copy_run {P : Program} {ops : Array Oper} {o : Oper} {a : Act} {w w' : World} {K : Act → World → Prop} {Q : Exit → Act → World → Prop} {E : Prop} (hgd : o.guard = none) (d s : Operand) (dT sT : TypeId) (ho : o.op = .call { callee := .builtin .copy, args := #[d, s], argTypes := #[dT, sT] })
  (v u x : Value) (hd : a.eval d = v) (hs : a.eval s = u) (hrun : ∀ ty, (Builtin.copy_ #[dT, sT] ty #[v, u]).run P w = .ok x w') (h : K (a.put o.dst x) w') : if Region.wanted o (yielded ops a.tmps) = true then Oper.wp P o a w K Q else E := by
 have hw : Region.wanted o (yielded ops a.tmps) = true := by simp [Region.wanted, hgd]
 rw [if_pos hw]
 unfold Oper.wp
 simp [execOp, ho, resolve, invoke, builtin, hd, hs, hrun, Result.andThen]
 exact h
def putAt : List Int → Nat → List Int → List Int
 | xs, _, [] => xs
 | xs, o, v :: vs => putAt (xs.set o v) (o + 1) vs
theorem R_setVals {e base g n cap : Nat} {ok : Nat → Prop} : ∀ (vs : List Int) (o : Nat) (xs : List Int) (W : World), Kd.R (Kd.int .i64) e W base ok (.slice (some ⟨g, 0, none⟩) n cap) xs → Kd.R (Kd.int .i64) e (W.setCells g o (vs.map (Value.int .i64))) base ok (.slice (some ⟨g, 0, none⟩) n cap) (putAt xs o vs)
 | [], o, xs, W, h => h
 | v :: vs, o, xs, W, h => by
  have h1 := Kd.R_putn h (o : Int) v
  rw [Int.toNat_natCast] at h1
  exact R_setVals vs (o + 1) _ _ h1
theorem below_setVals {w : World} {B b : Nat} (hb : B ≤ b) : ∀ (vs : List Value) (o : Nat) (W : World), Below B w W → Below B w (W.setCells b o vs)
 | [], _, _, h => h
 | v :: vs, o, W, h => below_setVals hb vs (o + 1) _ (h.setCell hb _)
/-- The row when m entries are repeated. -/
def repL (x : Int) (n m : Nat) : List Int := List.replicate m x ++ List.replicate (n - m) 0
theorem repL_set (x : Int) {n m : Nat} (h : m < n) : (repL x n m).set m x = repL x n (m + 1) := by
 unfold repL
 rw [List.set_append_right _ _ (by rw [List.length_replicate]; exact Nat.le_refl _), List.length_replicate, Nat.sub_self, show n - m = (n - (m + 1)) + 1 by omega, List.replicate_succ, List.set_cons_zero, List.replicate_succ', List.append_assoc]
 rfl
theorem repL_put (x : Int) (n : Nat) : ∀ (j m : Nat), m + j ≤ n → putAt (repL x n m) m (List.replicate j x) = repL x n (m + j)
 | 0, m, _ => rfl
 | j + 1, m, h => by
  rw [List.replicate_succ]
  show putAt ((repL x n m).set m x) (m + 1) (List.replicate j x) = _
  rw [repL_set x (by omega), repL_put x n j (m + 1) (by omega), show m + 1 + j = m + (j + 1) by omega]
theorem repL_len (x : Int) {n m : Nat} (h : m ≤ n) : (repL x n m).length = n := by
 unfold repL
 rw [List.length_append, List.length_replicate, List.length_replicate]
 omega
theorem repL_get (x : Int) {n m i : Nat} (h : i < m) : rdOf 0 (repL x n m) (i : Int) = x := by
 show (repL x n m).getD ((i : Int)).toNat 0 = x
 rw [Int.toNat_natCast, List.getD_eq_getElem?_getD]
 unfold repL
 rw [List.getElem?_append_left (by rw [List.length_replicate]; exact h), List.getElem?_replicate, if_pos h]
 rfl
theorem repL_all (x : Int) (n : Nat) : repL x n n = List.replicate n x := by
 unfold repL
 rw [Nat.sub_self]
 exact List.append_nil _
/-- The first entry goes over. -/
theorem rep_first {w W1 : World} {A A1 : Option Addr} {c c1 n : Nat} {x : Int} (hr : Kd.C (Kd.int .i64) w A 1 [x]) (h1 : Kd.R (Kd.int .i64) 3 W1 w.heap.size (fun _ => True) (.slice A1 n c1) (repL x n 0)) (hb : Below w.heap.size w W1) :
  ∃ (W2 : World) (m : Nat), (∀ ty, (Builtin.copy_ #[22, 22] ty #[.slice A1 n c1, .slice A 1 c]).run Try.prog W1 = .ok (.int .i64 (m : Int)) W2) ∧ Aside0 (Kd.R (Kd.int .i64) 3 W2 w.heap.size (fun _ => True) (.slice A1 n c1) (repL x n m) ∧ Below w.heap.size w W2 ∧ m ≤ n ∧ (n = 0 ∨ 1 ≤ m)) := by
 rcases Nat.eq_zero_or_pos n with h0 | h0
 ·
  refine ⟨W1, 0, fun ty => run_copy_none W1 _ _ ty 3 _ _ _ _ _ _ Try.underlying22 (by kernel_rfl) (by rw [h0]; rfl), ⟨h1, hb, Nat.zero_le _, .inl h0⟩⟩
 ·
  obtain ⟨b, cb, eb, gb, gl, cl, HG⟩ := Kd.R_form h1 (by rw [repL_len x (Nat.zero_le n)]; exact h0)
  rw [repL_len x (Nat.zero_le n)] at eb
  cases eb
  obtain ⟨ad, e, hc0⟩ := Kd.at_int (Kd.C_below hr hb) 0 (by decide) (by decide)
  cases e
  refine ⟨W1.setCells b 0 [.int .i64 x], 1, fun ty => run_copy_cells W1 _ _ ty 3 b 0 _ _ ad _ _ [.int .i64 x] Try.underlying22 (by kernel_rfl) ?_ ?_ ?_ ?_ ?_, ⟨?_, ?_, h0, .inr (Nat.le_refl _)⟩⟩
  ·
   show 1 = min 1 n
   omega
  ·
   intro j v hj
   match j, hj with
   | 0, hj =>
    obtain rfl := Option.some.inj hj
    exact hc0
  ·
   intro j hj
   obtain rfl : j = 0 := by simp at hj; omega
   rw [show (⟨b, 0 + 0, none⟩ : Addr) = ⟨b, ((0 : Int)).toNat, none⟩ from rfl, (Kd.R_celln 0 h1 0 (by decide) (by omega)).1]
   rfl
  ·
   intro j hj
   obtain rfl : j = 0 := by simp at hj; omega
   exact (Kd.R_celln 0 h1 0 (by decide) (by omega)).2
  ·
   intro v hv
   obtain rfl := List.mem_singleton.1 hv
   rfl
  ·
   have := R_setVals [x] 0 _ _ h1
   rw [show putAt (repL x n 0) 0 [x] = repL x n 1 from repL_put x n 1 0 (by omega)] at this
   exact this
  ·
   exact below_setVals gb _ _ _ hb
/-- As many again as there are go over. -/
theorem rep_next {W : World} {b c1 n m N : Nat} {x : Int} (h1 : Kd.R (Kd.int .i64) 3 W N (fun _ => True) (.slice (some ⟨b, 0, none⟩) n c1) (repL x n m)) (hm : m ≤ n) :
  ∀ ty, (Builtin.copy_ #[22, 22] ty #[.slice (some ⟨b, m, none⟩) (n - m) (c1 - m), .slice (some ⟨b, 0, none⟩) m c1]).run Try.prog W = .ok (.int .i64 ((min m (n - m) : Nat) : Int)) (W.setCells b m (List.replicate (min m (n - m)) (.int .i64 x))) := by
 intro ty
 have hcell : ∀ j, j < n → W.cell? ⟨b, j, none⟩ = some (.int .i64 (rdOf 0 (repL x n m) (j : Int))) ∧ W.frozen? ⟨b, j, none⟩ = false := by
  intro j hj
  have := Kd.R_celln 0 h1 (j : Int) (by omega) (by omega)
  rwa [Int.toNat_natCast] at this
 have := run_copy_cells (P := Try.prog) W 22 22 ty 3 b m (n - m) (c1 - m) ⟨b, 0, none⟩ m c1 (List.replicate (min m (n - m)) (.int .i64 x)) Try.underlying22 (by kernel_rfl) List.length_replicate (fun j v hj => by
  rw [List.getElem?_replicate] at hj
  split at hj
  ·
   obtain rfl := Option.some.inj hj
   have h2 := (hcell j (by omega)).1
   rw [repL_get x (by omega)] at h2
   rw [← h2]
   rw [Addr.add_lit, Nat.zero_add]
  ·
   cases hj) (fun j hj => by
  rw [List.length_replicate] at hj
  rw [(hcell (m + j) (by omega)).1]
  rfl) (fun j hj => by
  rw [List.length_replicate] at hj
  exact (hcell (m + j) (by omega)).2) (fun v hv => by
  obtain rfl := List.eq_of_mem_replicate hv
  rfl)
 rw [List.length_replicate] at this
 exact this
set_option maxHeartbeats 2000000 in
set_option maxRecDepth 100000 in
theorem slices_Repeat_int_int.calls (A : Option Addr) (c : Nat) (x : Int) (n : Nat) (w : World) (hr : Kd.C (Kd.int .i64) w A 1 [x]) (hc : 1 ≤ c) (hn : n ≤ 1024) :
  Calls Try.prog 58 #[.slice A 1 c, .int .i64 n] w fun e w' => ∃ v0_ : Value, e = .returned v0_ ∧ Kd.R (Kd.int .i64) 3 w' w.heap.size (fun _ => True) v0_ (List.replicate n x) ∧ Below w.heap.size w w' := by
 have hu := Try.underlying22
 have HR := asd hr
 have HM := asd (rep_mul ⟨n, by omega⟩)
 have hn0 : ¬ (n : Int) < 0 := by omega
 have hw1 : IntKind.u64.wrap (n : Int) = n := u64_in ⟨n, by omega⟩
 have hbig : ¬ (9223372036854775807 : Int) < (n : Int) := by omega
 have hz : List.replicate (n : Int).toNat 0 = repL x n 0 := by rw [Int.toNat_natCast]; rfl
 have HZ := asd hz
 clear hr hz
 go_enter Try.func58, Try.ntmps58
 go_wp2_with (first | (go_at_call 65; (with_reducible refine (bits_Mul.calls 1 (n : Int) 0 (n : Int) _ HM.out).mono ?_); rintro e w' ⟨rfl, ⟨nd, rfl⟩⟩; (try first | exact ⟨rfl, _, World.drewN_drewN _ _ _⟩ | exact ⟨rfl, _, Eq.trans (World.drewN_drewN _ _ _) (congrArg (World.drewN _) (Nat.add_assoc _ _ _))⟩)) | ((with_reducible refine gate_dst (N := 30) rfl ?_); refine Kd.R_make (Kd.int .i64) _ 3 rfl (N := 30) rfl 22 _ _ rfl (n : Int) rfl rfl Try.underlying22 (.int .i64 0) 8 info3 rfl (by decide) (by omega) 0 (ok := fun _ => True) (okp := fun _ => True) rfl (fun _ hk => hk) trivial (by omega) (by omega) (Below.refl _ _) (Nat.le_refl _) ?_; intro v30 W1 hR1 hb1 hg1 hn1; rw [HZ.out] at hR1; have HB1 := asd (show Below w.heap.size w W1 from by first | exact hb1 | exact below_since hb1 | exact below_since1 hb1); have HR1 := asd (Kd.R_lower hR1 (below_size (show Below w.heap.size w _ from by repeat (first | exact Below.refl _ _ | apply pw_below_drewN | apply below_drew1)))); obtain ⟨A1, c1, e1⟩ := Kd.R_slice hR1; rw [repL_len x (Nat.zero_le n)] at e1; subst e1; clear hR1 hb1 hg1 hn1; obtain ⟨W2, m2, hcp, HW2⟩ := rep_first (c := c) HR.out HR1.out HB1.out))
 obtain ⟨HR2, HB2, hm2, hm0⟩ := HW2.out
 have HR2 := asd HR2
 have HB2 := asd HB2
 have HM0 := asd hm0
 clear HW2 hcp hm0
 go_loopg [8] n (fun kq v8 wr => ∃ m : Nat, v8 = .int .i64 (m : Int) ∧ Aside0 (m ≤ n ∧ (n = 0 ∨ 1 ≤ m) ∧ n - m ≤ kq) ∧ Aside0 (Kd.R (Kd.int .i64) 3 wr w.heap.size (fun _ => True) (.slice A1 n c1) (repL x n m)) ∧ Aside0 (Below w.heap.size w wr))
 case atStart => exact ⟨m2, rfl, ⟨hm2, HM0.out, by omega⟩, HR2, HB2⟩
 case round =>
  clear HR2 HB2 HM0 HR1 HB1
  obtain ⟨m, rfl, hm, HR2, HB2⟩ := hrel
  obtain ⟨hmn, hm1, hgk⟩ := hm.out
  by_cases hlt : m < n
  ·
   have hltz : (m : Int) < (n : Int) := by omega
   obtain ⟨b, cb, eb, gb, gl, cl, HG⟩ := Kd.R_form HR2.out (by rw [repL_len x hmn]; omega)
   rw [repL_len x hmn] at eb
   cases eb
   clear gl cl HG
   go_wp2
   have hcp := rep_next (Kd.R_below HR2.out (below_drew (Below.refl _ _))) hmn
   obtain ⟨_, _, e3, hlc, _⟩ := Kd.R_reads HR2.out
   rw [repL_len x hmn] at e3 hlc
   cases e3
   have hne : c1 ≠ m := by omega
   have hmc : m ≤ c1 := by omega
   have hmcz : (m : Int) ≤ (c1 : Int) := by omega
   have hm0z : (0 : Int) ≤ (m : Int) := by omega
   go_region_law (refine step_copy_run rfl (.tmp 41) (.tmp 44) _ _ rfl _ _ _ (by simp [Act.eval, Act.put]) (by simp [Act.eval, Act.put]) hcp ?_)
   have HR3 := asd (R_setVals (List.replicate (min m (n - m)) x) m _ _ (Kd.R_below HR2.out (below_drew (Below.refl _ _))))
   have HB3 := asd (below_setVals gb (List.replicate (min m (n - m)) (.int .i64 x)) m _ (below_drew HB2.out))
   rw [List.map_replicate, repL_put x n _ _ (by omega)] at HR3
   have hwr : IntKind.i64.wrap ((m : Int) + ((min m (n - m) : Nat) : Int)) = ((m + min m (n - m) : Nat) : Int) := by
    have : (m : Int) + ((min m (n - m) : Nat) : Int) = ((m + min m (n - m) : Nat) : Int) := by omega
    rw [this]
    simp (disch := omega) only [IntWalk.i64_in]
   clear hcp
   generalize World.setCells _ _ _ _ = W4 at *
   go_wp2
   go_roundg (n - (m + min m (n - m)))
   case measure => omega
   case rel => exact ⟨m + min m (n - m), by first | rfl | exact congrArg _ hwr | go_num, ⟨by omega, by omega, Nat.le_refl _⟩, HR3, HB3⟩
  ·
   obtain rfl : m = n := by omega
   have hltz : ¬ (m : Int) < (m : Int) := by omega
   go_wp2
   go_ret
   exact ⟨_, rfl, by rw [← repL_all]; exact HR2.out, HB2.out⟩

/-! ### impl_part: function 60 -/
def impl_part.f (a0 : Int) (a1 : Int) : Option (Bool) := some ((Go.bits .andNot .i64 a0 a1) == 0)
set_option maxHeartbeats 8000000 in
set_option maxRecDepth 100000 in
theorem impl_part.calls (a0 : Int) (a1 : Int) (r : Bool) (w : World) (h : impl_part.f a0 a1 = some r) :
    Calls Try.prog 60 #[.int .i64 a0, .int .i64 a1] w fun e w' => e = .returned (.bool r) ∧ Drawn0 w w' := by
  have H : (some ((Go.bits .andNot .i64 a0 a1) == 0)) = some r := h
  clear h
  obtain rfl := Option.some.inj H
  go_enter Try.func60, Try.ntmps60
  go_wp2
  go_ret
  exact ⟨by first | rfl | (simp; done) | (simp [*]; done), by repeat (first | exact Drawn0.refl _ | apply Drawn0.step)⟩

-- HAND impl_followers_1: function 59
def partV (x y : Int) : Bool := Go.bits .andNot .i64 x y == 0
/-- What follows in chains: one more is put in its place, from a place u on. (Fuel; what is tried; what follows.) -/
def putL (s : List Int) : Nat → List Bool → List Int → Int → Int → Option (Bool × List Bool × List Int)
 | 0, _, _, _, _ => none
 | k + 1, t, o, v, u => if 0 ≤ v ∧ v < (s.length : Int) then (if u < (s.length : Int) then
   (if u = v then putL s k t o v (u + 1) else if partV (rd s u) (rd s v) = false then putL s k t o v (u + 1) else if rdOf false t u = true then putL s k t o v (u + 1)
   else if rd o u < 0 then some (true, t.set u.toNat true, o.set u.toNat v)
   else (putL s k (t.set u.toNat true) o (rd o u) 0).bind fun r => if r.1 = true then some (true, r.2.1, r.2.2.set u.toNat v) else putL s k r.2.1 r.2.2 v (u + 1))
  else some (false, t, o)) else none
theorem putL_len (s : List Int) : ∀ (k : Nat) (t : List Bool) (o : List Int) (v u : Int) (r : Bool × List Bool × List Int), putL s k t o v u = some r → r.2.1.length = t.length ∧ r.2.2.length = o.length
 | 0, t, o, v, u, r, h => by simp [putL] at h
 | k + 1, t, o, v, u, r, h => by
  unfold putL at h
  split at h
  ·
   split at h
   ·
    split at h
    ·
     exact putL_len s k _ _ _ _ _ h
    ·
     split at h
     ·
      exact putL_len s k _ _ _ _ _ h
     ·
      split at h
      ·
       exact putL_len s k _ _ _ _ _ h
      ·
       split at h
       ·
        obtain rfl := Option.some.inj h
        exact ⟨List.length_set .., List.length_set ..⟩
       ·
        obtain ⟨r1, h1, h2⟩ := Option.bind_eq_some_iff.1 h
        have i1 := putL_len s k _ _ _ _ _ h1
        rw [List.length_set] at i1
        split at h2
        ·
         obtain rfl := Option.some.inj h2
         exact ⟨i1.1, by rw [← i1.2]; exact List.length_set ..⟩
        ·
         have i2 := putL_len s k _ _ _ _ _ h2
         exact ⟨i2.1.trans i1.1, i2.2.trans i1.2⟩
   ·
    obtain rfl := Option.some.inj h
    exact ⟨rfl, rfl⟩
  ·
   cases h
/-- The four variables in memory, the two rows of the call's own. -/
structure PutS (w0 w : World) (g1 g2 g3 g4 : Nat) (A : Option Addr) (c : Nat) (s : List Int) (bt ct bo co : Nat) (t : List Bool) (o : List Int) : Prop where
 bel : Below w0.heap.size w0 w
 b1 : w.heap[g1]? = some (.cells #[.slice A s.length c] 22 (0, 0))
 b2 : w.heap[g2]? = some (.cells #[.slice (some ⟨bt, 0, none⟩) s.length ct] 59 (0, 0))
 b3 : w.heap[g3]? = some (.cells #[.slice (some ⟨bo, 0, none⟩) s.length co] 22 (0, 0))
 b4 : w.heap[g4]? = some (.cells #[.func (.func 59) #[] #[.pointer (some ⟨g1, 0, none⟩), .pointer (some ⟨g2, 0, none⟩), .pointer (some ⟨g3, 0, none⟩), .pointer (some ⟨g4, 0, none⟩)]] 48 (0, 0))
 rt : Kd.R Kd.bool 4 w w0.heap.size (fun _ => True) (.slice (some ⟨bt, 0, none⟩) s.length ct) t
 ro : Kd.R (Kd.int .i64) 3 w w0.heap.size (fun _ => True) (.slice (some ⟨bo, 0, none⟩) s.length co) o
section
variable {w0 w W : World} {g1 g2 g3 g4 : Nat} {A : Option Addr} {c : Nat} {s : List Int} {bt ct bo co : Nat} {t : List Bool} {o : List Int}
theorem PutS.below (h : PutS w0 w g1 g2 g3 g4 A c s bt ct bo co t o) (hb : Below w.heap.size w W) : PutS w0 W g1 g2 g3 g4 A c s bt ct bo co t o :=
 ⟨below_step h.bel hb, blk_below h.b1 hb, blk_below h.b2 hb, blk_below h.b3 hb, blk_below h.b4 hb, Kd.R_below h.rt hb, Kd.R_below h.ro hb⟩
theorem PutS.drewN (h : PutS w0 w g1 g2 g3 g4 A c s bt ct bo co t o) (m : Nat) : PutS w0 (w.drewN m) g1 g2 g3 g4 A c s bt ct bo co t o := h.below (pw_below_drewN (Below.refl _ _) m)
theorem PutS.nebt (h : PutS w0 w g1 g2 g3 g4 A c s bt ct bo co t o) {g tp : Nat} {cs : Array Value} (hb : w.heap[g]? = some (.cells cs tp (0, 0))) (ht : 4 ≠ tp) : g ≠ bt := fun e => Kd.R_ne h.rt hb ht (by rw [e]; rfl)
theorem PutS.nebo (h : PutS w0 w g1 g2 g3 g4 A c s bt ct bo co t o) {g tp : Nat} {cs : Array Value} (hb : w.heap[g]? = some (.cells cs tp (0, 0))) (ht : 3 ≠ tp) : g ≠ bo := fun e => Kd.R_ne h.ro hb ht (by rw [e]; rfl)
theorem PutS.two (h : PutS w0 w g1 g2 g3 g4 A c s bt ct bo co t o) : bt ≠ bo := by
 obtain ⟨cs, hcs⟩ := Kd.R_typed h.rt bt rfl
 exact h.nebo hcs (by decide)
theorem PutS.setT (h : PutS w0 w g1 g2 g3 g4 A c s bt ct bo co t o) (i : Int) : PutS w0 (w.setCell ⟨bt, i.toNat, none⟩ (.bool true)) g1 g2 g3 g4 A c s bt ct bo co (t.set i.toNat true) o :=
 ⟨below_set h.bel (Kd.R_base h.rt bt rfl), blk_far h.b1 (p := ⟨bt, i.toNat, none⟩) (h.nebt h.b1 (by decide)) _, blk_far h.b2 (p := ⟨bt, i.toNat, none⟩) (h.nebt h.b2 (by decide)) _, blk_far h.b3 (p := ⟨bt, i.toNat, none⟩) (h.nebt h.b3 (by decide)) _, blk_far h.b4 (p := ⟨bt, i.toNat, none⟩) (h.nebt h.b4 (by decide)) _, Kd.R_putn h.rt i true,
  Kd.R_mono (Kd.R_far (p := ⟨bt, i.toNat, none⟩) (Kd.R_tight rfl h.ro) (fun k hk e => h.two (Option.some.inj (show some bt = some bo from by rw [show bt = k from e.symm]; exact hk))) _) (fun _ _ => trivial)⟩
theorem PutS.setO (h : PutS w0 w g1 g2 g3 g4 A c s bt ct bo co t o) (i x : Int) : PutS w0 (w.setCell ⟨bo, i.toNat, none⟩ (.int .i64 x)) g1 g2 g3 g4 A c s bt ct bo co t (o.set i.toNat x) :=
 ⟨below_set h.bel (Kd.R_base h.ro bo rfl), blk_far h.b1 (p := ⟨bo, i.toNat, none⟩) (h.nebo h.b1 (by decide)) _, blk_far h.b2 (p := ⟨bo, i.toNat, none⟩) (h.nebo h.b2 (by decide)) _, blk_far h.b3 (p := ⟨bo, i.toNat, none⟩) (h.nebo h.b3 (by decide)) _, blk_far h.b4 (p := ⟨bo, i.toNat, none⟩) (h.nebo h.b4 (by decide)) _,
  Kd.R_mono (Kd.R_far (p := ⟨bo, i.toNat, none⟩) (Kd.R_tight rfl h.rt) (fun k hk e => h.two (Option.some.inj (show some bt = some bo from by rw [show bo = k from e.symm]; exact hk.symm))) _) (fun _ _ => trivial), Kd.R_putn h.ro i x⟩
theorem PutS.tlen (h : PutS w0 w g1 g2 g3 g4 A c s bt ct bo co t o) : t.length = s.length := (Kd.R_reads' h.rt).1.symm
theorem PutS.olen (h : PutS w0 w g1 g2 g3 g4 A c s bt ct bo co t o) : o.length = s.length := (Kd.R_reads' h.ro).1.symm
end
set_option maxHeartbeats 2000000 in
set_option maxRecDepth 100000 in
theorem impl_followers_1.calls (A : Option Addr) (c : Nat) (s : List Int) (g1 g2 g3 g4 bt ct bo co : Nat) (w0 : World) (hs : Kd.C (Kd.int .i64) w0 A s.length s) (hc : s.length ≤ c) : ∀ (k : Nat) (t : List Bool) (o : List Int) (v : Int) (r : Bool) (t' : List Bool) (o' : List Int) (w : World) (hS : PutS w0 w g1 g2 g3 g4 A c s bt ct bo co t o) (h : putL s k t o v 0 = some (r, t', o')),
  Calls Try.prog 59 #[.int .i64 v, .pointer (some ⟨g1, 0, none⟩), .pointer (some ⟨g2, 0, none⟩), .pointer (some ⟨g3, 0, none⟩), .pointer (some ⟨g4, 0, none⟩)] w fun e w' => e = .returned (.bool r) ∧ PutS w0 w' g1 g2 g3 g4 A c s bt ct bo co t' o' := by
 have HSR := asd hs
 have hmx := Kd.C_max hs
 have HC := asd hc
 clear hs hc
 intro k
 induction k using Nat.strongRecOn with
 | ind k ih =>
 intro t o v r t' o' w hS h
 have HS := asd hS
 have H' := asd h
 have IH := asd ih
 clear hS h ih
 have q1 : w.cell? ⟨g1, 0, none⟩ = some (.slice A s.length c) := (blk_cell HS.out.b1 0).trans rfl
 go_enter Try.func59, Try.ntmps59
 go_wp2
 clear q1
 go_loopg [11] k (fun kq v11 wr => ∃ (u : Int) (t1 : List Bool) (o1 : List Int), v11 = .int .i64 u ∧ Aside0 (0 ≤ u) ∧ Aside0 (putL s kq t1 o1 v u = some (r, t', o')) ∧ Aside0 (kq ≤ k) ∧ Aside0 (PutS w0 wr g1 g2 g3 g4 A c s bt ct bo co t1 o1))
 case atStart => exact ⟨0, t, o, rfl, ⟨Int.le_refl _⟩, H', ⟨Nat.le_refl _⟩, HS⟩
 case round =>
  clear H' HS
  obtain ⟨u, t1, o1, rfl, hu, HA, HK, HS⟩ := hrel
  cases gk with
  | zero => exact absurd HA.out (by simp [putL])
  | succ kn =>
   have H := HA.out
   clear HA
   unfold putL at H
   have hu0 := hu.out
   by_cases hv : 0 ≤ v ∧ v < (s.length : Int)
   ·
    rw [if_pos hv] at H
    obtain ⟨hv0, hv1⟩ := hv
    by_cases hlt : u < (s.length : Int)
    ·
     rw [if_pos hlt] at H
     have q1 : wr.cell? ⟨g1, 0, none⟩ = some (.slice A s.length c) := (blk_cell HS.out.b1 0).trans rfl
     have HRD := asd (Kd.C_below HSR.out HS.out.bel)
     obtain ⟨ad, e, hcu⟩ := Kd.at_int HRD.out u hu0 hlt
     cases e
     obtain ⟨ad2, e2, hcv⟩ := Kd.at_int HRD.out v hv0 hv1
     cases e2
     have hHRD := HRD
     clear HRD
     obtain ⟨x, hx⟩ : ∃ x, x = rd s u := ⟨_, rfl⟩
     obtain ⟨y, hy⟩ : ∃ y, y = rd s v := ⟨_, rfl⟩
     rw [← hx] at H hcu
     rw [← hy] at H hcv
     clear hx hy
     by_cases c1 : u = v
     ·
      rw [if_pos c1] at H
      have H' := asd H
      have c1b : (u == v) = true := beq_iff_eq.mpr c1
      clear H
      go_wp2
      go_roundg kn
      case measure => have := HK.out; omega
      case rel => exact ⟨u + 1, t1, o1, by first | rfl | go_num, ⟨by omega⟩, H', ⟨by have := HK.out; omega⟩, HS⟩
     ·
      rw [if_neg c1] at H
      have c1b : (u == v) = false := beq_eq_false_iff_ne.mpr c1
      cases hp : partV x y with
      | false =>
       rw [hp, if_pos rfl] at H
       have H' := asd H
       have HP := asd (show impl_part.f x y = some false from congrArg some hp)
       clear H hp
       go_wp2_with (first | (go_at_call 60; (with_reducible refine (impl_part.calls x y false _ HP.out).mono ?_); rintro e w' ⟨rfl, ⟨nd, rfl⟩⟩; (try first | exact ⟨rfl, _, World.drewN_drewN _ _ _⟩ | exact ⟨rfl, _, Eq.trans (World.drewN_drewN _ _ _) (congrArg (World.drewN _) (Nat.add_assoc _ _ _))⟩)))
       go_roundg kn
       case measure => have := HK.out; omega
       case rel => exact ⟨u + 1, t1, o1, by first | rfl | go_num, ⟨by omega⟩, H', ⟨by have := HK.out; omega⟩, ⟨by first | exact HS.out | exact HS.out.drewN _⟩⟩
      | true =>
       rw [hp, if_neg (by decide)] at H
       have HP := asd (show impl_part.f x y = some true from congrArg some hp)
       clear hp
       cases hb : rdOf false t1 u with
       | true =>
        rw [hb, if_pos rfl] at H
        have H' := asd H
        have HBT := asd hb
        clear H hb
        go_wp2_with (go_at_call 60; (with_reducible refine (impl_part.calls x y true _ HP.out).mono ?_); rintro e w' ⟨rfl, ⟨nd, rfl⟩⟩; have HS2 := asd (HS.out.drewN nd); generalize World.drewN wr nd = W2 at *; have q2 : W2.cell? ⟨g2, 0, none⟩ = some (.slice (some ⟨bt, 0, none⟩) s.length ct) := (blk_cell HS2.out.b2 0).trans rfl; obtain ⟨hct, hft⟩ := Kd.R_celln false HS2.out.rt u hu0 hlt; rw [HBT.out] at hct)
        go_roundg kn
        case measure => have := HK.out; omega
        case rel => exact ⟨u + 1, t1, o1, by first | rfl | go_num, ⟨by omega⟩, H', ⟨by have := HK.out; omega⟩, HS2⟩
       | false =>
        rw [hb, if_neg (by decide)] at H
        have HBT := asd hb
        clear hb
        by_cases hn : rd o1 u < 0
        ·
         rw [if_pos hn] at H
         obtain ⟨rfl, rfl, rfl⟩ : true = r ∧ t1.set u.toNat true = t' ∧ o1.set u.toNat v = o' := by simpa using H
         clear H
         go_wp2_with (go_at_call 60; (with_reducible refine (impl_part.calls x y true _ HP.out).mono ?_); rintro e w' ⟨rfl, ⟨nd, rfl⟩⟩; have HS2 := asd (HS.out.drewN nd); generalize World.drewN wr nd = W2 at *; have q2 : W2.cell? ⟨g2, 0, none⟩ = some (.slice (some ⟨bt, 0, none⟩) s.length ct) := (blk_cell HS2.out.b2 0).trans rfl; obtain ⟨hct, hft⟩ := Kd.R_celln false HS2.out.rt u hu0 hlt; rw [HBT.out] at hct)
         have HS3 := asd (HS2.out.setT u)
         generalize World.setCell W2 ⟨bt, u.toNat, none⟩ (.bool true) = W3 at *
         have q3 : W3.cell? ⟨g3, 0, none⟩ = some (.slice (some ⟨bo, 0, none⟩) s.length co) := (blk_cell HS3.out.b3 0).trans rfl
         obtain ⟨hco, hfo⟩ := Kd.R_celln 0 HS3.out.ro u hu0 hlt
         rw [show rdOf 0 o1 u = rd o1 u from rfl] at hco
         generalize rd o1 u = z at *
         have hzb : decide (z < 0) = true := decide_eq_true hn
         go_quiet (fail)
         go_wp2
         go_ret
         exact ⟨rfl, by first | exact HS3.out.setO u v | exact (HS3.out.drewN _).setO u v⟩
        ·
         rw [if_neg hn] at H
         obtain ⟨⟨r1, t2, o2⟩, hrec, H⟩ := Option.bind_eq_some_iff.1 H
         have HREC := asd hrec
         have HH := asd H
         clear H hrec
         go_wp2_with (go_at_call 60; (with_reducible refine (impl_part.calls x y true _ HP.out).mono ?_); rintro e w' ⟨rfl, ⟨nd, rfl⟩⟩; have HS2 := asd (HS.out.drewN nd); generalize World.drewN wr nd = W2 at *; have q2 : W2.cell? ⟨g2, 0, none⟩ = some (.slice (some ⟨bt, 0, none⟩) s.length ct) := (blk_cell HS2.out.b2 0).trans rfl; obtain ⟨hct, hft⟩ := Kd.R_celln false HS2.out.rt u hu0 hlt; rw [HBT.out] at hct)
         have HS3 := asd (HS2.out.setT u)
         generalize World.setCell W2 ⟨bt, u.toNat, none⟩ (.bool true) = W3 at *
         have q3 : W3.cell? ⟨g3, 0, none⟩ = some (.slice (some ⟨bo, 0, none⟩) s.length co) := (blk_cell HS3.out.b3 0).trans rfl
         have q4 : W3.cell? ⟨g4, 0, none⟩ = some (.func (.func 59) #[] #[.pointer (some ⟨g1, 0, none⟩), .pointer (some ⟨g2, 0, none⟩), .pointer (some ⟨g3, 0, none⟩), .pointer (some ⟨g4, 0, none⟩)]) := (blk_cell HS3.out.b4 0).trans rfl
         obtain ⟨hco, hfo⟩ := Kd.R_celln 0 HS3.out.ro u hu0 hlt
         rw [show rdOf 0 o1 u = rd o1 u from rfl] at hco
         generalize rd o1 u = z at *
         have hzb : decide (z < 0) = false := decide_eq_false (by omega)
         go_still_tail 11, (by kernel_rfl)
         change wpList _ _ _ _ _ W3.drew
         have HS4 : Aside0 (PutS w0 W3.drew g1 g2 g3 g4 (some ad) c s bt ct bo co (t1.set u.toNat true) o1) := ⟨HS3.out.below (below_drew (Below.refl _ _))⟩
         generalize World.drew W3 = W4 at *
         cases r1 with
         | true =>
          have H := HH.out
          rw [if_pos rfl] at H
          obtain ⟨rfl, rfl, rfl⟩ : true = r ∧ t2 = t' ∧ o2.set u.toNat v = o' := by simpa using H
          clear H
          go_wp2_with (go_at_call 59; (refine (IH.out kn (by have := HK.out; omega) (t1.set u.toNat true) o1 z true t2 o2 _ HS4.out HREC.out).mono ?_); rintro e W5 ⟨rfl, hS5⟩; have HS5 := asd hS5; have q5 : W5.cell? ⟨g3, 0, none⟩ = some (.slice (some ⟨bo, 0, none⟩) s.length co) := (blk_cell hS5.b3 0).trans rfl; obtain ⟨hco5, hfo5⟩ := Kd.R_celln 0 hS5.ro u hu0 hlt; clear hS5)
          go_ret
          exact ⟨rfl, HS5.out.setO u v⟩
         | false =>
          have H := HH.out
          rw [if_neg (by decide)] at H
          have H' := asd H
          clear H
          go_wp2_with (go_at_call 59; (refine (IH.out kn (by have := HK.out; omega) (t1.set u.toNat true) o1 z false t2 o2 _ HS4.out HREC.out).mono ?_); rintro e W5 ⟨rfl, hS5⟩; have HS5 := asd hS5; clear hS5)
          go_roundg kn
          case measure => have := HK.out; omega
          case rel => exact ⟨u + 1, t2, o2, by first | rfl | go_num, ⟨by omega⟩, H', ⟨by have := HK.out; omega⟩, HS5⟩
    ·
     rw [if_neg hlt] at H
     obtain ⟨rfl, rfl, rfl⟩ : false = r ∧ t1 = t' ∧ o1 = o' := by simpa using H
     clear H
     go_wp2
     go_ret
     exact ⟨rfl, HS.out⟩
   ·
    rw [if_neg hv] at H
    cases H

-- HAND with impl.followers$1+spec.cnGet+spec.cnParts
/-- Both search alike. -/
theorem put_ok {s : List Int} (hsz : s.length < 1048577) (hup : ∀ x y : Nat, x < s.length → y < s.length → x ≠ y → partV (rd s x) (rd s y) = true → x < y) (m d : Nat) (b o : List Int) (t : List Bool) (u v : Nat) (hP : Pair s.length b o) (ht : t.length = s.length) (hv : v < s.length) (hs : 0 ≤ rd b v → rdOf false t (rd b v) = true) (hm : unT t ≤ m) (hd : s.length - u ≤ d) (hu : u ≤ s.length) :
  ∃ (r : Bool) (b' o' : List Int) (t' : List Bool), Ev (fun k => putL s k t o v u) (r, t', o') ∧ Ev (fun k => spec_cnGet.l0 k s b o t v s s.length u) (r, b', o', t') ∧ t'.length = s.length ∧ (∀ y : Nat, rdOf false t y = true → rdOf false t' y = true) ∧ unT t' ≤ unT t ∧ (r = false → b' = b ∧ o' = o) ∧ (r = true → Got s.length v b o t b' o') := by
 have hwu : wrap64 ((u : Int) + 1) = u + 1 := wrap_succ (by omega) (by omega)
 have hv0 : 0 ≤ (v : Int) ∧ (v : Int) < (s.length : Int) := ⟨by omega, by omega⟩
 by_cases hlt : u < s.length
 ·
  have hltz : (u : Int) < (s.length : Int) := by omega
  have cont : ∀ t2 : List Bool, t2.length = s.length → (∀ y : Nat, rdOf false t y = true → rdOf false t2 y = true) → unT t2 ≤ unT t → ∃ (r : Bool) (b' o' : List Int) (t' : List Bool), Ev (fun k => putL s k t2 o v ((u : Int) + 1)) (r, t', o') ∧ Ev (fun k => spec_cnGet.l0 k s b o t2 v s s.length ((u : Int) + 1)) (r, b', o', t') ∧ t'.length = s.length ∧ (∀ y : Nat, rdOf false t y = true → rdOf false t' y = true) ∧ unT t' ≤ unT t ∧ (r = false → b' = b ∧ o' = o) ∧ (r = true → Got s.length v b o t b' o') := by
   intro t2 hl2 hs2 hm2
   obtain ⟨r, b', o', t', h1, h2, h3, h4, h5, h6, h7⟩ := put_ok hsz hup m (d - 1) b o t2 (u + 1) v hP hl2 hv (fun h0 => by
    obtain ⟨j, hj, e⟩ := nat_of h0 (hP.rb v hv).2
    have := hs h0
    rw [e] at this ⊢
    exact hs2 j this) (by omega) (by omega) (by omega)
   exact ⟨r, b', o', t', h1, h2, h3, fun y hy => h4 y (hs2 y hy), by omega, h6, fun h => (h7 h).mono hP hs2⟩
  by_cases huv : (u : Int) = (v : Int)
  ·
   obtain ⟨r, b', o', t', h1, h2, h3⟩ := cont t ht (fun _ h => h) (Nat.le_refl _)
   exact ⟨r, b', o', t', Ev.succ (fun k => by simp only [putL]; rw [if_pos hv0, if_pos hltz, if_pos huv]) h1, Ev.succ (fun k => by simp only [spec_cnGet.l0]; rw [if_pos hltz, if_pos (by omega), if_pos hltz, if_pos huv.symm]) (Ev.succ (fun k => by simp only [spec_cnGet.j1, if_true, hwu]) h2), h3⟩
  ·
   have hvu : ¬ (v : Int) = (u : Int) := fun e => huv e.symm
   cases hp : partV (rd s u) (rd s v) with
   | false =>
    obtain ⟨r, b', o', t', h1, h2, h3⟩ := cont t ht (fun _ h => h) (Nat.le_refl _)
    have hcn : spec_cnParts.f (rd s u) (rd s v) = some false := congrArg some hp
    refine ⟨r, b', o', t', Ev.succ (fun k => by simp only [putL]; rw [if_pos hv0, if_pos hltz, if_neg huv, if_pos hp]) h1, Ev.succ (fun k => by simp only [spec_cnGet.l0]; rw [if_pos hltz, if_pos (by omega), if_pos hltz, if_neg hvu, if_pos hv0.1, if_pos hv0.2]) (Ev.bindc hcn (Ev.to (fun k => by rw [if_neg (by decide)]) (Ev.succ (fun k => by simp only [spec_cnGet.j1, if_true, hwu]) h2))), h3⟩
   | true =>
    have hcn : spec_cnParts.f (rd s u) (rd s v) = some true := congrArg some hp
    have hult : (u : Int) < (t.length : Int) := by omega
    have hpn : ¬ partV (rd s u) (rd s v) = false := by rw [hp]; decide
    cases hb : rdOf false t (u : Int) with
    | true =>
     obtain ⟨r, b', o', t', h1, h2, h3⟩ := cont t ht (fun _ h => h) (Nat.le_refl _)
     refine ⟨r, b', o', t', Ev.succ (fun k => by simp only [putL]; rw [if_pos hv0, if_pos hltz, if_neg huv, if_neg hpn, if_pos hb]) h1, Ev.succ (fun k => by simp only [spec_cnGet.l0]; rw [if_pos hltz, if_pos (by omega), if_pos hltz, if_neg hvu, if_pos hv0.1, if_pos hv0.2]) (Ev.bindc hcn (Ev.to (fun k => by rw [if_pos rfl, if_pos hult, hb]) (Ev.succ (fun k => by simp only [spec_cnGet.j1, if_true, hwu]) h2))), h3⟩
    | false =>
     have hbn : ¬ rdOf false t (u : Int) = true := by rw [hb]; decide
     have huv2 : u < v := hup u v hlt hv (fun e => huv (by rw [e])) hp
     have huto : (u : Int) < (o.length : Int) := by rw [hP.lo]; exact hltz
     have hvb : (v : Int) < (b.length : Int) := by rw [hP.lb]; exact hv0.2
     have hsu := unT_set (t := t) (i := u) (by omega) hb
     have hset : ∀ y : Nat, rdOf false t y = true → rdOf false (t.set u true) y = true := fun y hy => tset_up (by omega) hy
     by_cases ho : rd o u < 0
     ·
      refine ⟨true, b.set v u, o.set u v, t.set u true, Ev.succ (fun k => by simp only [putL]; rw [if_pos hv0, if_pos hltz, if_neg huv, if_neg hpn, if_neg hbn, if_pos ho]) (Ev.const (by rw [Int.toNat_natCast])), Ev.succ (fun k => by simp only [spec_cnGet.l0]; rw [if_pos hltz, if_pos (by omega), if_pos hltz, if_neg hvu, if_pos hv0.1, if_pos hv0.2]) (Ev.bindc hcn (Ev.to (fun k => by rw [if_pos rfl, if_pos hult, hb]) (Ev.succ (fun k => by simp only [spec_cnGet.j1]; rw [if_neg (by decide), if_pos (by omega), if_pos hult]) (Ev.bindc rfl (Ev.to (fun k => by rw [if_pos huto, if_pos ho, if_pos hv0.1, if_pos hvb]) (Ev.const (by rw [Int.toNat_natCast, Int.toNat_natCast]))))))), by rw [List.length_set]; exact ht, hset, by omega, (fun h => Bool.noConfusion h), fun _ => got_base hP hv hlt ht hb hs ho huv2⟩
     ·
      obtain ⟨i, hi, hoi⟩ := nat_of (x := rd o u) (by omega) (hP.ro u hlt).2
      have hbi : rd b i = (u : Int) := (hP.bo i u hi hlt).2 hoi
      have hm1 : 0 < m := by omega
      obtain ⟨r1, b1, o1, t1, e1, e2, l1, s1, u1, f1, g1⟩ := put_ok hsz hup (m - 1) s.length b o (t.set u true) 0 i hP (by rw [List.length_set]; exact ht) hi (fun _ => by rw [hbi, tset t (by omega), if_pos rfl]) (by omega) (by omega) (by omega)
      have e2' : Ev (fun k => spec_cnGet.f k s b o (t.set u true) i) (r1, b1, o1, t1) := Ev.succ (fun k => by simp only [spec_cnGet.f]; rfl) e2
      have E1 : ∀ {q : Bool × List Bool × List Int}, Ev (fun k => (putL s k (t.set u true) o i 0).bind fun r => if r.1 = true then some (true, r.2.1, r.2.2.set (u : Int).toNat v) else putL s k r.2.1 r.2.2 v ((u : Int) + 1)) q → Ev (fun k => putL s k t o v u) q := fun h => Ev.succ (fun k => by simp only [putL]; rw [if_pos hv0, if_pos hltz, if_neg huv, if_neg hpn, if_neg hbn, if_neg ho, hoi, Int.toNat_natCast]) h
      have E2 : ∀ {q : Bool × List Int × List Int × List Bool}, Ev (fun k => (spec_cnGet.f k s b o (t.set u true) i).bind fun bt110 => (if bt110.1 = true then (if 0 ≤ (v : Int) then (if (v : Int) < (b.length : Int) then (some (true, (bt110.2.1.set (v : Int).toNat u), (bt110.2.2.1.set (u : Int).toNat v), bt110.2.2.2)) else (none)) else (none)) else (spec_cnGet.l0 k s bt110.2.1 bt110.2.2.1 bt110.2.2.2 v s s.length ((u : Int) + 1)))) q → Ev (fun k => spec_cnGet.l0 k s b o t v s s.length u) q := fun h => Ev.succ (fun k => by simp only [spec_cnGet.l0]; rw [if_pos hltz, if_pos (by omega), if_pos hltz, if_neg hvu, if_pos hv0.1, if_pos hv0.2]) (Ev.bindc hcn (Ev.to (fun k => by rw [if_pos rfl, if_pos hult, hb]) (Ev.succ (fun k => by simp only [spec_cnGet.j1]; rw [if_neg (by decide), if_pos (by omega), if_pos hult]) (Ev.bindc rfl (Ev.to (fun k => by rw [if_pos huto, if_neg ho, hoi, hwu, Int.toNat_natCast]) h)))))
      cases r1 with
      | true =>
       refine ⟨true, b1.set v u, o1.set u v, t1, E1 (Ev.bind e1 (Ev.to (fun k => by rw [if_pos rfl]) (Ev.const (by rw [Int.toNat_natCast])))), E2 (Ev.bind e2' (Ev.to (fun k => by rw [if_pos rfl, if_pos hv0.1, if_pos hvb]) (Ev.const (by rw [Int.toNat_natCast, Int.toNat_natCast])))), l1, fun y hy => s1 y (hset y hy), by omega, (fun h => Bool.noConfusion h), fun _ => got_step hP hv hlt hi ht hb hs hoi huv2 (g1 rfl)⟩
      | false =>
       obtain ⟨rfl, rfl⟩ := f1 rfl
       obtain ⟨r, b', o', t', h1, h2, h3⟩ := cont t1 l1 (fun y hy => s1 y (hset y hy)) (by omega)
       exact ⟨r, b', o', t', E1 (Ev.bind e1 (Ev.to (fun k => if_neg Bool.false_ne_true) h1)), E2 (Ev.bind e2' (Ev.to (fun k => if_neg Bool.false_ne_true) h2)), h3⟩
 ·
  obtain rfl : u = s.length := by omega
  exact ⟨false, b, o, t, Ev.succ (fun k => by simp only [putL]; rw [if_pos hv0, if_neg (by omega)]) (Ev.const rfl), Ev.succ (fun k => by simp only [spec_cnGet.l0]; rw [if_neg (by omega)]) (Ev.const rfl), ht, fun _ h => h, Nat.le_refl _, fun _ => ⟨rfl, rfl⟩, (fun h => Bool.noConfusion h)⟩
termination_by (m, d)

-- HAND with impl.part+impl.followers$1
theorem partV_le {x y : Int} (hx : 0 ≤ x ∧ x < 128) (hy : 0 ≤ y ∧ y < 128) (h : partV x y = true) : x ≤ y := by
  unfold partV at h
  rw [beq_iff_eq] at h
  obtain ⟨a, ha⟩ := Int.eq_ofNat_of_zero_le hx.1
  obtain ⟨b, hb⟩ := Int.eq_ofNat_of_zero_le hy.1
  subst ha
  subst hb
  rw [bits_nd a b (by omega) (by omega)] at h
  have h0 : nd a b = 0 := by exact_mod_cast h
  have h1 : a &&& b = a := by
    apply Nat.eq_of_testBit_eq
    intro i
    have := congrArg (fun z => z.testBit i) h0
    simp only [nd_testBit, Nat.zero_testBit] at this
    rw [Nat.testBit_and]
    cases ea : a.testBit i <;> cases eb : b.testBit i <;> simp_all
  have h2 : a &&& b ≤ b := Nat.and_le_right
  omega
theorem parts_up {s : List Int} (hr : Rise s) (hM : ∀ x ∈ s, 0 ≤ x ∧ x < 128) : ∀ x y : Nat, x < s.length → y < s.length → x ≠ y → partV (rd s x) (rd s y) = true → x < y := by
  intro x y hx hy hne h
  have h1 := partV_le (hM _ (rd_mem (by omega) (by omega))) (hM _ (rd_mem (by omega) (by omega))) h
  rcases Nat.lt_or_ge x y with h2 | h2
  · exact h2
  · have := hr y x (by omega) hx
    omega

-- HAND impl_followers: function 47
/-- Each is put once: so many are still to go, from one on. -/
def folL (s : List Int) (k : Nat) : Nat → Int → List Int → Option (List Int)
 | 0, _, o => some o
 | m + 1, v, o => (putL s k (List.replicate s.length false) o v 0).bind fun r => folL s k m (v + 1) r.2.2
theorem folL_len (s : List Int) (k : Nat) : ∀ (m : Nat) (v : Int) (o r : List Int), folL s k m v o = some r → r.length = o.length
 | 0, _, o, r, h => by rw [show o = r from Option.some.inj h]
 | m + 1, v, o, r, h => by
  obtain ⟨r1, h1, h2⟩ := Option.bind_eq_some_iff.1 h
  exact (folL_len s k m _ _ _ h2).trans (putL_len s k _ _ _ _ _ h1).2
def impl_followers.f (k : Nat) (s : List Int) : Option (List Int) := if s.length ≤ 1024 then folL s k s.length 0 (List.replicate s.length (-1)) else none
theorem putL_mono (s : List Int) : ∀ (k : Nat) (t : List Bool) (o : List Int) (v u : Int), LeO (putL s k t o v u) (putL s (k + 1) t o v u)
 | 0, t, o, v, u => LeO.none _
 | k + 1, t, o, v, u => by
  rw [putL, putL]
  refine LeO.ite (LeO.ite (LeO.ite (putL_mono s k _ _ _ _) (LeO.ite (putL_mono s k _ _ _ _) (LeO.ite (putL_mono s k _ _ _ _) (LeO.ite (LeO.refl _) (LeO.bind (putL_mono s k _ _ _ _) fun r => LeO.ite (LeO.refl _) (putL_mono s k _ _ _ _)))))) (LeO.refl _)) (LeO.refl _)
theorem folL_mono (s : List Int) (k : Nat) : ∀ (m : Nat) (v : Int) (o : List Int), LeO (folL s k m v o) (folL s (k + 1) m v o)
 | 0, _, _ => LeO.refl _
 | m + 1, v, o => LeO.bind (putL_mono s k _ _ _ _) fun r => folL_mono s k m _ _
theorem impl_followers.mono (y0 : List Int) (k : Nat) : LeO (impl_followers.f k y0) (impl_followers.f (k + 1) y0) := by
 unfold impl_followers.f
 exact LeO.ite (folL_mono _ _ _ _ _) (LeO.refl _)
theorem R_var {α : Type} {d : Kd α} {e tp base i g : Nat} {W : World} {v : Value} {xs : List α} {cs : Array Value} (h : Kd.R d e W base (fun _ => True) v xs) (hE : d.E = []) (hb : W.heap[g]? = some (.cells cs tp (0, 0))) (ht : e ≠ tp) (u : Value) : Kd.R d e (W.setCell ⟨g, i, none⟩ u) base (fun _ => True) v xs :=
 Kd.R_mono (Kd.R_far (p := ⟨g, i, none⟩) (Kd.R_tight hE h) (fun k hk e1 => Kd.R_ne h hb ht (by rw [show g = k from e1.symm]; exact hk)) u) (fun _ _ => trivial)
/-- What the loop keeps: the two variables in memory, the row of what follows. -/
structure FolS (w W : World) (g1 g3 : Nat) (A : Option Addr) (c : Nat) (s : List Int) (A3 : Option Addr) (c3 : Nat) (o : List Int) : Prop where
 bel : Below w.heap.size w W
 b1 : W.heap[g1]? = some (.cells #[.slice A s.length c] 22 (0, 0))
 b3 : W.heap[g3]? = some (.cells #[.slice A3 s.length c3] 22 (0, 0))
 ne : g1 ≠ g3
 ge1 : w.heap.size ≤ g1
 ge3 : w.heap.size ≤ g3
 ro : Kd.R (Kd.int .i64) 3 W w.heap.size (fun _ => True) (.slice A3 s.length c3) o
theorem FolS.below {w W W2 : World} {g1 g3 c c3 : Nat} {A A3 : Option Addr} {s o : List Int} (h : FolS w W g1 g3 A c s A3 c3 o) (hb : Below W.heap.size W W2) : FolS w W2 g1 g3 A c s A3 c3 o :=
 ⟨below_step h.bel hb, blk_below h.b1 hb, blk_below h.b3 hb, h.ne, h.ge1, h.ge3, Kd.R_below h.ro hb⟩
theorem FolS.var {w W : World} {g1 g3 c c3 g i tp : Nat} {A A3 : Option Addr} {s o : List Int} {cs : Array Value} (h : FolS w W g1 g3 A c s A3 c3 o) (hg : W.heap[g]? = some (.cells cs tp (0, 0))) (ht : 3 ≠ tp) (h1 : g1 ≠ g) (h3 : g3 ≠ g) (hw : w.heap.size ≤ g) (u : Value) : FolS w (W.setCell ⟨g, i, none⟩ u) g1 g3 A c s A3 c3 o :=
 ⟨below_set h.bel hw, blk_far h.b1 (p := ⟨g, i, none⟩) h1 _, blk_far h.b3 (p := ⟨g, i, none⟩) h3 _, h.ne, h.ge1, h.ge3, R_var h.ro rfl hg ht u⟩
theorem R_addr {α : Type} {d : Kd α} {e base n c : Nat} {ok : Nat → Prop} {W : World} {A : Option Addr} {xs : List α} (h : Kd.R d e W base ok (.slice A n c) xs) (hn : 0 < xs.length) : ∃ b, A = some ⟨b, 0, none⟩ := by
 obtain ⟨b, cb, e, _⟩ := Kd.R_form h hn
 injection e with e1
 exact ⟨b, e1⟩
theorem two_new (W : World) (o o' : Obj) : ((W.alloc o).alloc o').heap[W.heap.size + 1]? = some o' ∧ ((W.alloc o).alloc o').heap[W.heap.size]? = some o := by
 have h1 := blk_new (W.alloc o) o'
 rw [World.size_alloc] at h1
 exact ⟨h1, blk_alloc (blk_new W o) o'⟩
/-- Ahead of the closure's call (the walk stores a function value). -/
theorem fol_start {w W5 : World} {g1 g3 c c3 c5 b3 b5 : Nat} {A : Option Addr} {s o : List Int} (h : FolS w W5 g1 g3 A c s (some ⟨b3, 0, none⟩) c3 o) (h5 : Kd.R Kd.bool 4 W5 w.heap.size (fun _ => True) (.slice (some ⟨b5, 0, none⟩) s.length c5) (List.replicate s.length false)) :
  PutS w ((W5.alloc (.cells #[.slice (some ⟨b5, 0, none⟩) s.length c5] 59)).alloc (.cells #[.func (.func 59) #[] #[.pointer (some ⟨g1, 0, none⟩), .pointer (some ⟨W5.heap.size, 0, none⟩), .pointer (some ⟨g3, 0, none⟩), .pointer (some ⟨W5.heap.size + 1, 0, none⟩)]] 48)) g1 W5.heap.size g3 (W5.heap.size + 1) A c s b5 c5 b3 c3 (List.replicate s.length false) o := by
 have hb := below_alloc (below_alloc (Below.refl W5.heap.size W5) (.cells #[.slice (some ⟨b5, 0, none⟩) s.length c5] 59)) (.cells #[.func (.func 59) #[] #[.pointer (some ⟨g1, 0, none⟩), .pointer (some ⟨W5.heap.size, 0, none⟩), .pointer (some ⟨g3, 0, none⟩), .pointer (some ⟨W5.heap.size + 1, 0, none⟩)]] 48)
 have hf := h.below hb
 exact ⟨hf.bel, hf.b1, (two_new _ _ _).2, hf.b3, (two_new _ _ _).1, Kd.R_below h5 hb, hf.ro⟩
set_option maxHeartbeats 2000000 in
set_option maxRecDepth 100000 in
theorem impl_followers.calls (k : Nat) (A0 : Option Addr) (c0 : Nat) (l0 : List Int) (r : List Int) (w : World) (hr0 : Kd.C (Kd.int .i64) w A0 l0.length l0) (hc0 : l0.length ≤ c0) (h : impl_followers.f k l0 = some r) :
  Calls Try.prog 47 #[.slice A0 l0.length c0] w fun e w' => ∃ v0_ : Value, e = .returned (v0_) ∧ Kd.R (Kd.int .i64) 3 w' w.heap.size (fun _ => True) v0_ r ∧ Below w.heap.size w w' := by
 unfold impl_followers.f at h
 by_cases hn : l0.length ≤ 1024
 ·
  rw [if_pos hn] at h
  have H := asd h
  have HR0 := asd hr0
  have HC0 := asd hc0
  have HB := asd (Below.refl w.heap.size w)
  clear h hr0 hc0
  go_enter Try.func47, Try.ntmps47
  go_wp2_with (first | ((with_reducible refine gate_dst (N := 1) rfl ?_); refine box_event ?hg (N := 1) ?hd (cs := #[.slice A0 l0.length c0]) (t := 22) ?hr ?_; (case hd => rfl); (case hg => rfl); (case hr => first | (go_simp; done) | (go_simp; rfl)); intro g1 g1e W1 g1b W1b; have HB1 := asd (below_step (by repeat (first | exact HB.out | apply pw_below_drewN | apply below_drew1 | apply below_alloc)) W1b); have BK1 := asd g1b; have GE1 := asd ((by rw [g1e]; exact below_size (by repeat (first | exact HB.out | apply pw_below_drewN | apply below_drew1 | apply below_alloc))) : w.heap.size ≤ g1); have q1 : W1.cell? ⟨g1, 0, none⟩ = some (.slice A0 l0.length c0) := (blk_cell BK1.out 0).trans rfl; clear W1b g1b g1e) | ((with_reducible refine gate_dst (N := 7) rfl ?_); refine Kd.R_lit (Kd.int .i64) _ 3 ?hg (N := 7) ?hd (xs := ([-1] : List Int)) (inner := [.int .i64 (-1)]) (ok := fun _ => True) (okp := fun _ => True) ?hr ?hp (fun _ hk => hk) trivial (Below.refl _ _) (Nat.le_refl _) (by simp) ?_; (case hd => rfl); (case hg => rfl); (case hr => first | (go_simp; done) | (go_simp; rfl)); (case hp => exact (Reps.one (show Kd.M (Kd.int .i64) _ _ _ (-1) [.int .i64 (-1)] from rfl) (Reps.none _ _))); intro v7 W2 hR7 hb7 hg7 hn7; have HB2 := asd (below_step HB1.out hb7); have BK12 := asd (blk_below BK1.out hb7); obtain ⟨A7, c7, e7, hc7, hC7⟩ := Kd.R_reads hR7; subst e7; have HC7 := asd hc7; have HR7 := asd hC7; have q2 : W2.cell? ⟨g1, 0, none⟩ = some (.slice A0 l0.length c0) := (blk_cell BK12.out 0).trans rfl; clear hR7 hb7 hg7 hn7 hc7 hC7 q1) | (go_at_call 58; (refine (slices_Repeat_int_int.calls A7 c7 (-1) l0.length W2 HR7.out HC7.out hn).mono ?_); rintro e W3 ⟨v3, rfl, hR3, hb3⟩; have HR3 := asd (Kd.R_lower hR3 (below_size HB2.out)); have HB3 := asd (below_step HB2.out hb3); have BK13 := asd (blk_below BK12.out hb3); obtain ⟨A3, c3, e3⟩ := Kd.R_slice hR3; rw [List.length_replicate] at e3; subst e3; clear hR3 hb3 q2) | ((with_reducible refine gate_dst (N := 3) rfl ?_); refine box_event ?hg (N := 3) ?hd (cs := #[.slice none 0 0]) (t := 22) ?hr ?_; (case hd => rfl); (case hg => rfl); (case hr => first | (go_simp; done) | (go_simp; rfl)); intro g3 g3e W4 g3b W4b; have HB4 := asd (below_step (by repeat (first | exact HB3.out | apply pw_below_drewN | apply below_drew1 | apply below_alloc)) W4b); have BK3 := asd g3b; have GE3 := asd ((by rw [g3e]; exact below_size (by repeat (first | exact HB3.out | apply pw_below_drewN | apply below_drew1 | apply below_alloc))) : w.heap.size ≤ g3); have hne : g1 ≠ g3 := (by have := blk_lt BK13.out; omega); have BK14 := asd (blk_below BK13.out W4b); have HR4 := asd (Kd.R_below HR3.out W4b); have hc3 : W4.cell? ⟨g3, 0, none⟩ = some (.slice none 0 0) := (blk_cell BK3.out 0).trans rfl; have hf3 : W4.frozen? ⟨g3, 0, none⟩ = false := blk_frozen BK3.out 0; have HF := asd (⟨below_set HB4.out GE3.out, blk_far BK14.out (p := ⟨g3, 0, none⟩) hne _, blk_put BK3.out 0 _ rfl, hne, GE1.out, GE3.out, R_var HR4.out rfl BK3.out (by decide) _⟩ : FolS w (W4.setCell ⟨g3, 0, none⟩ (.slice A3 l0.length c3)) g1 g3 A0 c0 l0 A3 c3 (List.replicate l0.length (-1))); have q4 := (blk_cell HF.out.b1 0).trans rfl; clear W4b g3b g3e))
  clear hc3 hf3 q4 HB1 BK1 HB2 BK12 HC7 HR7 HB3 BK13 HR3 BK3 BK14 HR4 HB4 GE1 GE3
  go_loopg [13] l0.length (fun kq v13 wr => ∃ (j : Nat) (o : List Int), v13 = .int .i64 (j : Int) ∧ Aside0 (j + kq = l0.length) ∧ Aside0 (folL l0 k kq (j : Int) o = some r) ∧ Aside0 (FolS w wr g1 g3 A0 c0 l0 A3 c3 o))
  case atStart => exact ⟨0, _, rfl, ⟨by omega⟩, H, HF⟩
  case round =>
   clear H HF
   obtain ⟨j, o, rfl, hj, H, HF⟩ := hrel
   have hjl := hj.out
   cases gk with
   | zero =>
    obtain rfl : j = l0.length := by omega
    have hlt : ¬ (l0.length : Int) < (l0.length : Int) := by omega
    obtain rfl : o = r := Option.some.inj H.out
    have q3 : wr.cell? ⟨g3, 0, none⟩ = some (.slice A3 l0.length c3) := (blk_cell HF.out.b3 0).trans rfl
    go_wp2
    go_ret
    exact ⟨_, rfl, HF.out.ro, HF.out.bel⟩
   | succ kn =>
    have hlt : (j : Int) < (l0.length : Int) := by omega
    obtain ⟨⟨r1, t1, o1⟩, hp, hf⟩ := Option.bind_eq_some_iff.1 H.out
    have HP := asd hp
    have HN := asd hf
    clear H hp hf
    have q1 : wr.cell? ⟨g1, 0, none⟩ = some (.slice A0 l0.length c0) := (blk_cell HF.out.b1 0).trans rfl
    have hz5 : List.replicate (l0.length : Int).toNat false = List.replicate l0.length false := by rw [Int.toNat_natCast]
    have HZ5 := asd hz5
    clear hz5
    go_wp2_with (first | ((with_reducible refine gate_dst (N := 18) rfl ?_); refine Kd.R_make Kd.bool _ 4 rfl (N := 18) rfl 59 _ _ rfl (l0.length : Int) rfl rfl Try.underlying59 (.bool false) 1 info4 rfl (by decide) (by omega) false (ok := fun _ => True) (okp := fun _ => True) rfl (fun _ hk => hk) trivial (by omega) (by omega) (Below.refl _ _) (Nat.le_refl _) ?_; intro v18 W5 hR5 hb5 hg5 hn5; rw [HZ5.out] at hR5; have HR5 := asd (Kd.R_lower hR5 (below_size HF.out.bel)); have HF5 := asd (HF.out.below hb5); obtain ⟨A5, c5, e5⟩ := Kd.R_slice hR5; rw [List.length_replicate] at e5; subst e5; obtain ⟨b5, eb5⟩ := R_addr hR5 (by rw [List.length_replicate]; omega); subst eb5; obtain ⟨b3, eb3⟩ := R_addr HF.out.ro (by have := (Kd.R_reads' HF.out.ro).1; omega); subst eb3; clear hR5 hb5 hg5 hn5 q1) | (go_at_call 59; (refine (impl_followers_1.calls A0 c0 l0 g1 W5.heap.size g3 (W5.heap.size + 1) b5 c5 b3 c3 w HR0.out HC0.out k (List.replicate l0.length false) o (j : Int) r1 t1 o1 _ (fol_start HF5.out HR5.out) HP.out).mono ?_); rintro e W7 ⟨rfl, hS7⟩; have HF7 := asd (⟨hS7.bel, hS7.b1, hS7.b3, HF5.out.ne, HF5.out.ge1, HF5.out.ge3, hS7.ro⟩ : FolS w W7 g1 g3 A0 c0 l0 (some ⟨b3, 0, none⟩) c3 o1); clear hS7))
    go_roundg kn
    case measure => exact Nat.le_refl _
    case rel => exact ⟨j + 1, o1, by first | rfl | go_num, ⟨by omega⟩, HN, HF7⟩
 ·
  rw [if_neg hn] at h
  cases h

-- HAND with impl.followers+impl.followers$1+spec.cnMatch+spec.cnGet+spec.cnParts+slices.Repeat[[]int,int]
theorem match_fill {s : List Int} (hsz : s.length < 1048577) {r : List Int} (h : Ev (fun k => spec_cnMatch.l1 k s (List.replicate s.length (-1)) (List.replicate s.length (-1)) s.length 0) r) : ∀ (d i : Nat), s.length - i = d → i ≤ s.length → Ev (fun k => spec_cnMatch.l0 k s (repL (-1) s.length i) (repL (-1) s.length i) s.length i) r
  | 0, i, hd, hi => by
    obtain rfl : i = s.length := by omega
    exact Ev.succ (fun k => by simp only [spec_cnMatch.l0]; rw [if_neg (by omega), repL_all]) h
  | d + 1, i, hd, hi => by
    have hn := match_fill hsz h d (i + 1) (by omega) (by omega)
    push_cast at hn
    have hws : wrap64 ((i : Int) + 1) = i + 1 := wrap_succ (by omega) (by omega)
    have hl := repL_len (-1) hi
    exact Ev.succ (fun k => by simp only [spec_cnMatch.l0]; rw [if_pos (by omega), if_pos (by omega), if_pos (by rw [hl]; omega), if_pos (by rw [hl]; omega), hws, Int.toNat_natCast, repL_set (-1) (by omega)]) hn
theorem top_ok {s : List Int} (hsz : s.length < 1048577) (hup : ∀ x y : Nat, x < s.length → y < s.length → x ≠ y → partV (rd s x) (rd s y) = true → x < y) : ∀ (d i : Nat) (b o : List Int), s.length - i = d → i ≤ s.length → Pair s.length b o → (∀ x : Nat, i ≤ x → x < s.length → rd b x < 0) → cntP b = cntP o →
    ∃ b' o' : List Int, Ev (fun k => folL s k d i o) o' ∧ Ev (fun k => spec_cnMatch.l1 k s b o s.length i) b' ∧ Pair s.length b' o' ∧ cntP b' = cntP o'
  | 0, i, b, o, hd, hi, hP, hb, hc => ⟨b, o, Ev.const rfl, Ev.succ (fun k => by simp only [spec_cnMatch.l1]; rw [if_neg (by omega)]) (Ev.const rfl), hP, hc⟩
  | d + 1, i, b, o, hd, hi, hP, hb, hc => by
    have hlt : i < s.length := by omega
    have hbi := hb i (Nat.le_refl _) hlt
    have hws : wrap64 ((i : Int) + 1) = i + 1 := wrap_succ (by omega) (by omega)
    obtain ⟨r, b1, o1, t1, e1, e2, _, _, _, hF, hT⟩ := put_ok hsz hup (unT (List.replicate s.length false)) s.length b o (List.replicate s.length false) 0 i hP List.length_replicate hlt (fun h => absurd hbi (by omega)) (Nat.le_refl _) (by omega) (Nat.zero_le _)
    have key : Pair s.length b1 o1 ∧ (∀ x : Nat, i + 1 ≤ x → x < s.length → rd b1 x < 0) ∧ cntP b1 = cntP o1 := by
      cases r with
      | false =>
        obtain ⟨rfl, rfl⟩ := hF rfl
        exact ⟨hP, fun x hx hx2 => hb x (by omega) hx2, hc⟩
      | true =>
        have G := hT rfl
        refine ⟨⟨G.lb, G.lo, G.rb, G.ro, fun x y hx hy => G.bo x y hx hy (by omega), G.up⟩, fun x hx hx2 => ?_, ?_⟩
        · rw [G.keep x hx2 (by omega) (.inl (hb x (by omega) hx2))]
          exact hb x (by omega) hx2
        · rw [G.cb, G.co, if_pos hbi, hc]
    obtain ⟨b2, o2, f1, f2, hP2, hc2⟩ := top_ok hsz hup d (i + 1) b1 o1 (by omega) (by omega) key.1 key.2.1 key.2.2
    push_cast at f1 f2
    refine ⟨b2, o2, Ev.bind e1 f1, Ev.succ (fun k => by simp only [spec_cnMatch.l1]; rw [if_pos (by omega), if_pos (by omega), if_pos (by omega), Int.toNat_natCast, hws]) (Ev.bind (Ev.succ (fun k => by simp only [spec_cnGet.f]; rfl) e2) f2), hP2, hc2⟩
theorem rd_rep (n x : Nat) (h : x < n) (v : Int) : rd (List.replicate n v) (x : Int) = v := by
  rw [rd_get (by rw [List.length_replicate]; exact h), List.getElem_replicate]
theorem match_ok {s : List Int} (hlen : s.length ≤ 1024) (hup : ∀ x y : Nat, x < s.length → y < s.length → x ≠ y → partV (rd s x) (rd s y) = true → x < y) :
    ∃ b o : List Int, Ev (fun k => impl_followers.f k s) o ∧ Ev (fun k => spec_cnMatch.f k s) b ∧ Pair s.length b o ∧ cntP b = cntP o := by
  have hr := fun (x : Nat) (hx : x < s.length) => rd_rep s.length x hx (-1)
  obtain ⟨b, o, f1, f2, hP, hc⟩ := top_ok (s := s) (by omega) hup s.length 0 (List.replicate s.length (-1)) (List.replicate s.length (-1)) (by omega) (Nat.zero_le _) ⟨List.length_replicate, List.length_replicate, fun x hx => by rw [hr x hx]; omega, fun x hx => by rw [hr x hx]; omega, fun x y hx hy => by rw [hr x hx, hr y hy]; constructor <;> (intro h; omega), fun y hy h => by rw [hr y hy] at h; omega⟩ (fun x _ hx => by rw [hr x hx]; decide) rfl
  refine ⟨b, o, ?_, ?_, hP, hc⟩
  · unfold impl_followers.f
    exact Ev.to (fun k => by rw [if_pos hlen]; rfl) f1
  · unfold spec_cnMatch.f
    have := match_fill (s := s) (by omega) (r := b) f2 s.length 0 (by omega) (Nat.zero_le _)
    exact Ev.to (fun k => by rw [if_pos (by omega), if_pos (by omega), Int.toNat_natCast]; rfl) this

-- HAND with impl.followers+impl.followers$1+spec.cnMatch+impl.part
/-- The paths of a space: both match them alike. -/
theorem pathsMatch {n : Int} {l : List Int} (hS : isSpaceB n l = true) : (pathsL (famOf l) l).length ≤ 1024 ∧ ∃ b o : List Int, Ev (fun k => impl_followers.f k (pathsL (famOf l) l)) o ∧ Ev (fun k => spec_cnMatch.f k (pathsL (famOf l) l)) b ∧ Pair (pathsL (famOf l) l).length b o ∧ cntP b = cntP o := by
  have hr := risingB_rise (isSpaceB_parts hS).2.2.2.1
  have hll := isSpaceB_len hS
  have hPl : (pathsL (famOf l) l).length ≤ 1024 := Nat.le_trans (List.length_filter_le _ _) (by omega)
  exact ⟨hPl, match_ok hPl (parts_up (paths_rise hr) (fun x hx => isSpaceB_128 hS x (pathsL_mem hx).1))⟩

-- HAND with impl.followers$1+impl.part+impl.followers
/-- What follows has what it follows. -/
def UpP (s o : List Int) : Prop := ∀ y : Nat, y < o.length → 0 ≤ rd o (y : Int) → partV (rd s y) (rd s (rd o y)) = true
theorem upP_set {s o : List Int} (h : UpP s o) {u v : Int} (hu : 0 ≤ u) (hp : partV (rd s u) (rd s v) = true) : UpP s (o.set u.toNat v) := by
  intro y hl2 hy
  rw [List.length_set] at hl2
  by_cases hl : u.toNat < o.length
  · rw [rd_set o hl] at hy ⊢
    by_cases e : u.toNat = y
    · rw [if_pos e] at hy ⊢
      have e2 : (y : Int) = u := by omega
      rw [e2]
      exact hp
    · rw [if_neg e] at hy ⊢
      exact h y hl2 hy
  · rw [List.set_eq_of_length_le (by omega)] at hy ⊢
    exact h y hl2 hy
theorem putL_part (s : List Int) : ∀ (k : Nat) (t : List Bool) (o : List Int) (v u : Int) (r : Bool × List Bool × List Int), 0 ≤ u → UpP s o → putL s k t o v u = some r → UpP s r.2.2
  | 0, t, o, v, u, r, _, _, h => by simp [putL] at h
  | k + 1, t, o, v, u, r, hu, ho, h => by
    unfold putL at h
    split at h
    · split at h
      · split at h
        · exact putL_part s k _ _ _ _ _ (by omega) ho h
        · split at h
          · exact putL_part s k _ _ _ _ _ (by omega) ho h
          · rename_i hp
            have hp : partV (rd s u) (rd s v) = true := by
              cases e : partV (rd s u) (rd s v)
              · exact absurd e hp
              · rfl
            split at h
            · exact putL_part s k _ _ _ _ _ (by omega) ho h
            · split at h
              · obtain rfl := Option.some.inj h
                exact upP_set ho hu hp
              · obtain ⟨r1, h1, h2⟩ := Option.bind_eq_some_iff.1 h
                have i1 := putL_part s k _ _ _ _ _ (by omega) ho h1
                split at h2
                · obtain rfl := Option.some.inj h2
                  exact upP_set i1 hu hp
                · exact putL_part s k _ _ _ _ _ (by omega) i1 h2
      · obtain rfl := Option.some.inj h
        exact ho
    · cases h
theorem folL_part (s : List Int) (k : Nat) : ∀ (m : Nat) (v : Int) (o r : List Int), UpP s o → folL s k m v o = some r → UpP s r
  | 0, _, o, r, ho, h => by rw [← show o = r from Option.some.inj h]; exact ho
  | m + 1, v, o, r, ho, h => by
    obtain ⟨r1, h1, h2⟩ := Option.bind_eq_some_iff.1 h
    exact folL_part s k m _ _ _ (putL_part s k _ _ _ _ _ (Int.le_refl 0) ho h1) h2
theorem followers_part {s o : List Int} (h : Ev (fun k => impl_followers.f k s) o) : UpP s o := by
  obtain ⟨k0, h0⟩ := h
  have h1 := h0 k0 (Nat.le_refl _)
  unfold impl_followers.f at h1
  split at h1
  · refine folL_part s _ _ _ _ _ ?_ h1
    intro y hl hy
    rw [rd_get hl, List.getElem_replicate] at hy
    exact absurd hy (by decide)
  · cases h1

/-! ### slices_Index_int_int: function 62 -/
def slices_Index_int_int.l0 : Nat → List Int → Int → Int → Int → Option (Int)
  | 0, _, _, _, _ => none
  | k + 1, x0, x1, x7, x8 => if x8 < x7 then (if 0 ≤ x8 then (if x8 < (x0.length : Int) then (if x1 = (rd x0 x8) then (some x8) else (slices_Index_int_int.l0 k x0 x1 x7 (wrap64 (x8 + 1)))) else (none)) else (none)) else (some (-1))
def slices_Index_int_int.f (k : Nat) (l0 : List Int) (a1 : Int) : Option (Int) := slices_Index_int_int.l0 k l0 a1 (l0.length : Int) 0
theorem slices_Index_int_int.mono_l : ∀ k, (∀ y0 y1 y2 y3, LeO (slices_Index_int_int.l0 k y0 y1 y2 y3) (slices_Index_int_int.l0 (k + 1) y0 y1 y2 y3))
  | 0 => fun _ _ _ _ r h => by simp [slices_Index_int_int.l0] at h
  | k + 1 => by
    have ih0 := slices_Index_int_int.mono_l k
    · intro y0 y1 y2 y3
      unfold slices_Index_int_int.l0
      repeat' first
      | (with_reducible exact ih0 _ _ _ _)
      | (with_reducible exact LeO.refl _)
      | (with_reducible exact LeO.none _)
      | (with_reducible refine LeO.ite ?_ ?_)
      | (with_reducible refine LeO.bind ?_ (fun _ => ?_))
      | exact ih0 _ _ _ _
      | exact LeO.none _
      | refine LeO.ite ?_ ?_
      | refine LeO.bind ?_ (fun _ => ?_)
theorem slices_Index_int_int.mono : ∀ a0 a1 k, LeO (slices_Index_int_int.f k a0 a1) (slices_Index_int_int.f (k + 1) a0 a1) := by
  intro a0 a1 k
  have ih0 := slices_Index_int_int.mono_l k
  unfold slices_Index_int_int.f
  repeat' first
      | (with_reducible exact ih0 _ _ _ _)
      | (with_reducible exact LeO.refl _)
      | (with_reducible exact LeO.none _)
      | (with_reducible refine LeO.ite ?_ ?_)
      | (with_reducible refine LeO.bind ?_ (fun _ => ?_))
      | exact ih0 _ _ _ _
      | exact LeO.none _
      | refine LeO.ite ?_ ?_
      | refine LeO.bind ?_ (fun _ => ?_)
set_option maxHeartbeats 8000000 in
set_option maxRecDepth 100000 in
theorem slices_Index_int_int.calls (k : Nat) (A0 : Option Addr) (c0 : Nat) (l0 : List Int) (a1 : Int) (r : Int) (w : World) (hr0 : Kd.C (Kd.int .i64) w A0 l0.length l0) (hc0 : l0.length ≤ c0) (h : slices_Index_int_int.f k l0 a1 = some r) :
    Calls Try.prog 62 #[.slice A0 l0.length c0, .int .i64 a1] w fun e w' => e = .returned (.int .i64 r) ∧ Drawn0 w w' := by
  have HR0 := Aside0.mk hr0
  have HC0 := Aside0.mk hc0
  clear hr0 hc0
  have H : (slices_Index_int_int.l0 k l0 a1 (l0.length : Int) 0) = some r := h
  clear h
  have H' := Aside0.mk H
  clear H
  go_enter Try.func62, Try.ntmps62
  go_wp2
  go_loopg [8] k (fun kq v8 w' => ∃ (x8_1 : Int), v8 = .int .i64 x8_1 ∧ Aside0 (slices_Index_int_int.l0 kq l0 a1 (l0.length : Int) x8_1 = some r) ∧ Aside0 (kq ≤ k) ∧ Drawn0 w w')
  case atStart => exact ⟨(0), (by first | rfl | (simp; done) | (simp [*]; done)), H', ⟨Nat.le_refl _⟩, by repeat (first | exact Drawn0.refl _ | apply Drawn0.step)⟩
  case round =>
    clear H'
    try clear p2
    skip
    obtain ⟨x8_1, rfl, HA, HK1, ⟨m1, rfl⟩⟩ := hrel
    cases gk with
    | zero => exact absurd HA.out (by simp [slices_Index_int_int.l0])
    | succ k1 =>
      have H := HA.out
      clear HA
      simp only [slices_Index_int_int.l0] at H
      by_cases c3 : x8_1 < (l0.length : Int)
      · rw [if_pos c3] at H
        have c3b0 : decide (x8_1 < (l0.length : Int)) = true := decide_eq_true c3
        clear c3
        by_cases c4 : 0 ≤ x8_1
        · rw [if_pos c4] at H
          have c4b0 : decide (0 ≤ x8_1) = true := decide_eq_true c4
          clear c4
          by_cases c5 : x8_1 < (l0.length : Int)
          · rw [if_pos c5] at H
            have c5b0 : decide (x8_1 < (l0.length : Int)) = true := decide_eq_true c5
            clear c5
            by_cases c6 : a1 = (rd l0 x8_1)
            · rw [if_pos c6] at H
              have c6b0 : (a1 == (rd l0 x8_1)) = true := beq_iff_eq.mpr c6
              have c6b1 : (a1 != (rd l0 x8_1)) = false := bne_eq_false_iff_eq.mpr c6
              clear c6
              obtain rfl := Option.some.inj H
              have p101 : 0 ≤ (x8_1 : Int) := of_decide_eq_true (by first | (with_reducible assumption) | assumption)
              have q101 : x8_1 < (l0.length : Int) := of_decide_eq_true (by first | (with_reducible assumption) | assumption)
              obtain ⟨ad101, e101, hx101_0⟩ := Kd.at_int HR0.out x8_1 p101 q101
              cases e101
              replace p101 := eq_true p101
              replace q101 := eq_true q101
              go_wp2
              go_ret
              exact ⟨by first | rfl | (simp; done) | (simp [*]; done), by repeat (first | exact Drawn0.refl _ | apply Drawn0.step)⟩
            · rw [if_neg c6] at H
              have c6b0 : (a1 == (rd l0 x8_1)) = false := beq_eq_false_iff_ne.mpr c6
              have c6b1 : (a1 != (rd l0 x8_1)) = true := bne_iff_ne.mpr c6
              have H' := Aside0.mk H
              clear H
              have p101 : 0 ≤ (x8_1 : Int) := of_decide_eq_true (by first | (with_reducible assumption) | assumption)
              have q101 : x8_1 < (l0.length : Int) := of_decide_eq_true (by first | (with_reducible assumption) | assumption)
              obtain ⟨ad101, e101, hx101_0⟩ := Kd.at_int HR0.out x8_1 p101 q101
              cases e101
              replace p101 := eq_true p101
              replace q101 := eq_true q101
              go_wp2
              go_roundg k1
              case measure => have := HK1.out; omega
              case rel => exact ⟨(wrap64 (x8_1 + 1)), (by first | rfl | (simp; done) | (simp [*]; done)), H', ⟨by have := HK1.out; omega⟩, by repeat (first | exact Drawn0.refl _ | apply Drawn0.step)⟩
          · rw [if_neg c5] at H
            exact absurd H (by simp)
        · rw [if_neg c4] at H
          exact absurd H (by simp)
      · rw [if_neg c3] at H
        have c3b0 : decide (x8_1 < (l0.length : Int)) = false := decide_eq_false c3
        clear c3
        obtain rfl := Option.some.inj H
        go_wp2
        go_ret
        exact ⟨by first | rfl | (simp; done) | (simp [*]; done), by repeat (first | exact Drawn0.refl _ | apply Drawn0.step)⟩

/-! ### slices_Contains_int_int: function 49 -/
def slices_Contains_int_int.f (k : Nat) (l0 : List Int) (a1 : Int) : Option (Bool) := (slices_Index_int_int.f k l0 a1).bind fun t101 => (some (decide (t101 ≥ 0)))
theorem slices_Contains_int_int.mono : ∀ a0 a1 k, LeO (slices_Contains_int_int.f k a0 a1) (slices_Contains_int_int.f (k + 1) a0 a1) := by
  intro a0 a1 k
  unfold slices_Contains_int_int.f
  repeat' first
      | (with_reducible exact slices_Index_int_int.mono _ _ _)
      | (with_reducible exact LeO.refl _)
      | (with_reducible exact LeO.none _)
      | (with_reducible refine LeO.ite ?_ ?_)
      | (with_reducible refine LeO.bind ?_ (fun _ => ?_))
      | exact slices_Index_int_int.mono _ _ _
      | exact LeO.none _
      | refine LeO.ite ?_ ?_
      | refine LeO.bind ?_ (fun _ => ?_)
set_option maxHeartbeats 8000000 in
set_option maxRecDepth 100000 in
theorem slices_Contains_int_int.calls (k : Nat) (A0 : Option Addr) (c0 : Nat) (l0 : List Int) (a1 : Int) (r : Bool) (w : World) (hr0 : Kd.C (Kd.int .i64) w A0 l0.length l0) (hc0 : l0.length ≤ c0) (h : slices_Contains_int_int.f k l0 a1 = some r) :
    Calls Try.prog 49 #[.slice A0 l0.length c0, .int .i64 a1] w fun e w' => e = .returned (.bool r) ∧ Drawn0 w w' := by
  have HR0 := Aside0.mk hr0
  have HC0 := Aside0.mk hc0
  clear hr0 hc0
  have H : ((slices_Index_int_int.f k l0 a1).bind fun t101 => (some (decide (t101 ≥ 0)))) = some r := h
  clear h
  replace H := Option.bind_eq_some_iff.mp H
  obtain ⟨t101, A30, H⟩ := H
  replace H : (some (decide (t101 ≥ 0))) = some r := H
  have A3 := Aside0.mk A30
  clear A30
  obtain rfl := Option.some.inj H
  go_enter Try.func49, Try.ntmps49
  go_wp2_with (first | ((with_reducible refine gate_callee (f := 62) rfl ?_); refine goesL_ (some 7) rfl rfl Try.func62 (by kernel_rfl) rfl #[.slice A0 l0.length c0, .int .i64 a1] rfl (by (try simp only [List.map_toArray, List.map_cons, List.map_nil]); first | done | rfl | (simp only [List.length_drop, List.length_take]; rfl)) ?_; (with_reducible refine (slices_Index_int_int.calls k _ _ l0 a1 t101 _ ?side1 ?side2 A3.out).mono ?_); (case side1 => repeat (first | exact HR0.out | (with_reducible refine Kd.C_alloc ?_ _) | (with_reducible refine Kd.C_drewN ?_ _) | (with_reducible refine Kd.C_drew ?_))); (case side2 => exact HC0.out); rintro e w' ⟨rfl, ⟨nd, rfl⟩⟩; refine ⟨_, rfl, ?_⟩))
  go_ret
  exact ⟨by first | rfl | (simp; done) | (simp [*]; done), by repeat (first | exact Drawn0.refl _ | apply Drawn0.step)⟩

-- HAND with slices.Contains[[]int,int]+slices.Index[[]int,int]
theorem sIndex_loop (l : List Int) (a : Int) (hlen : l.length < 9223372036854775807) : ∀ (d i : Nat), l.length - i = d → i ≤ l.length → (∀ j : Nat, j < i → rd l j ≠ a) → ∃ r, Ev (fun k => slices_Index_int_int.l0 k l a l.length i) r ∧ (0 ≤ r ↔ a ∈ l) := by
  intro d
  induction d with
  | zero =>
    intro i hd hi hj
    refine ⟨-1, Ev.succ (fun k => by simp only [slices_Index_int_int.l0]; rw [if_neg (by omega)]) (Ev.const rfl), ⟨fun h => absurd h (by decide), fun h => ?_⟩⟩
    obtain ⟨j, hj1, rfl⟩ := List.getElem_of_mem h
    exact absurd (rd_get hj1) (hj j (by omega))
  | succ d ih =>
    intro i hd hi hj
    by_cases e : a = rd l (i : Int)
    · refine ⟨i, Ev.succ (fun k => by simp only [slices_Index_int_int.l0]; rw [if_pos (by omega), if_pos (by omega), if_pos (by omega), if_pos e]) (Ev.const rfl), ⟨fun _ => by rw [e]; exact rd_mem (by omega) (by omega), fun _ => by omega⟩⟩
    · obtain ⟨r, h1, h2⟩ := ih (i + 1) (by omega) (by omega) (fun j hji => by
        rcases Nat.lt_or_ge j i with h | h
        · exact hj j h
        · obtain rfl : j = i := by omega
          exact fun h => e h.symm)
      exact ⟨r, Ev.succ (fun k => by simp only [slices_Index_int_int.l0]; rw [if_pos (by omega), if_pos (by omega), if_pos (by omega), if_neg e, wrap_succ (by omega) (by omega)]; push_cast; rfl) h1, h2⟩
theorem sContains_ok (l : List Int) (a : Int) (hlen : l.length < 9223372036854775807) : Ev (fun k => slices_Contains_int_int.f k l a) (decide (a ∈ l)) := by
  unfold slices_Contains_int_int.f
  obtain ⟨r, h1, h2⟩ := sIndex_loop l a hlen l.length 0 (by omega) (by omega) (fun j h => absurd h (Nat.not_lt_zero _))
  refine Ev.bind (show Ev (fun k => slices_Index_int_int.f k l a) r from h1) (Ev.const (congrArg some ?_))
  rw [decide_eq_decide]
  exact h2

/-! ### impl_Space_chains: function 31 -/
mutual
def impl_Space_chains.l0 : Nat → List Int → List Int → List (List Int) → Int → Int → Option ((List (List Int)))
 | 0, _, _, _, _, _ => none
 | k + 1, x3, x4, x5, x15, x16 => if x16 < x15 then ((slices_Contains_int_int.f k x4 x16).bind fun t111 => (if t111 = true then (impl_Space_chains.l0 k x3 x4 x5 x15 (wrap64 (x16 + 1))) else (impl_Space_chains.l1 k x3 x4 x5 (([] : List Int)) x16 x15 x16))) else (some x5)
def impl_Space_chains.l1 : Nat → List Int → List Int → List (List Int) → List Int → Int → Int → Int → Option ((List (List Int)))
 | 0, _, _, _, _, _, _, _ => none
 | k + 1, x3, x4, x5, x7, x8, x15, x16 => if x8 ≥ 0 then (if 0 ≤ x8 then (if x8 < (x3.length : Int) then (if x7.length < 17592186044416 then (if x8 < (x4.length : Int) then (impl_Space_chains.l1 k x3 x4 x5 (x7 ++ [rd x3 x8]) (rd x4 x8) x15 x16) else (none)) else (none)) else (none)) else (none)) else (if x5.length < 5864062014805 then (impl_Space_chains.l0 k x3 x4 (x5 ++ [x7]) x15 (wrap64 (x16 + 1))) else (none))
end
def impl_Space_chains.f (k : Nat) (a0_0 : Int) (l0_1 : List Int) : Option ((List (List Int))) := (impl_Space_paths.f k a0_0 l0_1).bind fun t102 => ((impl_followers.f k t102).bind fun t105 => (impl_Space_chains.l0 k t102 t105 (([] : List (List Int))) (t102.length : Int) 0))
theorem impl_Space_chains.mono_l : ∀ k, (∀ y0 y1 y2 y3 y4, LeO (impl_Space_chains.l0 k y0 y1 y2 y3 y4) (impl_Space_chains.l0 (k + 1) y0 y1 y2 y3 y4)) ∧ (∀ y0 y1 y2 y3 y4 y5 y6, LeO (impl_Space_chains.l1 k y0 y1 y2 y3 y4 y5 y6) (impl_Space_chains.l1 (k + 1) y0 y1 y2 y3 y4 y5 y6))
 | 0 => ⟨fun _ _ _ _ _ r h => by simp [impl_Space_chains.l0] at h, fun _ _ _ _ _ _ _ r h => by simp [impl_Space_chains.l1] at h⟩
 | k + 1 => by
  obtain ⟨ih0, ih1⟩ := impl_Space_chains.mono_l k
  refine ⟨?_, ?_⟩
  ·
   intro y0 y1 y2 y3 y4
   unfold impl_Space_chains.l0
   repeat' first
   | (with_reducible exact ih0 _ _ _ _ _)
   | (with_reducible exact ih1 _ _ _ _ _ _ _)
   | (with_reducible exact impl_Space_paths.mono _ _ _)
   | (with_reducible exact impl_followers.mono _ _)
   | (with_reducible exact slices_Contains_int_int.mono _ _ _)
   | (with_reducible exact LeO.refl _)
   | (with_reducible exact LeO.none _)
   | (with_reducible refine LeO.ite ?_ ?_)
   | (with_reducible refine LeO.bind ?_ (fun _ => ?_))
   | exact ih0 _ _ _ _ _
   | exact ih1 _ _ _ _ _ _ _
   | exact impl_Space_paths.mono _ _ _
   | exact impl_followers.mono _ _
   | exact slices_Contains_int_int.mono _ _ _
   | exact LeO.none _
   | refine LeO.ite ?_ ?_
   | refine LeO.bind ?_ (fun _ => ?_)
  ·
   intro y0 y1 y2 y3 y4 y5 y6
   unfold impl_Space_chains.l1
   repeat' first
   | (with_reducible exact ih0 _ _ _ _ _)
   | (with_reducible exact ih1 _ _ _ _ _ _ _)
   | (with_reducible exact impl_Space_paths.mono _ _ _)
   | (with_reducible exact impl_followers.mono _ _)
   | (with_reducible exact slices_Contains_int_int.mono _ _ _)
   | (with_reducible exact LeO.refl _)
   | (with_reducible exact LeO.none _)
   | (with_reducible refine LeO.ite ?_ ?_)
   | (with_reducible refine LeO.bind ?_ (fun _ => ?_))
   | exact ih0 _ _ _ _ _
   | exact ih1 _ _ _ _ _ _ _
   | exact impl_Space_paths.mono _ _ _
   | exact impl_followers.mono _ _
   | exact slices_Contains_int_int.mono _ _ _
   | exact LeO.none _
   | refine LeO.ite ?_ ?_
   | refine LeO.bind ?_ (fun _ => ?_)
theorem impl_Space_chains.mono : ∀ a0 a1 k, LeO (impl_Space_chains.f k a0 a1) (impl_Space_chains.f (k + 1) a0 a1) := by
 intro a0 a1 k
 obtain ⟨ih0, ih1⟩ := impl_Space_chains.mono_l k
 unfold impl_Space_chains.f
 repeat' first
   | (with_reducible exact ih0 _ _ _ _ _)
   | (with_reducible exact ih1 _ _ _ _ _ _ _)
   | (with_reducible exact impl_Space_paths.mono _ _ _)
   | (with_reducible exact impl_followers.mono _ _)
   | (with_reducible exact slices_Contains_int_int.mono _ _ _)
   | (with_reducible exact LeO.refl _)
   | (with_reducible exact LeO.none _)
   | (with_reducible refine LeO.ite ?_ ?_)
   | (with_reducible refine LeO.bind ?_ (fun _ => ?_))
   | exact ih0 _ _ _ _ _
   | exact ih1 _ _ _ _ _ _ _
   | exact impl_Space_paths.mono _ _ _
   | exact impl_followers.mono _ _
   | exact slices_Contains_int_int.mono _ _ _
   | exact LeO.none _
   | refine LeO.ite ?_ ?_
   | refine LeO.bind ?_ (fun _ => ?_)
set_option maxHeartbeats 8000000 in
set_option maxRecDepth 100000 in
theorem impl_Space_chains.calls (k : Nat) (a0_0 : Int) (A0_1 : Option Addr) (c0_1 : Nat) (l0_1 : List Int) (r : List (List Int)) (w : World) (hr0_1 : Kd.C (Kd.int .i64) w A0_1 l0_1.length l0_1) (hc0_1 : l0_1.length ≤ c0_1) (h : impl_Space_chains.f k a0_0 l0_1 = some r) :
  Calls Try.prog 31 #[.agg #[.int .i64 a0_0, .slice A0_1 l0_1.length c0_1]] w fun e w' => ∃ v0_ : Value, e = .returned (v0_) ∧ Kd.S (Kd.slice 3 (Kd.int .i64)) 22 w' w.heap.size (fun _ => True) v0_ r ∧ Below w.heap.size w w' := by
 have hu28 := Try.underlying28
 have HR0_1 := asd hr0_1
 have HC0_1 := asd hc0_1
 clear hr0_1 hc0_1
 have HB := asd (Below.refl w.heap.size w)
 have H : ((impl_Space_paths.f k a0_0 l0_1).bind fun t102 => ((impl_followers.f k t102).bind fun t105 => (impl_Space_chains.l0 k t102 t105 (([] : List (List Int))) (t102.length : Int) 0))) = some r := h
 clear h
 replace H := Option.bind_eq_some_iff.mp H
 obtain ⟨t102, A20, H⟩ := H
 replace H : ((impl_followers.f k t102).bind fun t105 => (impl_Space_chains.l0 k t102 t105 (([] : List (List Int))) (t102.length : Int) 0)) = some r := H
 have A2 := asd A20
 clear A20
 replace H := Option.bind_eq_some_iff.mp H
 obtain ⟨t105, A30, H⟩ := H
 replace H : (impl_Space_chains.l0 k t102 t105 (([] : List (List Int))) (t102.length : Int) 0) = some r := H
 have A3 := asd A30
 clear A30
 obtain ⟨y108, hy108⟩ : ∃ y_ : List (List Int), y_ = (([] : List (List Int))) := ⟨_, rfl⟩
 replace H : (impl_Space_chains.l0 k t102 t105 y108 (t102.length : Int) 0) = some r := by first | (rw [hy108]; with_reducible exact H) | (have H2_ := (Option.bind_some _ _).symm.trans H; rw [hy108]; with_reducible exact H2_) | (have H2_ := (Option.bind_some _ _).symm.trans H; with_reducible exact H2_) | with_reducible exact H | (rw [hy108]; exact H) | exact H
 have Ny108 := asd hy108
 clear hy108
 have H' := asd H
 clear H
 go_enter Try.func31, Try.ntmps31
 go_wp2_with (first | ((with_reducible refine gate_dst (N := 1) rfl ?_); refine box_event ?hg (N := 1) ?hd (cs := #[.int .i64 a0_0, .slice A0_1 l0_1.length c0_1]) (t := 28) ?hr ?_; (case hd => rfl); (case hg => rfl); (case hr => first | (go_simp; done) | (go_simp; rfl)); intro gb101 hg w4 hbox hb; have n0_ := asd (below_step (by repeat (first | (with_reducible first | exact HB.out | apply below_alloc | apply pw_below_drewN | apply below_drew1) | exact HB.out)) hb); have n1_ := asd (hbox); have n2_ := asd ((by rw [hg]; exact (below_size (by repeat (first | (with_reducible first | exact HB.out | apply below_alloc | apply pw_below_drewN | apply below_drew1) | exact HB.out))) : w.heap.size ≤ gb101)); have n3_ := asd ((by rw [hg]; exact (below_size (by repeat (first | (with_reducible first | exact HB.out | apply below_alloc | apply pw_below_drewN | apply below_drew1) | exact HB.out))) : w.heap.size ≤ gb101)); clear HB; have HB := n0_; have BK101 := n1_; have GW101 := n2_; have GE101 := n3_; clear n0_ n1_ n2_ n3_; clear hb hbox hg; have hcz5_0 : w4.cell? ⟨gb101, 0, none⟩ = some (.int .i64 a0_0) := (blk_cell BK101.out 0).trans rfl; have hcz5_1 : w4.cell? ⟨gb101, 1, none⟩ = some (.slice A0_1 l0_1.length c0_1) := (blk_cell BK101.out 1).trans rfl; have hfz5_0 := blk_frozen BK101.out 0; have hfz5_1 := blk_frozen BK101.out 1) | ((with_reducible refine gate_callee (f := 29) rfl ?_); refine goesL_ (some 10) rfl rfl Try.func29 (by kernel_rfl) rfl #[.agg #[.int .i64 a0_0, .slice A0_1 l0_1.length c0_1]] rfl (by (try simp only [List.map_toArray, List.map_cons, List.map_nil]); first | done | rfl | (simp only [List.length_drop, List.length_take]; rfl)) ?_; (with_reducible refine (impl_Space_paths.calls k a0_0 _ _ l0_1 t102 _ ?side1 ?side2 A2.out).mono ?_); (case side1 => repeat (first | exact (Kd.C_below HR0_1.out HB.out) | (with_reducible refine Kd.C_alloc ?_ _) | (with_reducible refine Kd.C_drewN ?_ _) | (with_reducible refine Kd.C_drew ?_))); (case side2 => exact HC0_1.out); rintro e w6 ⟨v103, rfl, ho0, hb⟩; refine ⟨_, rfl, ?_⟩; have n0_ := asd (Kd.R_lower ho0 (below_size (by repeat (first | (with_reducible first | exact HB.out | apply below_alloc | apply pw_below_drewN | apply below_drew1 | refine below_set ?_ GE101.out) | exact HB.out)))); have n1_ := asd (blk_below (upB BK101.out) hb); have n2_ := asd (below_step (by repeat (first | (with_reducible first | exact HB.out | apply below_alloc | apply pw_below_drewN | apply below_drew1 | refine below_set ?_ GE101.out) | exact HB.out)) hb); clear BK101; clear HB; have HO104 := n0_; have BK101 := n1_; have HB := n2_; clear n0_ n1_ n2_; (try clear hb); (try clear hb2); (try clear hk); (try clear hi); (try clear ho0); obtain ⟨Ao7, co7, eo7⟩ := Kd.R_slice HO104.out; subst eo7) | ((with_reducible refine gate_callee (f := 47) rfl ?_); refine goesL_ (some 12) rfl rfl Try.func47 (by kernel_rfl) rfl #[.slice Ao7 t102.length co7] rfl (by (try simp only [List.map_toArray, List.map_cons, List.map_nil]); first | done | rfl | (simp only [List.length_drop, List.length_take]; rfl)) ?_; (with_reducible refine (impl_followers.calls k _ _ t102 t105 _ ?side1 ?side2 A3.out).mono ?_); (case side1 => repeat (first | exact (Kd.R_reads' HO104.out).2.2 | (with_reducible refine Kd.C_alloc ?_ _) | (with_reducible refine Kd.C_drewN ?_ _) | (with_reducible refine Kd.C_drew ?_))); (case side2 => exact (Kd.R_reads' HO104.out).2.1); rintro e w8 ⟨v106, rfl, ho0, hb⟩; refine ⟨_, rfl, ?_⟩; have n0_ := asd (Kd.R_elder' (upR <| HO104.out) (Kd.R_base ho0) hb); have n1_ := asd (Kd.R_lower (Kd.R_new' ho0 (Kd.R_lt (upR <| HO104.out))) (below_size (by repeat (first | (with_reducible first | exact HB.out | apply below_alloc | apply pw_below_drewN | apply below_drew1 | refine below_set ?_ GE101.out) | exact HB.out)))); have n2_ := asd (blk_below (upB BK101.out) hb); have n3_ := asd (below_step (by repeat (first | (with_reducible first | exact HB.out | apply below_alloc | apply pw_below_drewN | apply below_drew1 | refine below_set ?_ GE101.out) | exact HB.out)) hb); clear HO104; clear BK101; clear HB; have HO104 := n0_; have HO107 := n1_; have BK101 := n2_; have HB := n3_; clear n0_ n1_ n2_ n3_; (try clear hb); (try clear hb2); (try clear hk); (try clear hi); (try clear ho0)) | ((with_reducible refine gate_dst (N := 13) rfl ?_); refine Kd.S_lit (Kd.slice 3 (Kd.int .i64)) _ 22 ?hg (N := 13) ?hd (xs := ([] : List (List Int))) (inner := []) (ok := fun _ => True) (okp := fun _ => True) ?hr ?hp (fun _ hk => hk) trivial (Below.refl _ _) (Nat.le_refl _) (by simp) ?_; (case hd => rfl); (case hg => rfl); (case hr => first | (go_simp; done) | (go_simp; rfl)); (case hp => exact (Reps.none _ _)); intro v109 w9 ho10 hb hg_ hnew_; clear hg_ hnew_; (first | rw [← Ny108.out] at ho10 | (simp only [Int.reduceToNat] at ho10; rw [← Ny108.out] at ho10)); have n0_ := asd (Kd.R_below (upR <| HO104.out) hb); have n1_ := asd (Kd.R_below (upR <| HO107.out) hb); have n2_ := asd (Kd.S_lower (Kd.S_new' (Kd.S_new' ho10 (Kd.R_lt (upR <| HO104.out))) (Kd.R_lt (upR <| HO107.out))) (below_size (by repeat (first | (with_reducible first | exact HB.out | apply below_alloc | apply pw_below_drewN | apply below_drew1 | refine below_set ?_ GE101.out) | exact HB.out)))); have n3_ := asd (blk_below (upB BK101.out) hb); have n4_ := asd (below_step (by repeat (first | (with_reducible first | exact HB.out | apply below_alloc | apply pw_below_drewN | apply below_drew1 | refine below_set ?_ GE101.out) | exact HB.out)) hb); clear HO104; clear HO107; clear BK101; clear HB; have HO104 := n0_; have HO107 := n1_; have HO110 := n2_; have BK101 := n3_; have HB := n4_; clear n0_ n1_ n2_ n3_ n4_; clear hb ho10))
 go_loopg [5, 16] k (fun kq v5 v16 w' => ∃ (x5_1 : List (List Int)) (x16_1 : Int), v16 = .int .i64 x16_1 ∧ Aside0 (impl_Space_chains.l0 kq t102 t105 x5_1 (t102.length : Int) x16_1 = some r) ∧ Aside0 (kq ≤ k) ∧ Aside0 (Kd.R (Kd.int .i64) 3 w' w.heap.size (fun k_ => some k_ ≠ (v106 : Value).ownBlock) (.slice Ao7 t102.length co7) t102) ∧ Aside0 (Kd.R (Kd.int .i64) 3 w' w.heap.size (fun k_ => some k_ ≠ ((.slice Ao7 t102.length co7) : Value).ownBlock) v106 t105) ∧ Aside0 (Kd.S (Kd.slice 3 (Kd.int .i64)) 22 w' w.heap.size (fun k_ => some k_ ≠ ((.slice Ao7 t102.length co7) : Value).ownBlock ∧ some k_ ≠ (v106 : Value).ownBlock) v5 x5_1) ∧ Aside0 (w'.heap[gb101]? = some (.cells #[.int .i64 a0_0, (.slice A0_1 l0_1.length c0_1)] 28 (0, 0))) ∧ Aside0 (Below w.heap.size w w'))
 case atStart => exact ⟨(y108), (0), (by first | rfl | (simp; done) | (simp [*]; done)), H', ⟨Nat.le_refl _⟩, ⟨by (with_reducible repeat (first | apply Kd.R_alloc | apply Kd.R_drewN | apply Kd.R_drew)); exact Kd.R_mono HO104.out (fun _ hk => hk.2)⟩, ⟨by (with_reducible repeat (first | apply Kd.R_alloc | apply Kd.R_drewN | apply Kd.R_drew)); exact Kd.R_mono HO107.out (fun _ hk => hk.2)⟩, ⟨by (with_reducible repeat (first | apply Kd.S_alloc | apply Kd.S_drewN | apply Kd.S_drew)); exact Kd.S_mono HO110.out (fun _ hk => ⟨hk.1.2, hk.2⟩)⟩, ⟨by (with_reducible repeat (first | refine blk_drewN ?_ _ | refine blk_drew ?_ | refine blk_alloc ?_ _)); exact BK101.out⟩, ⟨by repeat (first | (with_reducible first | exact HB.out | apply below_alloc | apply pw_below_drewN | apply below_drew1 | refine below_set ?_ GE101.out) | exact HB.out)⟩⟩
 case round =>
  clear H'
  try clear c2
  try clear p2
  try clear c3
  try clear c4
  try clear hcz5_0
  try clear hcz5_1
  try clear hfz5_0
  try clear hfz5_1
  try clear HO_3; try clear HO_4; try clear HO_5; skip
  obtain ⟨x5_1, x16_1, rfl, HA, HK1, HO_3, HO_4, HO_5, BK101, HB⟩ := hrel
  cases gk with
  | zero => exact absurd HA.out (by simp [impl_Space_chains.l0])
  | succ k1 =>
   have H := HA.out
   clear HA
   simp only [impl_Space_chains.l0] at H
   by_cases c11 : x16_1 < (t102.length : Int)
   ·
    rw [if_pos c11] at H
    have c11b0 : decide (x16_1 < (t102.length : Int)) = true := decide_eq_true c11
    clear c11
    replace H := Option.bind_eq_some_iff.mp H
    obtain ⟨t111, A120, H⟩ := H
    replace H : (if t111 = true then (impl_Space_chains.l0 k1 t102 t105 x5_1 (t102.length : Int) (wrap64 (x16_1 + 1))) else (impl_Space_chains.l1 k1 t102 t105 x5_1 (([] : List Int)) x16_1 (t102.length : Int) x16_1)) = some r := H
    have A12 := asd A120
    clear A120
    by_cases c13 : t111 = true
    ·
     subst c13
     have H1 : (impl_Space_chains.l0 k1 t102 t105 x5_1 (t102.length : Int) (wrap64 (x16_1 + 1))) = some r := by rw [if_pos rfl] at H; exact H
     clear H
     have H := H1
     clear H1
     have H' := asd H
     clear H
     obtain ⟨Ao14, co14, eo14⟩ := Kd.R_slice HO_4.out
     subst eo14
     go_wp2_with (first | ((with_reducible refine gate_callee (f := 49) rfl ?_); refine goesL_ (some 21) rfl rfl Try.func49 (by kernel_rfl) rfl #[.slice Ao14 t105.length co14, .int .i64 x16_1] rfl (by (try simp only [List.map_toArray, List.map_cons, List.map_nil]); first | done | rfl | (simp only [List.length_drop, List.length_take]; rfl)) ?_; (with_reducible refine (slices_Contains_int_int.calls k1 _ _ t105 x16_1 true _ ?side1 ?side2 A12.out).mono ?_); (case side1 => repeat (first | exact (Kd.R_reads' HO_4.out).2.2 | (with_reducible refine Kd.C_alloc ?_ _) | (with_reducible refine Kd.C_drewN ?_ _) | (with_reducible refine Kd.C_drew ?_))); (case side2 => exact (Kd.R_reads' HO_4.out).2.1); rintro e w' ⟨rfl, ⟨nd, rfl⟩⟩; refine ⟨_, rfl, ?_⟩))
     go_roundg k1
     case measure => have := HK1.out; omega
     case rel => exact ⟨(x5_1), (wrap64 (x16_1 + 1)), (by first | rfl | (simp; done) | (simp [*]; done)), H', ⟨by have := HK1.out; omega⟩, ⟨by (with_reducible repeat (first | apply Kd.R_alloc | apply Kd.R_drewN | apply Kd.R_drew)); exact HO_3.out⟩, ⟨by (with_reducible repeat (first | apply Kd.R_alloc | apply Kd.R_drewN | apply Kd.R_drew)); exact HO_4.out⟩, ⟨by (with_reducible repeat (first | apply Kd.S_alloc | apply Kd.S_drewN | apply Kd.S_drew)); exact HO_5.out⟩, ⟨by (with_reducible repeat (first | refine blk_drewN ?_ _ | refine blk_drew ?_ | refine blk_alloc ?_ _)); exact BK101.out⟩, ⟨by repeat (first | (with_reducible first | exact HB.out | apply below_alloc | apply pw_below_drewN | apply below_drew1 | refine below_set ?_ GE101.out) | exact HB.out)⟩⟩
    ·
     replace c13 := Bool.eq_false_iff.mpr c13
     subst c13
     have H1 : (impl_Space_chains.l1 k1 t102 t105 x5_1 (([] : List Int)) x16_1 (t102.length : Int) x16_1) = some r := by rw [if_neg (show ¬ (false = true) by decide)] at H; exact H
     clear H
     have H := H1
     clear H1
     obtain ⟨y112, hy112⟩ : ∃ y_ : List Int, y_ = (([] : List Int)) := ⟨_, rfl⟩
     replace H : (impl_Space_chains.l1 k1 t102 t105 x5_1 y112 x16_1 (t102.length : Int) x16_1) = some r := by first | (rw [hy112]; with_reducible exact H) | (have H2_ := (Option.bind_some _ _).symm.trans H; rw [hy112]; with_reducible exact H2_) | (have H2_ := (Option.bind_some _ _).symm.trans H; with_reducible exact H2_) | with_reducible exact H | (rw [hy112]; exact H) | exact H
     have Ny112 := asd hy112
     clear hy112
     have H' := asd H
     clear H
     obtain ⟨Ao15, co15, eo15⟩ := Kd.R_slice HO_4.out
     subst eo15
     go_wp2_with (first | ((with_reducible refine gate_callee (f := 49) rfl ?_); refine goesL_ (some 21) rfl rfl Try.func49 (by kernel_rfl) rfl #[.slice Ao15 t105.length co15, .int .i64 x16_1] rfl (by (try simp only [List.map_toArray, List.map_cons, List.map_nil]); first | done | rfl | (simp only [List.length_drop, List.length_take]; rfl)) ?_; (with_reducible refine (slices_Contains_int_int.calls k1 _ _ t105 x16_1 false _ ?side1 ?side2 A12.out).mono ?_); (case side1 => repeat (first | exact (Kd.R_reads' HO_4.out).2.2 | (with_reducible refine Kd.C_alloc ?_ _) | (with_reducible refine Kd.C_drewN ?_ _) | (with_reducible refine Kd.C_drew ?_))); (case side2 => exact (Kd.R_reads' HO_4.out).2.1); rintro e w' ⟨rfl, ⟨nd, rfl⟩⟩; refine ⟨_, rfl, ?_⟩) | ((with_reducible refine gate_dst (N := 22) rfl ?_); refine Kd.R_lit (Kd.int .i64) _ 3 ?hg (N := 22) ?hd (xs := ([] : List Int)) (inner := []) (ok := fun _ => True) (okp := fun _ => True) ?hr ?hp (fun _ hk => hk) trivial (Below.refl _ _) (Nat.le_refl _) (by simp) ?_; (case hd => rfl); (case hg => rfl); (case hr => first | (go_simp; done) | (go_simp; rfl)); (case hp => exact (Reps.none _ _)); intro v113 w16 ho17 hb hg_ hnew_; clear hg_ hnew_; (first | rw [← Ny112.out] at ho17 | (simp only [Int.reduceToNat] at ho17; rw [← Ny112.out] at ho17)); have n0_ := asd (Kd.R_elder' (upR <| HO_3.out) (Kd.R_base ho17) hb); have n1_ := asd (Kd.R_elder' (upR <| HO_4.out) (Kd.R_base ho17) hb); have n2_ := asd (Kd.S_elder' (by (with_reducible repeat (first | apply Kd.S_alloc | apply Kd.S_drewN | apply Kd.S_drew)); exact HO_5.out) (Kd.R_base ho17) hb); have n3_ := asd (Kd.R_lower (Kd.R_new' (Kd.R_new' ho17 (Kd.R_lt (upR <| HO_3.out))) (Kd.R_lt (upR <| HO_4.out))) (below_size (by repeat (first | (with_reducible first | exact HB.out | apply below_alloc | apply pw_below_drewN | apply below_drew1 | refine below_set ?_ GE101.out) | exact HB.out)))); have n4_ := asd (blk_below (upB BK101.out) hb); have n5_ := asd (below_step (by repeat (first | (with_reducible first | exact HB.out | apply below_alloc | apply pw_below_drewN | apply below_drew1 | refine below_set ?_ GE101.out) | exact HB.out)) hb); clear HO_3; clear HO_4; clear HO_5; clear BK101; clear HB; have HO_3 := n0_; have HO_4 := n1_; have HO_5 := n2_; have HO114 := n3_; have BK101 := n4_; have HB := n5_; clear n0_ n1_ n2_ n3_ n4_ n5_; clear hb ho17))
     go_loopg [7, 8] k1 (fun kq v7 v8 w' => ∃ (x7_2 : List Int) (x8_2 : Int), v8 = .int .i64 x8_2 ∧ Aside0 (impl_Space_chains.l1 kq t102 t105 x5_1 x7_2 x8_2 (t102.length : Int) x16_1 = some r) ∧ Aside0 (kq ≤ k1) ∧ Aside0 (Kd.R (Kd.int .i64) 3 w' w.heap.size (fun k_ => some k_ ≠ ((.slice Ao15 t105.length co15) : Value).ownBlock ∧ some k_ ≠ (v7 : Value).ownBlock) (.slice Ao7 t102.length co7) t102) ∧ Aside0 (Kd.R (Kd.int .i64) 3 w' w.heap.size (fun k_ => some k_ ≠ ((.slice Ao7 t102.length co7) : Value).ownBlock ∧ some k_ ≠ (v7 : Value).ownBlock) (.slice Ao15 t105.length co15) t105) ∧ Aside0 (Kd.S (Kd.slice 3 (Kd.int .i64)) 22 w' w.heap.size (fun k_ => some k_ ≠ ((.slice Ao7 t102.length co7) : Value).ownBlock ∧ some k_ ≠ ((.slice Ao15 t105.length co15) : Value).ownBlock ∧ some k_ ≠ (v7 : Value).ownBlock) u5 x5_1) ∧ Aside0 (Kd.R (Kd.int .i64) 3 w' w.heap.size (fun k_ => some k_ ≠ ((.slice Ao7 t102.length co7) : Value).ownBlock ∧ some k_ ≠ ((.slice Ao15 t105.length co15) : Value).ownBlock) v7 x7_2) ∧ Aside0 (w'.heap[gb101]? = some (.cells #[.int .i64 a0_0, (.slice A0_1 l0_1.length c0_1)] 28 (0, 0))) ∧ Aside0 (Below w.heap.size w w'))
     case atStart => exact ⟨(y112), (x16_1), (by first | rfl | (simp; done) | (simp [*]; done)), H', ⟨Nat.le_refl _⟩, ⟨by (with_reducible repeat (first | apply Kd.R_alloc | apply Kd.R_drewN | apply Kd.R_drew)); exact HO_3.out⟩, ⟨by (with_reducible repeat (first | apply Kd.R_alloc | apply Kd.R_drewN | apply Kd.R_drew)); exact HO_4.out⟩, ⟨by (with_reducible repeat (first | apply Kd.S_alloc | apply Kd.S_drewN | apply Kd.S_drew)); exact Kd.S_mono HO_5.out (fun _ hk => ⟨hk.1.1, ⟨hk.1.2, hk.2⟩⟩)⟩, ⟨by (with_reducible repeat (first | apply Kd.R_alloc | apply Kd.R_drewN | apply Kd.R_drew)); exact Kd.R_mono HO114.out (fun _ hk => ⟨hk.1.2, hk.2⟩)⟩, ⟨by (with_reducible repeat (first | refine blk_drewN ?_ _ | refine blk_drew ?_ | refine blk_alloc ?_ _)); exact BK101.out⟩, ⟨by repeat (first | (with_reducible first | exact HB.out | apply below_alloc | apply pw_below_drewN | apply below_drew1 | refine below_set ?_ GE101.out) | exact HB.out)⟩⟩
     case round =>
      clear H'
      try clear c1
      try clear c2
      try clear p2
      try clear c3
      try clear c4
      try clear p6
      try clear c11
      try clear c11b0
      try clear c13
      try clear hcz5_0
      try clear hcz5_1
      try clear hfz5_0
      try clear hfz5_1
      try clear p2
      try clear HO_3; try clear HO_4; try clear HO_5; try clear HO_7; try clear BK101; skip
      obtain ⟨x7_2, x8_2, rfl, HA, HK2, HO_3, HO_4, HO_5, HO_7, BK101, HB⟩ := hrel
      cases gk with
      | zero => exact absurd HA.out (by simp [impl_Space_chains.l1])
      | succ k2 =>
       have H := HA.out
       clear HA
       simp only [impl_Space_chains.l1] at H
       by_cases c18 : x8_2 ≥ 0
       ·
        rw [if_pos c18] at H
        have c18b0 : decide (0 ≤ x8_2) = true := decide_eq_true c18
        clear c18
        by_cases c19 : 0 ≤ x8_2
        ·
         rw [if_pos c19] at H
         have c19b0 : decide (0 ≤ x8_2) = true := decide_eq_true c19
         clear c19
         by_cases c20 : x8_2 < (t102.length : Int)
         ·
          rw [if_pos c20] at H
          have c20b0 : decide (x8_2 < (t102.length : Int)) = true := decide_eq_true c20
          clear c20
          by_cases c21 : x7_2.length < 17592186044416
          ·
           rw [if_pos c21] at H
           have LMc21 := asd c21
           clear c21
           obtain ⟨y116, hy116⟩ : ∃ y_ : List Int, y_ = (x7_2 ++ [rd t102 x8_2]) := ⟨_, rfl⟩
           replace H : (if x8_2 < (t105.length : Int) then (impl_Space_chains.l1 k2 t102 t105 x5_1 y116 (rd t105 x8_2) (t102.length : Int) x16_1) else (none)) = some r := by first | (rw [hy116]; with_reducible exact H) | (have H2_ := (Option.bind_some _ _).symm.trans H; rw [hy116]; with_reducible exact H2_) | (have H2_ := (Option.bind_some _ _).symm.trans H; with_reducible exact H2_) | with_reducible exact H | (rw [hy116]; exact H) | exact H
           have Ny116 := asd hy116
           clear hy116
           by_cases c22 : x8_2 < (t105.length : Int)
           ·
            rw [if_pos c22] at H
            have c22b0 : decide (x8_2 < (t105.length : Int)) = true := decide_eq_true c22
            clear c22
            have H' := asd H
            clear H
            have p115 : 0 ≤ (x8_2 : Int) := of_decide_eq_true (by first | (with_reducible assumption) | assumption)
            have q115 : x8_2 < (t102.length : Int) := of_decide_eq_true (by first | (with_reducible assumption) | assumption)
            obtain ⟨ad115, e115, hx115_0⟩ := Kd.at_int (Kd.R_reads' HO_3.out).2.2 x8_2 p115 q115
            cases e115
            replace p115 := eq_true p115
            replace q115 := eq_true q115
            go_wp2_with (first | ((with_reducible refine gate_builtin (b := .append) (xs := #[.tmp 30, .tmp 35]) rfl ?_); at_builtin; refine Kd.R_append (Kd.int .i64) (w0 := w) w.heap.size rfl (.tmp 30) (.tmp 35) 22 3 (.int .i64 0) 8 rfl Try.underlying22 info3 rfl (by decide) (by omega) u7 x7_2 (rd t102 x8_2) [.int .i64 (rd t102 x8_2)] (fun k_ => some k_ ≠ (.slice (some ad115) t102.length co7 : Value).ownBlock ∧ some k_ ≠ (.slice Ao15 t105.length co15 : Value).ownBlock) (fun _ => False) rfl rfl ?aP (fun _ hk => hk.elim) ?aF ?aO ?aB ?aS ?aL ?_; (case aP => exact rfl); (case aB => exact (by repeat (first | (with_reducible first | exact HB.out | apply below_alloc | apply pw_below_drewN | apply below_drew1 | refine below_set ?_ GE101.out) | exact HB.out))); (case aF => exact (fun k_ hk => ⟨Kd.fresh' (Kd.R_lt (upR <| HO_3.out)) k_ hk, Kd.fresh' (Kd.R_lt (upR <| HO_4.out)) k_ hk⟩)); (case aO => exact (upR <| HO_7.out)); (case aS => exact (below_size (by repeat (first | (with_reducible first | exact HB.out | apply below_alloc | apply pw_below_drewN | apply below_drew1 | refine below_set ?_ GE101.out) | exact HB.out)))); (case aL => have := LMc21.out; omega); intro v117 w23 ho hb hg hat; rw [← Ny116.out] at ho; have n0_ := asd (Kd.R_after (ok := (fun k_ => some k_ ≠ (.slice Ao15 t105.length co15 : Value).ownBlock)) (upR <| HO_3.out) hg hat); have n1_ := asd (Kd.R_after (ok := (fun k_ => some k_ ≠ (.slice (some ad115) t102.length co7 : Value).ownBlock)) (upR <| HO_4.out) hg hat); have n2_ := asd (Kd.S_after (ok := (fun k_ => some k_ ≠ (.slice (some ad115) t102.length co7 : Value).ownBlock ∧ some k_ ≠ (.slice Ao15 t105.length co15 : Value).ownBlock)) (by (with_reducible repeat (first | apply Kd.S_alloc | apply Kd.S_drewN | apply Kd.S_drew)); exact Kd.S_mono HO_5.out (fun _ hk => ⟨⟨hk.1, hk.2.1⟩, hk.2.2⟩)) hg hat); have n3_ := asd (blk_grown (upB BK101.out) hg (Kd.R_ne HO_7.out BK101.out (by decide))); have n4_ := asd (hb); have n5_ := asd (ho); clear HO_3; clear HO_4; clear HO_5; clear BK101; clear HB; clear HO_7; have HO_3 := n0_; have HO_4 := n1_; have HO_5 := n2_; have BK101 := n3_; have HB := n4_; have HO118 := n5_; clear n0_ n1_ n2_ n3_ n4_ n5_; clear ho hb hg hat; have p119 : 0 ≤ (x8_2 : Int) := of_decide_eq_true (by first | (with_reducible assumption) | assumption); have q119 : x8_2 < (t105.length : Int) := of_decide_eq_true (by first | (with_reducible assumption) | assumption); obtain ⟨ad119, e119, hx119_0⟩ := Kd.at_int (Kd.R_reads' HO_4.out).2.2 x8_2 p119 q119; cases e119; replace p119 := eq_true p119; replace q119 := eq_true q119))
            go_roundg k2
            case measure => have := HK1.out; have := HK2.out; omega
            case rel => exact ⟨(y116), (rd t105 x8_2), (by first | rfl | (simp; done) | (simp [*]; done)), H', ⟨by have := HK1.out; have := HK2.out; omega⟩, ⟨by (with_reducible repeat (first | apply Kd.R_alloc | apply Kd.R_drewN | apply Kd.R_drew)); exact HO_3.out⟩, ⟨by (with_reducible repeat (first | apply Kd.R_alloc | apply Kd.R_drewN | apply Kd.R_drew)); exact HO_4.out⟩, ⟨by (with_reducible repeat (first | apply Kd.S_alloc | apply Kd.S_drewN | apply Kd.S_drew)); exact Kd.S_mono HO_5.out (fun _ hk => ⟨hk.1.1, ⟨hk.1.2, hk.2⟩⟩)⟩, ⟨by (with_reducible repeat (first | apply Kd.R_alloc | apply Kd.R_drewN | apply Kd.R_drew)); exact HO118.out⟩, ⟨by (with_reducible repeat (first | refine blk_drewN ?_ _ | refine blk_drew ?_ | refine blk_alloc ?_ _)); exact BK101.out⟩, ⟨by repeat (first | (with_reducible first | exact HB.out | apply below_alloc | apply pw_below_drewN | apply below_drew1 | refine below_set ?_ GE101.out) | exact HB.out)⟩⟩
           ·
            rw [if_neg c22] at H
            exact absurd H (by simp)
          ·
           rw [if_neg c21] at H
           exact absurd H (by simp)
         ·
          rw [if_neg c20] at H
          exact absurd H (by simp)
        ·
         rw [if_neg c19] at H
         exact absurd H (by simp)
       ·
        rw [if_neg c18] at H
        have c18b0 : decide (0 ≤ x8_2) = false := decide_eq_false c18
        clear c18
        by_cases c24 : x5_1.length < 5864062014805
        ·
         rw [if_pos c24] at H
         have LMc24 := asd c24
         clear c24
         obtain ⟨y120, hy120⟩ : ∃ y_ : List (List Int), y_ = (x5_1 ++ [x7_2]) := ⟨_, rfl⟩
         replace H : (impl_Space_chains.l0 k2 t102 t105 y120 (t102.length : Int) (wrap64 (x16_1 + 1))) = some r := by first | (rw [hy120]; with_reducible exact H) | (have H2_ := (Option.bind_some _ _).symm.trans H; rw [hy120]; with_reducible exact H2_) | (have H2_ := (Option.bind_some _ _).symm.trans H; with_reducible exact H2_) | with_reducible exact H | (rw [hy120]; exact H) | exact H
         have Ny120 := asd hy120
         clear hy120
         have H' := asd H
         clear H
         obtain ⟨Ao26, co26, eo26⟩ := Kd.R_slice HO_7.out
         subst eo26
         go_wp2_with (first | ((with_reducible refine gate_builtin (b := .append) (xs := #[.tmp 37, .tmp 39]) rfl ?_); at_builtin; refine Kd.S_append (Kd.slice 3 (Kd.int .i64)) (w0 := w) w.heap.size rfl (.tmp 37) (.tmp 39) 32 22 (.slice none 0 0) 24 rfl Try.underlying32 info22 rfl (by decide) (by omega) u5 x5_1 x7_2 [.slice Ao26 x7_2.length co26] (fun k_ => some k_ ≠ (.slice Ao7 t102.length co7 : Value).ownBlock ∧ some k_ ≠ (.slice Ao15 t105.length co15 : Value).ownBlock) (fun k_ => some k_ = (.slice Ao26 x7_2.length co26 : Value).ownBlock) rfl rfl ?aP (fun k_ hk_ => ((Kd.R_mono (ok' := fun k_ => ((fun k_ => some k_ ≠ (.slice Ao7 t102.length co7 : Value).ownBlock ∧ some k_ ≠ (.slice Ao15 t105.length co15 : Value).ownBlock)) k_ ∧ some k_ ≠ (u5 : Value).ownBlock) (Kd.R_apart' (HO_7.out) (Kd.S_typed HO_5.out) (by decide)) (fun k_ hk => ⟨⟨hk.1.1, hk.1.2⟩, hk.2⟩))).1 k_ hk_.symm) ?aF ?aO ?aB ?aS ?aL ?_; (case aP => exact Kd.M_row (Kd.R_mono (Kd.R_tight rfl (Kd.R_mono (ok' := fun k_ => ((fun k_ => some k_ ≠ (.slice Ao7 t102.length co7 : Value).ownBlock ∧ some k_ ≠ (.slice Ao15 t105.length co15 : Value).ownBlock)) k_ ∧ some k_ ≠ (u5 : Value).ownBlock) (Kd.R_apart' (HO_7.out) (Kd.S_typed HO_5.out) (by decide)) (fun k_ hk => ⟨⟨hk.1.1, hk.1.2⟩, hk.2⟩))) (fun _ h_ => h_))); (case aB => exact (by repeat (first | (with_reducible first | exact HB.out | apply below_alloc | apply pw_below_drewN | apply below_drew1 | refine below_set ?_ GE101.out) | exact HB.out))); (case aF => exact (fun k_ hk => ⟨Kd.fresh' (Kd.R_lt (upR <| HO_3.out)) k_ hk, Kd.fresh' (Kd.R_lt (upR <| HO_4.out)) k_ hk⟩)); (case aO => exact (by (with_reducible repeat (first | apply Kd.S_alloc | apply Kd.S_drewN | apply Kd.S_drew)); exact Kd.S_mono HO_5.out (fun k_ hk => ⟨⟨hk.1, hk.2.1⟩, fun e_ => hk.2.2 e_⟩))); (case aS => exact (below_size (by repeat (first | (with_reducible first | exact HB.out | apply below_alloc | apply pw_below_drewN | apply below_drew1 | refine below_set ?_ GE101.out) | exact HB.out)))); (case aL => have := LMc24.out; omega); intro v121 w25 ho hb hg hat; rw [← Ny120.out] at ho; have n0_ := asd (Kd.R_over' (upR <| HO_3.out) (Kd.S_typed (by (with_reducible repeat (first | apply Kd.S_alloc | apply Kd.S_drewN | apply Kd.S_drew)); exact HO_5.out)) (by decide) hg); have n1_ := asd (Kd.R_over' (upR <| HO_4.out) (Kd.S_typed (by (with_reducible repeat (first | apply Kd.S_alloc | apply Kd.S_drewN | apply Kd.S_drew)); exact HO_5.out)) (by decide) hg); have n2_ := asd (blk_grown (upB BK101.out) hg (Kd.S_ne HO_5.out BK101.out (by decide))); have n3_ := asd (hb); have n4_ := asd (ho); clear HO_3; clear HO_4; clear BK101; clear HB; clear HO_5; clear HO_7; have HO_3 := n0_; have HO_4 := n1_; have BK101 := n2_; have HB := n3_; have HO122 := n4_; clear n0_ n1_ n2_ n3_ n4_; clear ho hb hg hat))
         go_roundg k2
         case measure => have := HK1.out; have := HK2.out; omega
         case rel => exact ⟨(y120), (wrap64 (x16_1 + 1)), (by first | rfl | (simp; done) | (simp [*]; done)), H', ⟨by have := HK1.out; have := HK2.out; omega⟩, ⟨by (with_reducible repeat (first | apply Kd.R_alloc | apply Kd.R_drewN | apply Kd.R_drew)); exact Kd.R_mono HO_3.out (fun _ hk => hk.1)⟩, ⟨by (with_reducible repeat (first | apply Kd.R_alloc | apply Kd.R_drewN | apply Kd.R_drew)); exact Kd.R_mono HO_4.out (fun _ hk => hk.1)⟩, ⟨by (with_reducible repeat (first | apply Kd.S_alloc | apply Kd.S_drewN | apply Kd.S_drew)); exact HO122.out⟩, ⟨by (with_reducible repeat (first | refine blk_drewN ?_ _ | refine blk_drew ?_ | refine blk_alloc ?_ _)); exact BK101.out⟩, ⟨by repeat (first | (with_reducible first | exact HB.out | apply below_alloc | apply pw_below_drewN | apply below_drew1 | refine below_set ?_ GE101.out) | exact HB.out)⟩⟩
        ·
         rw [if_neg c24] at H
         exact absurd H (by simp)
   ·
    rw [if_neg c11] at H
    have c11b0 : decide (x16_1 < (t102.length : Int)) = false := decide_eq_false c11
    clear c11
    obtain rfl := Option.some.inj H
    go_wp2
    go_ret
    exact ⟨_, by first | rfl | (simp [errW_none, errW_some] <;> rfl) | (simp [*, errW_none, errW_some] <;> rfl), by (with_reducible repeat (first | apply Kd.S_alloc | apply Kd.S_drewN | apply Kd.S_drew)); exact Kd.S_mono HO_5.out (fun _ hk => trivial), by repeat (first | (with_reducible first | exact HB.out | apply below_alloc | apply pw_below_drewN | apply below_drew1 | refine below_set ?_ GE101.out) | exact HB.out)⟩

-- HAND with (impl.Space).chains+impl.followers+impl.followers$1+spec.cnMatch+impl.part+slices.Contains[[]int,int]+slices.Index[[]int,int]
theorem iway_ok {s b o : List Int} (hP : Pair s.length b o) (hlen : s.length ≤ 1024) {acc : List (List Int)} (hacc : acc.length ≤ 1024) {i : Nat} (hi : i < s.length) {r : List (List Int)} : ∀ (f p : Nat) (ch : List Int), p < s.length → s.length - p ≤ f → ch.length + f ≤ 4096 → Ev (fun k => impl_Space_chains.l0 k s o (acc ++ [ch ++ (rd s p :: chainO s o f p)]) s.length ((i : Int) + 1)) r → Ev (fun k => impl_Space_chains.l1 k s o acc ch p s.length i) r
  | 0, p, ch, hp, hf, hc, h => by omega
  | f + 1, p, ch, hp, hf, hc, h => by
    have hws : wrap64 ((i : Int) + 1) = i + 1 := wrap_succ (by omega) (by omega)
    have hro := hP.ro p hp
    have hlo := hP.lo
    refine Ev.succ (fun k => by simp only [impl_Space_chains.l1]; rw [if_pos (by omega), if_pos (by omega), if_pos (by omega), if_pos (by omega), if_pos (by omega)]) ?_
    unfold chainO at h
    by_cases h0 : 0 ≤ rd o p
    · obtain ⟨q, hq, e⟩ := nat_of h0 hro.2
      have hup := hP.up p hp h0
      rw [if_pos h0] at h
      rw [e] at h hup ⊢
      refine iway_ok hP hlen hacc hi f q (ch ++ [rd s p]) hq (by omega) (by rw [List.length_append, List.length_singleton]; omega) ?_
      rw [List.append_assoc]
      exact h
    · rw [if_neg h0] at h
      exact Ev.succ (fun k => by simp only [impl_Space_chains.l1]; rw [if_neg (by omega), if_pos (by omega), hws]) h
theorem ichs_ok {s b o : List Int} (hP : Pair s.length b o) (hlen : s.length ≤ 1024) : ∀ (d i : Nat) (acc : List (List Int)), s.length - i = d → i ≤ s.length → acc.length ≤ i → Ev (fun k => impl_Space_chains.l0 k s o acc s.length i) (acc ++ chainsFrom s b o d i)
  | 0, i, acc, hd, hi, ha => Ev.succ (fun k => by simp only [impl_Space_chains.l0]; rw [if_neg (by omega)]) (Ev.const (by unfold chainsFrom; rw [List.append_nil]))
  | d + 1, i, acc, hd, hi, ha => by
    have hb := hP.lb
    have hlo := hP.lo
    have hn := fun acc' h' => ichs_ok hP hlen d (i + 1) acc' (by omega) (by omega) h'
    push_cast at hn
    have hws : wrap64 ((i : Int) + 1) = i + 1 := wrap_succ (by omega) (by omega)
    have hiff : ((i : Int) ∈ o) ↔ 0 ≤ rd b i := by
      constructor
      · intro hm
        obtain ⟨j, hj, e⟩ := List.mem_iff_getElem.1 hm
        have h1 := (hP.bo i j (by omega) (by omega)).2 (by rw [rd_get hj]; exact e)
        rw [h1]
        exact Int.natCast_nonneg j
      · intro h0
        obtain ⟨j, hj, e⟩ := nat_of h0 (hP.rb i (by omega)).2
        have h1 := (hP.bo i j (by omega) (by omega)).1 e
        rw [← h1]
        exact rd_mem (by omega) (by omega)
    unfold chainsFrom
    refine Ev.succ (fun k => by simp only [impl_Space_chains.l0]; rw [if_pos (by omega), hws]) ?_
    refine Ev.bind (sContains_ok o i (by omega)) ?_
    by_cases h0 : rd b i < 0
    · rw [if_pos h0]
      refine Ev.to (fun k => by rw [if_neg (by rw [decide_eq_true_eq, hiff]; omega)]) ?_
      refine iway_ok (acc := acc) hP hlen (by omega) (by omega) s.length i [] (by omega) (by omega) (by rw [List.length_nil]; omega) ?_
      have := hn (acc ++ [[] ++ (rd s i :: chainO s o s.length i)]) (by rw [List.length_append, List.length_singleton]; omega)
      rw [List.append_assoc] at this
      exact this
    · rw [if_neg h0]
      exact Ev.to (fun k => by rw [if_pos (decide_eq_true (hiff.2 (by omega)))]) (hn acc (by omega))
/-- The chains of a space: both tell the same ones. -/
theorem chainsBoth {n : Int} {l : List Int} (hS : isSpaceB n l = true) (hlen : l.length < 1048577) : ∃ b o : List Int, Pair (pathsL (famOf l) l).length b o ∧ Ev (fun k => spec_cnMatch.f k (pathsL (famOf l) l)) b ∧ Ev (fun k => impl_followers.f k (pathsL (famOf l) l)) o ∧ Ev (fun k => impl_Space_chains.f k n l) (chainsFrom (pathsL (famOf l) l) b o (pathsL (famOf l) l).length 0) := by
  obtain ⟨hPl, b, o, ho, hb, hP, hc⟩ := pathsMatch hS
  refine ⟨b, o, hP, hb, ho, ?_⟩
  unfold impl_Space_chains.f
  refine Ev.bind (paths_ok hS hlen) ?_
  refine Ev.bind ho ?_
  exact ichs_ok hP hPl (pathsL (famOf l) l).length 0 [] (by omega) (Nat.zero_le _) (Nat.le_refl _)

-- HAND slices_Clone_int_int: function 52
def slices_Clone_int_int.f (l0 : List Int) : Option (List Int) := if l0.length < 17592186044416 then some l0 else none
set_option maxHeartbeats 8000000 in
set_option maxRecDepth 100000 in
theorem slices_Clone_int_int.calls (A0 : Option Addr) (c0 : Nat) (l0 : List Int) (r : List Int) (w : World) (hr0 : Kd.C (Kd.int .i64) w A0 l0.length l0) (hc0 : l0.length ≤ c0) (h : slices_Clone_int_int.f l0 = some r) :
    Calls Try.prog 52 #[.slice A0 l0.length c0] w fun e w' => ∃ v0_ : Value, e = .returned (v0_) ∧ Kd.R (Kd.int .i64) 3 w' w.heap.size (fun _ => True) v0_ r ∧ Below w.heap.size w w' := by
  unfold slices_Clone_int_int.f at h
  split at h
  · rename_i hlt
    obtain rfl := Option.some.inj h
    have LM := Aside0.mk hlt
    clear h hlt
    have he : ∀ (w : World) (A : Option Addr) (n c : Nat), (binOp .eql 22 (.slice A n c) (.slice none 0 0)).run Try.prog w = .ok (.bool A.isNone) w := fun w A n c => Go.Lib.run_eql_slice_nil w 22 3 A n c 0 0 Try.underlying22
    cases A0 with
    | none =>
      have hl : l0 = [] := by
        rcases Nat.eq_zero_or_pos l0.length with e | e
        · exact List.eq_nil_of_length_eq_zero e
        · obtain ⟨ad, he, _⟩ := hr0.2.2 e
          cases he
      subst hl
      clear hr0 hc0 LM
      have he0 : ∀ (w : World) (n c : Nat), (binOp .eql 22 (.slice none n c) (.slice none 0 0)).run Try.prog w = .ok (.bool true) w := fun w n c => he w none n c
      clear he
      go_enter Try.func52, Try.ntmps52
      go_wp2
      go_ret
      exact ⟨_, rfl, Kd.R_nil _ _ _ _ _, Below.refl _ _⟩
    | some ad =>
      have HR0 := Aside0.mk hr0
      have HC0 := Aside0.mk hc0
      clear hr0 hc0
      have he0 : ∀ (w : World) (n c : Nat), (binOp .eql 22 (.slice (some ad) n c) (.slice none 0 0)).run Try.prog w = .ok (.bool false) w := fun w n c => he w (some ad) n c
      clear he
      have HB := Aside0.mk (Below.refl w.heap.size w)
      go_enter Try.func52, Try.ntmps52
      go_wp2_with (first | ((with_reducible refine gate_dst (N := 5) rfl ?_); refine Kd.R_lit (Kd.int .i64) _ 3 ?hg (N := 5) ?hd (xs := ([] : List Int)) (inner := []) (ok := fun _ => True) (okp := fun _ => True) ?hr ?hp (fun _ hk => hk) trivial (Below.refl _ _) (Nat.le_refl _) (by simp) ?_; (case hd => rfl); (case hg => rfl); (case hr => first | (go_simp; done) | (go_simp; rfl)); (case hp => exact (Reps.none _ _)); intro v102 w3 ho4 hb hg_ hnew_; clear hg_ hnew_; have n0_ := Aside0.mk (Kd.R_lower ho4 (below_size (by repeat (first | (with_reducible first | exact HB.out | apply below_alloc | apply pw_below_drewN | apply below_drew1) | exact HB.out)))); have n1_ := Aside0.mk (below_step (by repeat (first | (with_reducible first | exact HB.out | apply below_alloc | apply pw_below_drewN | apply below_drew1) | exact HB.out)) hb); clear HB; have HO103 := n0_; have HB := n1_; clear n0_ n1_; clear hb ho4) | ((with_reducible refine gate_builtin (b := .append) (xs := #[.tmp 5, .tmp 6]) rfl ?_); at_builtin; refine Kd.R_append_rows (Kd.int .i64) (w0 := w) w.heap.size rfl (.tmp 5) (.tmp 6) 22 3 (.int .i64 0) 8 rfl Try.underlying22 info3 rfl (by decide) (by omega) v102 ([] : List Int) l0 _ _ _ (fun _ => True) (fun _ => False) rfl rfl ?aO ?aR (fun _ _ h => h) (fun _ h => h.elim) ?aF ?aB ?aS ?aL ?_; (case aR => repeat (first | exact (Kd.C_below HR0.out HB.out) | (with_reducible refine Kd.C_alloc ?_ _) | (with_reducible refine Kd.C_drewN ?_ _) | (with_reducible refine Kd.C_drew ?_))); (case aB => exact (by repeat (first | (with_reducible first | exact HB.out | apply below_alloc | apply pw_below_drewN | apply below_drew1) | exact HB.out))); (case aF => exact (fun _ _ => trivial)); (case aO => exact (by (with_reducible repeat (first | apply Kd.R_alloc | apply Kd.R_drewN | apply Kd.R_drew)); exact HO103.out)); (case aS => exact (below_size (by repeat (first | (with_reducible first | exact HB.out | apply below_alloc | apply pw_below_drewN | apply below_drew1) | exact HB.out)))); (case aL => have := LM.out; simp; omega); intro v105 w5 ho hb hg hat; have n0_ := Aside0.mk (hb); have n1_ := Aside0.mk (ho); clear HB; clear HO103; have HB := n0_; have HO106 := n1_; clear n0_ n1_; clear ho hb hg hat))
      go_ret
      exact ⟨_, rfl, by (with_reducible repeat (first | apply Kd.R_alloc | apply Kd.R_drewN | apply Kd.R_drew)); exact HO106.out, by repeat (first | (with_reducible first | exact HB.out | apply below_alloc | apply pw_below_drewN | apply below_drew1) | exact HB.out)⟩
  · cases h

end Go.Proofs.Ytkggkllcmoiacaa.Q
