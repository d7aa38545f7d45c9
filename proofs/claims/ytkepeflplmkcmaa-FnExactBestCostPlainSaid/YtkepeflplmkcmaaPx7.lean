/- Contracts of functions that the laws reach: a call returns what the plain Lean function of the same name tells. Conditions: those of each theorem. Made by gen.py, a program of this session, over the print of the translation. -/
import Derived.Test.YtkepeflplmkcmaaPx0
import Derived.Test.YtkepeflplmkcmaaPx1
import Derived.Test.YtkepeflplmkcmaaPx2
import Derived.Test.YtkepeflplmkcmaaPx3
import Derived.Test.YtkepeflplmkcmaaPx4
import Derived.Test.YtkepeflplmkcmaaPx6
import Derived.Shelf.Abstract
namespace Go.Proofs.Ytkepeflplmkcmaa.Q
open Go.RowKit Go.Proofs.YtkepeflplmkcmaaW.PrintWords Go.Proofs.YtkepeflplmkcmaaW.PrintLast Go.Proofs.YtkepeflplmkcmaaW.PrintMore
attribute [local go_sem] max2_int min2_int max_two min_two max_three min_three max_four min_four   -- for this text's walks alone
set_option linter.unusedVariables false
set_option linter.unusedSimpArgs false

-- HAND impl_Space_words: function 63
/-- A visit to all full words. -/
def impl_Space_words.run {σ : Type} (k : Nat) (n : Int) (l : List Int) (D : σ → List Int → Option (σ × Bool)) (st : σ) : Option σ :=
 (impl_Space_all.f n l).bind fun all => (impl_Space_family.f n l).bind fun F => (slices_Clone_int_int.f []).bind fun ws => (impl_Space_setOf.f k n l []).bind fun so => (wordsW all F D k st true ws so.1).bind fun r => some r.1
theorem impl_Space_words.run_mono {σ : Type} {D1 D2 : σ → List Int → Option (σ × Bool)} (hD : ∀ s ws, LeO (D1 s ws) (D2 s ws)) (k : Nat) (n : Int) (l : List Int) (st : σ) : LeO (impl_Space_words.run k n l D1 st) (impl_Space_words.run (k + 1) n l D2 st) := by
 unfold impl_Space_words.run
 exact LeO.bind (LeO.refl _) fun all => LeO.bind (LeO.refl _) fun F => LeO.bind (LeO.refl _) fun ws => LeO.bind (impl_Space_setOf.mono _ _ _ k) fun so => LeO.bind (wordsW_mono hD k _ _ _ _) fun r => LeO.refl _
theorem famf_of {n : Int} {l : List Int} {F : List Bool} (h : impl_Space_family.f n l = some F) : (∀ x ∈ l, 0 ≤ x ∧ x < 128) ∧ F = famOf l := by
 unfold impl_Space_family.f at h
 split at h
 ·
  rename_i hh
  refine ⟨fun x hx => ?_, (Option.some.inj h).symm⟩
  have h2 := List.all_eq_true.1 hh x hx
  rw [Bool.and_eq_true, decide_eq_true_eq, decide_eq_true_eq] at h2
  exact h2
 ·
  cases h
theorem four_new (W : World) (o1 o2 o3 o4 : Obj) : ((((W.alloc o1).alloc o2).alloc o3).alloc o4).heap[W.heap.size]? = some o1 ∧ ((((W.alloc o1).alloc o2).alloc o3).alloc o4).heap[W.heap.size + 1]? = some o2 ∧ ((((W.alloc o1).alloc o2).alloc o3).alloc o4).heap[W.heap.size + 1 + 1]? = some o3 ∧ ((((W.alloc o1).alloc o2).alloc o3).alloc o4).heap[W.heap.size + 1 + 1 + 1]? = some o4 ∧ Below W.heap.size W ((((W.alloc o1).alloc o2).alloc o3).alloc o4) := by
 have h1 := blk_new W o1
 have h2 := blk_new (W.alloc o1) o2
 have h3 := blk_new ((W.alloc o1).alloc o2) o3
 have h4 := blk_new (((W.alloc o1).alloc o2).alloc o3) o4
 rw [World.size_alloc] at h2
 rw [World.size_alloc, World.size_alloc] at h3
 rw [World.size_alloc, World.size_alloc, World.size_alloc] at h4
 exact ⟨blk_alloc (blk_alloc (blk_alloc h1 _) _) _, blk_alloc (blk_alloc h2 _) _, blk_alloc h3 _, h4, below_alloc (below_alloc (below_alloc (below_alloc (Below.refl _ _) _) _) _) _⟩
/-- Ahead of a visit. -/
theorem words_start {σ : Type} {I : World → (Nat → Prop) → σ → Prop} {D : σ → List Int → Option (σ × Bool)} {fd : Nat} {cd : Array Value} {wb : World} (hD : CBok I D fd cd wb) {n : Int} {A : Option Addr} {c : Nat} {l : List Int} {st : σ} {C : Nat → Prop} {w W4 : World} {gs gd bf c4 b0 : Nat} {A4 : Option Addr} {ws : List Int} {F : List Bool} (hb : Below wb.heap.size wb w) (hi : I w C st) (hb4 : Below w.heap.size w W4) (b1 : W4.heap[gs]? = some (.cells #[.int .i64 n, .slice A l.length c] 28 (0, 0))) (b2 : W4.heap[gd]? = some (.cells #[.func (.func fd) #[] cd] 75 (0, 0))) (h1 : w.heap.size ≤ gs) (h2 : w.heap.size ≤ gd) (h3 : w.heap.size ≤ bf) (h4 : w.heap.size ≤ b0) (hF : FamAt W4 bf F) (hR : Kd.R (Kd.int .i64) 3 W4 b0 (fun _ => True) (.slice A4 ws.length c4) ws) :
  WdS I wb ((((W4.alloc (.cells #[.pointer (some ⟨bf, 0, none⟩)] 105)).alloc (.cells #[.slice A4 ws.length c4] 22)).alloc (.cells #[.bool true] 4)).alloc (.cells #[.func (.func 111) #[] #[.pointer (some ⟨gs, 0, none⟩), .pointer (some ⟨gd, 0, none⟩), .pointer (some ⟨W4.heap.size + 1, 0, none⟩), .pointer (some ⟨W4.heap.size + 1 + 1, 0, none⟩), .pointer (some ⟨W4.heap.size, 0, none⟩), .pointer (some ⟨W4.heap.size + 1 + 1 + 1, 0, none⟩)]] 114)) C gs gd (W4.heap.size + 1) (W4.heap.size + 1 + 1) W4.heap.size (W4.heap.size + 1 + 1 + 1) bf n A c l (.func (.func fd) #[] cd) F true (.slice A4 ws.length c4) (.slice A4 ws.length c4) ws st ∧ Below W4.heap.size W4 ((((W4.alloc (.cells #[.pointer (some ⟨bf, 0, none⟩)] 105)).alloc (.cells #[.slice A4 ws.length c4] 22)).alloc (.cells #[.bool true] 4)).alloc (.cells #[.func (.func 111) #[] #[.pointer (some ⟨gs, 0, none⟩), .pointer (some ⟨gd, 0, none⟩), .pointer (some ⟨W4.heap.size + 1, 0, none⟩), .pointer (some ⟨W4.heap.size + 1 + 1, 0, none⟩), .pointer (some ⟨W4.heap.size, 0, none⟩), .pointer (some ⟨W4.heap.size + 1 + 1 + 1, 0, none⟩)]] 114)) := by
 obtain ⟨n1, n2, n3, n4, hX⟩ := four_new W4 (.cells #[.pointer (some ⟨bf, 0, none⟩)] 105) (.cells #[.slice A4 ws.length c4] 22) (.cells #[.bool true] 4) (.cells #[.func (.func 111) #[] #[.pointer (some ⟨gs, 0, none⟩), .pointer (some ⟨gd, 0, none⟩), .pointer (some ⟨W4.heap.size + 1, 0, none⟩), .pointer (some ⟨W4.heap.size + 1 + 1, 0, none⟩), .pointer (some ⟨W4.heap.size, 0, none⟩), .pointer (some ⟨W4.heap.size + 1 + 1 + 1, 0, none⟩)]] 114)
 have hs := hb4.size
 have hbs := hb.size
 have hn : ∀ {k : Nat}, w.heap.size ≤ k → ¬ C k := fun hk hc => by
  have := hD.bound _ _ _ hi _ hc
  omega
 have hbX : Below w.heap.size w ((((W4.alloc (.cells #[.pointer (some ⟨bf, 0, none⟩)] 105)).alloc (.cells #[.slice A4 ws.length c4] 22)).alloc (.cells #[.bool true] 4)).alloc (.cells #[.func (.func 111) #[] #[.pointer (some ⟨gs, 0, none⟩), .pointer (some ⟨gd, 0, none⟩), .pointer (some ⟨W4.heap.size + 1, 0, none⟩), .pointer (some ⟨W4.heap.size + 1 + 1, 0, none⟩), .pointer (some ⟨W4.heap.size, 0, none⟩), .pointer (some ⟨W4.heap.size + 1 + 1 + 1, 0, none⟩)]] 114)) := below_step hb4 hX
 refine ⟨⟨below_step hb hbX, blk_below b1 hX, blk_below b2 hX, n2, n3, n1, n4, hF.below hX, ?_, hn h1, hn h2, hn (by omega), hn (by omega), hn (by omega), hn (by omega), hn h3, by omega, by omega, hD.stay _ _ _ _ hi (fun k hk _ => hbX.block k hk) hbX.size⟩, hX⟩
 exact Kd.R_below (Kd.R_lower (Kd.R_mono (Kd.R_bound hR) (fun k hk => hn (Nat.le_trans h4 hk.2.1))) (Nat.le_trans hbs h4)) hX
set_option maxHeartbeats 4000000 in
set_option maxRecDepth 100000 in
theorem impl_Space_words.calls {σ : Type} (I : World → (Nat → Prop) → σ → Prop) (D : σ → List Int → Option (σ × Bool)) (fd : Nat) (cd : Array Value) (wb : World) (hD : CBok I D fd cd wb) (n : Int) (A : Option Addr) (c : Nat) (l : List Int) (k : Nat) (st st' : σ) (C : Nat → Prop) (w : World) (hl : Kd.C (Kd.int .i64) wb A l.length l) (hc : l.length ≤ c) (hb : Below wb.heap.size wb w) (hi : I w C st) (h : impl_Space_words.run k n l D st = some st') :
  Calls Try.prog 63 #[.agg #[.int .i64 n, .slice A l.length c], .slice none 0 0, .func (.func fd) #[] cd] w fun e w' => e = .returned (.tuple #[]) ∧ ∃ C', I w' C' st' ∧ (∀ k, C' k → C k ∨ w.heap.size ≤ k) ∧ Kept w w' C ∧ Below wb.heap.size wb w' := by
 have hu := Try.underlying28
 unfold impl_Space_words.run at h
 obtain ⟨all, hall, h⟩ := Option.bind_eq_some_iff.1 h
 obtain ⟨F, hF, h⟩ := Option.bind_eq_some_iff.1 h
 obtain ⟨ws, hws, h⟩ := Option.bind_eq_some_iff.1 h
 obtain ⟨⟨so, sb⟩, hso, h⟩ := Option.bind_eq_some_iff.1 h
 obtain ⟨r, hr, h⟩ := Option.bind_eq_some_iff.1 h
 obtain rfl := Option.some.inj h
 obtain ⟨hM, rfl⟩ := famf_of hF
 have HL := asd hl
 have HC := asd hc
 have HB := asd hb
 have HI := asd hi
 have HD := asd hD
 have HALL := asd hall
 have HM := asd hM
 have HWS := asd hws
 have HSO := asd hso
 have HR := asd hr
 clear hl hc hb hi hD hall hF hws hso hr h hM
 go_enter Try.func63, Try.ntmps63
 have HB0 := asd (Below.refl w.heap.size w)
 go_wp2_with (first | ((with_reducible refine gate_dst (N := 3) rfl ?_); refine box_event ?hg (N := 3) ?hd (cs := #[.int .i64 n, .slice A l.length c]) (t := 28) ?hr ?_; (case hd => rfl); (case hg => rfl); (case hr => first | (go_simp; done) | (go_simp; rfl)); intro gs gse W1 gsb W1b; have HB1 := asd (below_step (by repeat (first | exact HB0.out | apply pw_below_drewN | apply below_drew1 | apply below_alloc)) W1b); have BK1 := asd gsb; have GE1 := asd ((by rw [gse]; exact below_size (by repeat (first | exact HB0.out | apply pw_below_drewN | apply below_drew1 | apply below_alloc))) : w.heap.size ≤ gs); skip; clear W1b gsb gse) | ((with_reducible refine gate_dst (N := 5) rfl ?_); refine box_event ?hg (N := 5) ?hd (cs := #[.func (.func fd) #[] cd]) (t := 75) ?hr ?_; (case hd => rfl); (case hg => rfl); (case hr => first | (go_simp; done) | (go_simp; rfl)); intro gd gde W2 gdb W2b; have HB2 := asd (below_step (by repeat (first | exact HB1.out | apply pw_below_drewN | apply below_drew1 | apply below_alloc)) W2b); have BK2 := asd gdb; have GE2 := asd ((by rw [gde]; exact below_size (by repeat (first | exact HB1.out | apply pw_below_drewN | apply below_drew1 | apply below_alloc))) : w.heap.size ≤ gd); have BK12 := asd (blk_below BK1.out W2b); have NE2 : Aside0 (gs ≠ gd) := ⟨by have := blk_lt BK1.out; omega⟩; have q1 : W2.cell? ⟨gs, 0, none⟩ = some (.int .i64 n) := (blk_cell BK12.out 0).trans rfl; have q2 : W2.cell? ⟨gs, 1, none⟩ = some (.slice A l.length c) := (blk_cell BK12.out 1).trans rfl; clear W2b gdb gde) | (go_at_call 102; (with_reducible refine (impl_Space_family.walk n A c l _ ?sa ?sb HM.out).mono ?_); (case sa => exact Kd.C_below HL.out (below_step HB.out HB2.out)); (case sb => exact HC.out); rintro e W3 ⟨bf, rfl, hf, hfb, hb3⟩; have HF3 := asd hf; have FB3 := asd hfb; have HB3 := asd (below_step HB2.out hb3); have BK13 := asd (blk_below BK12.out hb3); have BK23 := asd (blk_below BK2.out hb3); clear hf hfb hb3 q1 q2) | (go_at_call 65; (refine (slices_Clone_int_int.calls none 0 [] ws _ ?sc ?sd HWS.out).mono ?_); (case sc => exact (Kd.R_reads' (Kd.R_nil (Kd.int .i64) 3 _ 0 (fun _ => True))).2.2); (case sd => exact Nat.le_refl _); rintro e W4 ⟨v4, rfl, hR4, hb4⟩; obtain ⟨A4, c4, e4⟩ := Kd.R_slice hR4; subst e4; have HR4 := asd hR4; have HF4 := asd (HF3.out.below hb4); have FB4 := asd (Nat.le_trans HB2.out.size FB3.out); have HB4 := asd (below_step HB3.out hb4); have BK14 := asd (blk_below BK13.out hb4); have BK24 := asd (blk_below BK23.out hb4); have hR4k := asd hR4; obtain ⟨hS5, hX5⟩ := words_start HD.out HB.out HI.out (below_step HB3.out hb4) (blk_below BK13.out hb4) (blk_below BK23.out hb4) GE1.out GE2.out (Nat.le_trans HB2.out.size FB3.out) HB3.out.size (HF3.out.below hb4) hR4; have HS5 := asd hS5; have HX5 := asd hX5; have q1 : (((((W4.alloc (.cells #[.pointer (some ⟨bf, 0, none⟩)] 105)).alloc (.cells #[.slice A4 ws.length c4] 22)).alloc (.cells #[.bool true] 4)).alloc (.cells #[.func (.func 111) #[] #[.pointer (some ⟨gs, 0, none⟩), .pointer (some ⟨gd, 0, none⟩), .pointer (some ⟨W4.heap.size + 1, 0, none⟩), .pointer (some ⟨W4.heap.size + 1 + 1, 0, none⟩), .pointer (some ⟨W4.heap.size, 0, none⟩), .pointer (some ⟨W4.heap.size + 1 + 1 + 1, 0, none⟩)]] 114))).cell? ⟨gs, 0, none⟩ = some (.int .i64 n) := (blk_cell hS5.b1 0).trans rfl; have q2 : (((((W4.alloc (.cells #[.pointer (some ⟨bf, 0, none⟩)] 105)).alloc (.cells #[.slice A4 ws.length c4] 22)).alloc (.cells #[.bool true] 4)).alloc (.cells #[.func (.func 111) #[] #[.pointer (some ⟨gs, 0, none⟩), .pointer (some ⟨gd, 0, none⟩), .pointer (some ⟨W4.heap.size + 1, 0, none⟩), .pointer (some ⟨W4.heap.size + 1 + 1, 0, none⟩), .pointer (some ⟨W4.heap.size, 0, none⟩), .pointer (some ⟨W4.heap.size + 1 + 1 + 1, 0, none⟩)]] 114))).cell? ⟨gs, 1, none⟩ = some (.slice A l.length c) := (blk_cell hS5.b1 1).trans rfl; clear hR4 hb4 hS5 hX5) | (go_at_call 112; (refine (impl_Space_setOf.calls k n A c l none 0 [] so sb _ ?se ?sf ?sg ?sh HSO.out).mono ?_); (case se => exact Kd.C_below HL.out HS5.out.bel); (case sf => exact HC.out); (case sg => exact (Kd.R_reads' (Kd.R_nil (Kd.int .i64) 3 _ 0 (fun _ => True))).2.2); (case sh => exact Nat.le_refl _); rintro e W6 ⟨rfl, hb6⟩; have HS6 := asd (HS5.out.below HD.out hb6); have HB6 := asd (below_step (below_step HB4.out HX5.out) hb6); have q9 : W6.cell? ⟨W4.heap.size + 1 + 1 + 1, 0, none⟩ = some (.func (.func 111) #[] #[.pointer (some ⟨gs, 0, none⟩), .pointer (some ⟨gd, 0, none⟩), .pointer (some ⟨W4.heap.size + 1, 0, none⟩), .pointer (some ⟨W4.heap.size + 1 + 1, 0, none⟩), .pointer (some ⟨W4.heap.size, 0, none⟩), .pointer (some ⟨W4.heap.size + 1 + 1 + 1, 0, none⟩)]) := (blk_cell HS6.out.b6 0).trans rfl; have GG : Aside0 (w.heap.size ≤ W4.heap.size) := ⟨HB4.out.size⟩; clear hb6 q1 q2) | (go_at_call 111; (refine (impl_Space_words_1.calls I D fd cd wb HD.out gs gd _ _ _ _ bf n A c l (famOf l) all HL.out HC.out HALL.out k st true ws so r C _ _ HS6.out HR.out).mono ?_); rintro e W7 ⟨rfl, C', v', hS7, hK7, hC7, hv7⟩; have HS7 := asd hS7; have HK7 := asd hK7; have HC7 := asd hC7; have HRB := asd (Kd.R_base hR4k.out); clear hS7 hK7 hC7 hv7))
 ((try simp only [Exit.inBlock, Exit.then]); first | refine bodyPost_ret (results_none rfl _ _ _) rfl ?_ | refine bodyPost_end (results_none rfl _ _ _) rfl ?_)
 refine ⟨rfl, C', HS7.out.inv, fun k hk => ?_, ?_, HS7.out.bel⟩
 ·
  rcases HC7.out k hk with h1 | h1
  ·
   exact .inl h1
  ·
   exact .inr (Nat.le_trans HB6.out.size h1)
 ·
  refine (Kept.of_below HB6.out C).then_ HK7.out (fun k hk => ?_)
  have hgg := GG.out
  rcases hk with hk | hk | hk | hk
  ·
   exact .inl hk
  ·
   exact .inr (by omega)
  ·
   exact .inr (by omega)
  ·
   exact .inr (Nat.le_trans HB3.out.size (HRB.out k hk.symm))

/-! ### impl_isSize: function 100 -/
def impl_isSize.f (a0 : Int) : Option (Bool) := (impl_within.f a0 1 7).bind fun t101 => (some t101)
set_option maxHeartbeats 8000000 in
set_option maxRecDepth 100000 in
theorem impl_isSize.calls (a0 : Int) (r : Bool) (w : World) (h : impl_isSize.f a0 = some r) :
    Calls Try.prog 100 #[.int .i64 a0] w fun e w' => e = .returned (.bool r) ∧ Drawn0 w w' := by
  have H : ((impl_within.f a0 1 7).bind fun t101 => (some t101)) = some r := h
  clear h
  replace H := Option.bind_eq_some_iff.mp H
  obtain ⟨t101, A20, H⟩ := H
  replace H : (some t101) = some r := H
  have A2 := Aside0.mk A20
  clear A20
  obtain rfl := Option.some.inj H
  go_enter Try.func100, Try.ntmps100
  go_wp2_with (first | ((with_reducible refine gate_callee (f := 61) rfl ?_); refine goesL_ (some 4) rfl rfl Try.func61 (by kernel_rfl) rfl #[.int .i64 a0, .int .i64 1, .int .i64 7] rfl (by (try simp only [List.map_toArray, List.map_cons, List.map_nil]); first | done | rfl | (simp only [List.length_drop, List.length_take]; rfl)) ?_; (with_reducible refine (impl_within.calls a0 1 7 t101 _ A2.out).mono ?_); rintro e w' ⟨rfl, ⟨nd, rfl⟩⟩; refine ⟨_, rfl, ?_⟩))
  go_ret
  exact ⟨by first | rfl | (simp; done) | (simp [*]; done), by repeat (first | exact Drawn0.refl _ | apply Drawn0.step)⟩

-- HAND with impl.isSize
theorem isSize_ok (n : Int) : impl_isSize.f n = some (decide (1 ≤ n) && decide (n ≤ 7)) := by
  unfold impl_isSize.f impl_within.f
  by_cases h : 1 ≤ n
  · rw [if_pos h]; simp [h]
  · rw [if_neg h]; simp [h]

/-! ### impl_isSet: function 101 -/
def impl_isSet.f (a0 : Int) (a1 : Int) : Option (Bool) := if 0 ≤ a0 then ((impl_within.f a1 0 (wrap64 ((shl .i64 1 a0) - 1))).bind fun t101 => (some t101)) else (none)
set_option maxHeartbeats 8000000 in
set_option maxRecDepth 100000 in
theorem impl_isSet.calls (a0 : Int) (a1 : Int) (r : Bool) (w : World) (h : impl_isSet.f a0 a1 = some r) :
    Calls Try.prog 101 #[.int .i64 a0, .int .i64 a1] w fun e w' => e = .returned (.bool r) ∧ Drawn0 w w' := by
  have H : (if 0 ≤ a0 then ((impl_within.f a1 0 (wrap64 ((shl .i64 1 a0) - 1))).bind fun t101 => (some t101)) else (none)) = some r := h
  clear h
  by_cases c3 : 0 ≤ a0
  · rw [if_pos c3] at H
    have c3b0 := eq_true c3
    have c3b1 : decide (0 ≤ a0) = true := decide_eq_true c3
    clear c3
    obtain ⟨ji4, hji4⟩ : ∃ j_ : Int, (shl .i64 1 a0) = j_ := ⟨_, rfl⟩
    replace H : ((impl_within.f a1 0 (wrap64 ((ji4) - 1))).bind fun t101 => (some t101)) = some r := by first | (rw [hji4] at H; exact H) | (simp only [hji4] at H ⊢; exact H)
    have hji4_ : (IntKind.i64.wrap (1 * 2 ^ min a0.toNat 64)) = ji4 := hji4
    have hji4z : a0 ≤ 64 → (IntKind.i64.wrap (1 * 2 ^ a0.toNat)) = ji4 := shl_small hji4
    have hji4u : (IntKind.i64.wrap (2 ^ min a0.toNat 64)) = ji4 := by have h_ := hji4_; rw [Int.one_mul] at h_; exact h_
    have hji4v : a0 ≤ 64 → (IntKind.i64.wrap (2 ^ a0.toNat)) = ji4 := fun hle_ => by have h_ := hji4z hle_; rw [Int.one_mul] at h_; exact h_
    have hji4y : (wrap64 (1 * 2 ^ min a0.toNat 64)) = ji4 := (i64_w _).symm.trans hji4_
    have hji4x : a0 ≤ 64 → (wrap64 (1 * 2 ^ a0.toNat)) = ji4 := fun h_ => (i64_w _).symm.trans (hji4z h_)
    replace H := Option.bind_eq_some_iff.mp H
    obtain ⟨t101, A50, H⟩ := H
    replace H : (some t101) = some r := H
    have A5 := Aside0.mk A50
    clear A50
    obtain rfl := Option.some.inj H
    go_enter Try.func101, Try.ntmps101
    go_wp2_with (first | ((with_reducible refine gate_callee (f := 61) rfl ?_); refine goesL_ (some 9) rfl rfl Try.func61 (by kernel_rfl) rfl #[.int .i64 a1, .int .i64 0, .int .i64 (wrap64 ((ji4) - 1))] rfl (by (try simp only [List.map_toArray, List.map_cons, List.map_nil]); first | done | (simp only [hji4]; rfl) | rfl | (simp only [List.length_drop, List.length_take]; rfl)) ?_; (with_reducible refine (impl_within.calls a1 0 (wrap64 ((ji4) - 1)) t101 _ A5.out).mono ?_); rintro e w' ⟨rfl, ⟨nd, rfl⟩⟩; refine ⟨_, rfl, ?_⟩))
    go_ret
    exact ⟨by first | rfl | (simp; done) | (simp only [← hji4] <;> (first | rfl | simp)) | (simp [*]; done), by repeat (first | exact Drawn0.refl _ | apply Drawn0.step)⟩
  · rw [if_neg c3] at H
    exact absurd H (by simp)

-- HAND with impl.isSet
theorem isSet_ok (n x : Int) (h0 : 0 ≤ n) (h1 : n ≤ 7) : impl_isSet.f n x = some (decide (0 ≤ x) && decide (x < 2 ^ n.toNat)) := by
  unfold impl_isSet.f impl_within.f
  rw [if_pos h0, wrapPow h0 h1]
  by_cases h : 0 ≤ x
  · rw [if_pos h]
    simp only [Option.bind_some, h, decide_true, Bool.true_and]
    congr 1
    exact decide_eq_decide.2 (by omega)
  · rw [if_neg h]; simp [h]

-- HAND impl_family_inner: function 104
def innerStep (F : List Bool) (x a i : Int) : Int := if F.getD (nd x.toNat (2 ^ i.toNat)) false = true then ((a.toNat ||| 2 ^ i.toNat : Nat) : Int) else a
theorem innerStep_fold (F : List Bool) (x : Nat) : ∀ (l : List Nat) (a : Nat), (l.map (fun (i : Nat) => (i : Int))).foldl (innerStep F x) (a : Int) = ((l.foldl (fun a i => if F.getD (nd x (2 ^ i)) false = true then a ||| 2 ^ i else a) a : Nat) : Int)
  | [], a => rfl
  | i :: l, a => by
    rw [List.map_cons, List.foldl_cons, List.foldl_cons]
    have : innerStep F x a i = (((if F.getD (nd x (2 ^ i)) false = true then a ||| 2 ^ i else a) : Nat) : Int) := by
      unfold innerStep
      simp only [Int.toNat_natCast]
      split <;> rfl
    rw [this]
    exact innerStep_fold F x l _
theorem inner_fold (F : List Bool) (x : Nat) : (itemsL (x : Int)).foldl (innerStep F x) 0 = (innerF F x : Int) := by
  have := innerStep_fold F x (itemsN x) 0
  unfold itemsL
  rw [Int.toNat_natCast]
  refine this.trans ?_
  rw [itemsFold]
  rfl
set_option maxHeartbeats 8000000 in
set_option maxRecDepth 100000 in
theorem impl_family_inner.walkC (ad0 : Addr) (F : List Bool) (x : Int) (w : World) (hF : FamC w ad0 F) (h0 : 0 ≤ x) (h1 : x < 128) :
    Calls Try.prog 104 #[.pointer (some ad0), .int .i64 x] w fun e w' => e = .returned (.int .i64 (innerF F x.toNat)) ∧ Below w.heap.size w w' := by
  obtain ⟨x, rfl⟩ := Int.eq_ofNat_of_zero_le h0
  have HX := Aside0.mk (show x < 128 by omega)
  have HI := Aside0.mk (items_ok x h0 h1)
  have HF := Aside0.mk hF
  clear h0 h1 hF
  rw [Int.toNat_natCast]
  go_enter Try.func104, Try.ntmps104
  go_wp2_with (go_at_call 109; refine (impl_items.calls 8 _ _ _ HI.out).mono ?_; rintro e w1 ⟨v0, rfl, hR, hb⟩; obtain ⟨A, c, rfl⟩ := Kd.R_slice hR; have HR := Aside0.mk (Kd.R_reads' hR).2.2; have HB := Aside0.mk hb; clear hR hb)
  have HL := Aside0.mk (fun i => itemsL_mem (x := (x : Int)) (i := i))
  have HE := Aside0.mk (inner_fold F x)
  generalize itemsL (x : Int) = L at *
  go_loopw [5, 11] (fun v5 v11 wr => ∃ (k a : Nat), Aside0 (k ≤ L.length) ∧ v11 = .int .i64 k ∧ Aside0 (a < 128) ∧ v5 = .int .i64 a ∧ Aside0 ((L.take k).foldl (innerStep F x) 0 = a) ∧ Drawn0 w1 wr) (fun _ v11 _ => L.length - (intOf v11).toNat)
  case atStart => exact ⟨0, 0, ⟨Nat.zero_le _⟩, rfl, ⟨by decide⟩, rfl, ⟨rfl⟩, Drawn0.refl _⟩
  case round =>
    obtain ⟨k, a, hk, rfl, ha, rfl, hf, ⟨n, rfl⟩⟩ := hrel
    have hm := Kd.C_max HR.out
    by_cases hlt : k < L.length
    · obtain ⟨ad, e, hcell⟩ := Kd.at_int HR.out (k : Int) (by omega) (by omega)
      have hi := HL.out _ (rd_mem (l := L) (i := (k : Int)) (by omega) (by omega))
      have HT := Aside0.mk (take_rd L k hlt)
      obtain ⟨i, hI⟩ : ∃ i, i = rd L k := ⟨_, rfl⟩
      rw [← hI] at hi hcell HT
      clear hI
      cases e
      rw [Int.toNat_natCast] at hcell
      obtain ⟨i0, i1, ib⟩ := hi
      have hy := bits_nd x (2 ^ i.toNat) (lt63 HX.out) (lt63 (pow_lt128 i0 i1))
      have hylt : nd x (2 ^ i.toNat) < 128 := nd_lt (n := 7) HX.out
      have HO := Aside0.mk (bits_or a (2 ^ i.toNat) (lt63 ha.out) (lt63 (pow_lt128 i0 i1)))
      have HOL := Aside0.mk (Nat.or_lt_two_pow (n := 7) ha.out (pow_lt128 i0 i1))
      have HS := Aside0.mk (show innerStep F x (a : Int) i = if F.getD (nd x (2 ^ i.toNat)) false = true then ((a ||| 2 ^ i.toNat : Nat) : Int) else (a : Int) by unfold innerStep; simp only [Int.toNat_natCast])
      obtain ⟨j, hj⟩ : ∃ j, j = ((2 ^ i.toNat : Nat) : Int) := ⟨_, rfl⟩
      rw [← hj] at hy HO
      obtain ⟨s1, s2, s3, s4, s5, s6, s7, s8⟩ := shl_ways ((shl_nat i0 (by omega)).trans hj.symm) (by omega)
      clear hj
      obtain ⟨y, hY⟩ : ∃ y : Int, y = (nd x (2 ^ i.toNat) : Nat) := ⟨_, rfl⟩
      have y0 : 0 ≤ y := by omega
      have y1 : y < 128 := by omega
      have hYn : nd x (2 ^ i.toNat) = y.toNat := by omega
      rw [← hY] at hy
      rw [hYn] at HS
      clear hY hYn hylt ib
      have hfc := (HF.out.below HB.out).at_ y y0 y1
      obtain ⟨v, hv⟩ : ∃ v, v = F.getD y.toNat false := ⟨_, rfl⟩
      rw [← hv] at hfc HS
      clear hv
      cases v
      all_goals
        go_wp2
        go_quiet (fail)
        try go_wp2
      · go_roundw
        case rel => exact ⟨k + 1, a, ⟨by omega⟩, by go_num, ha, rfl, ⟨by rw [HT.out, List.foldl_append, hf.out]; simpa using HS.out⟩, by repeat (first | exact Drawn0.refl _ | apply Drawn0.step)⟩
        case measure => simp [intOf]; omega
      · go_roundw
        case rel => exact ⟨k + 1, a ||| 2 ^ i.toNat, ⟨by omega⟩, by go_num, HOL, by first | rfl | (rw [← HO.out]), ⟨by rw [HT.out, List.foldl_append, hf.out]; simpa using HS.out⟩, by repeat (first | exact Drawn0.refl _ | apply Drawn0.step)⟩
        case measure => simp [intOf]; omega
    · have hk' := hk.out
      obtain rfl : k = L.length := by omega
      have hm := Kd.C_max HR.out
      have HW := Aside0.mk (show (a : Int) = innerF F x from hf.out.symm.trans (by rw [List.take_length]; exact HE.out))
      clear hf HE
      go_wp2
      go_ret
      exact ⟨by have := HW.out; first | (rw [this]; done) | (simp; omega) | omega, by repeat (first | exact HB.out | apply pw_below_drewN)⟩
theorem impl_family_inner.walk (b : Nat) (F : List Bool) (x : Int) (w : World) (hF : FamAt w b F) (h0 : 0 ≤ x) (h1 : x < 128) :
    Calls Try.prog 104 #[.pointer (some ⟨b, 0, none⟩), .int .i64 x] w fun e w' => e = .returned (.int .i64 (innerF F x.toNat)) ∧ Below w.heap.size w w' := impl_family_inner.walkC ⟨b, 0, none⟩ F x w hF.c h0 h1
def impl_family_inner.f (l0 : List Bool) (a1 : Int) : Option Int := if l0.length = 128 ∧ 0 ≤ a1 ∧ a1 < 128 then some (innerF l0 a1.toNat) else none
theorem impl_family_inner.calls (A0 : Option Addr) (c0 : Nat) (l0 : List Bool) (a1 : Int) (r : Int) (w : World) (hr0 : Kd.C Kd.bool w A0 l0.length l0) (hc0 : l0.length ≤ c0) (h : impl_family_inner.f l0 a1 = some r) :
    Calls Try.prog 104 #[.pointer A0, .int .i64 a1] w fun e w' => e = .returned (.int .i64 r) ∧ Below w.heap.size w w' := by
  unfold impl_family_inner.f at h
  split at h
  · rename_i hl
    have e := Option.some.inj h
    subst e
    obtain ⟨ad, rfl, HF⟩ := FamC.of_reads hr0 hl.1
    exact impl_family_inner.walkC ad l0 a1 w HF hl.2.1 hl.2.2
  · cases h

-- HAND impl_IsSpace: function 47
def impl_IsSpace.f (a0_0 : Int) (l0_1 : List Int) : Option (Bool) := some (isSpaceB a0_0 l0_1)
set_option maxHeartbeats 8000000 in
set_option maxRecDepth 100000 in
theorem impl_IsSpace.early (n : Int) (A : Option Addr) (c : Nat) (l : List Int) (w : World) (hr : Kd.C (Kd.int .i64) w A l.length l) (hn : (decide (1 ≤ n) && decide (n ≤ 7) && decide ((l.length : Int) ≤ 2 ^ n.toNat)) = false) :
  Calls Try.prog 47 #[.agg #[.int .i64 n, .slice A l.length c]] w fun e w' => e = .returned (.bool false) ∧ Below w.heap.size w w' := by
 have hu := Try.underlying28
 have HS := asd (isSize_ok n)
 have hm := Kd.C_max hr
 by_cases h1 : (decide (1 ≤ n) && decide (n ≤ 7)) = true
 ·
  rw [h1] at hn HS
  simp only [Bool.true_and, decide_eq_false_iff_not] at hn
  simp only [Bool.and_eq_true, decide_eq_true_eq] at h1
  obtain ⟨n0, n7⟩ := h1
  have hp := pow128 (n := n) (by omega) n7
  obtain ⟨j, hj⟩ : ∃ j, j = shl .i64 1 n := ⟨_, rfl⟩
  have hj' := shl_nat (i := n) (by omega) (by omega)
  obtain ⟨s1, s2, s3, s4, s5, s6, s7, s8⟩ := shl_ways hj.symm (by omega)
  have c1 : decide (j < (l.length : Int)) = true := decide_eq_true (by rw [hj, hj']; push_cast; omega)
  have c0 : (0 : Int) ≤ n := by omega
  clear hj hj' hn hp
  go_enter Try.func47, Try.ntmps47
  go_wp2_with ((with_reducible refine gate_dst (N := 1) rfl ?_); refine box_event ?hg (N := 1) ?hd (cs := #[.int .i64 n, .slice A l.length c]) (t := 28) ?hr ?_; (case hd => rfl); (case hg => rfl); (case hr => first | (go_simp; done) | (go_simp; rfl)); intro g ge W gb Wb; have HXg := asd (SpBox.mk_ ge gb Wb); have gz0 := HXg.out.c0; have gz1 := HXg.out.c1; clear ge gb Wb)
  go_quiet (first | (go_at_call 100; (with_reducible refine (impl_isSize.calls _ _ _ HS.out).mono ?_); rintro e w' ⟨rfl, ⟨nd, rfl⟩⟩; (try first | exact ⟨rfl, _, World.drewN_drewN _ _ _⟩ | exact ⟨rfl, _, Eq.trans (World.drewN_drewN _ _ _) (congrArg (World.drewN _) (Nat.add_assoc _ _ _))⟩)))
  go_wp2
  go_ret
  exact ⟨rfl, by repeat (first | exact HXg.out.bel | apply pw_below_drewN | apply below_drew1)⟩
 ·
  have h1' : (decide (1 ≤ n) && decide (n ≤ 7)) = false := by simpa using h1
  rw [h1'] at HS
  clear h1 h1' hn
  go_enter Try.func47, Try.ntmps47
  go_wp2_with ((with_reducible refine gate_dst (N := 1) rfl ?_); refine box_event ?hg (N := 1) ?hd (cs := #[.int .i64 n, .slice A l.length c]) (t := 28) ?hr ?_; (case hd => rfl); (case hg => rfl); (case hr => first | (go_simp; done) | (go_simp; rfl)); intro g ge W gb Wb; have HXg := asd (SpBox.mk_ ge gb Wb); have gz0 := HXg.out.c0; have gz1 := HXg.out.c1; clear ge gb Wb)
  go_quiet (first | (go_at_call 100; (with_reducible refine (impl_isSize.calls _ _ _ HS.out).mono ?_); rintro e w' ⟨rfl, ⟨nd, rfl⟩⟩; (try first | exact ⟨rfl, _, World.drewN_drewN _ _ _⟩ | exact ⟨rfl, _, Eq.trans (World.drewN_drewN _ _ _) (congrArg (World.drewN _) (Nat.add_assoc _ _ _))⟩)))
  go_wp2
  go_ret
  exact ⟨rfl, by repeat (first | exact HXg.out.bel | apply pw_below_drewN | apply below_drew1)⟩
/-- What the first loop has seen. -/
def risen (n : Int) (l : List Int) (k : Nat) : Bool := (List.range k).all fun (i : Nat) => okAt n l i
theorem risen_succ (n : Int) (l : List Int) (k : Nat) : risen n l (k + 1) = (risen n l k && okAt n l k) := by simp [risen, List.range_succ]
theorem risen_not {n : Int} {l : List Int} {i : Int} (h0 : 0 ≤ i) (h : i < l.length) (hb : okAt n l i = false) : risingB n l = false := by
 rw [Bool.eq_false_iff]
 intro hc
 simp only [risingB, List.all_eq_true, List.mem_range] at hc
 have := hc i.toNat (by omega)
 rw [show ((i.toNat : Nat) : Int) = i by omega, hb] at this
 cases this
set_option maxHeartbeats 8000000 in
set_option maxRecDepth 100000 in
theorem impl_IsSpace.main (n : Int) (A : Option Addr) (c : Nat) (l : List Int) (w : World) (hr : Kd.C (Kd.int .i64) w A l.length l) (hc : l.length ≤ c) (hn : (decide (1 ≤ n) && decide (n ≤ 7) && decide ((l.length : Int) ≤ 2 ^ n.toNat)) = true) :
  Calls Try.prog 47 #[.agg #[.int .i64 n, .slice A l.length c]] w fun e w' => e = .returned (.bool (isSpaceB n l)) ∧ Below w.heap.size w w' := by
 have hu := Try.underlying28
 have HS := asd (isSize_ok n)
 have hm := Kd.C_max hr
 have HR := asd hr
 have HC := asd hc
 have HE : Aside0 (isSpaceB n l = (risingB n l && (famOf l).getD 0 false && (famOf l).getD (2 ^ n.toNat - 1) false && unionsB (famOf l) l)) := ⟨by unfold isSpaceB; rw [hn]; simp⟩
 simp only [Bool.and_eq_true, decide_eq_true_eq] at hn
 obtain ⟨⟨n0, n7⟩, hlen⟩ := hn
 rw [show (decide (1 ≤ n) && decide (n ≤ 7)) = true by simp [n0, n7]] at HS
 have hp := pow128 (n := n) (by omega) n7
 obtain ⟨j, hj⟩ : ∃ j, j = shl .i64 1 n := ⟨_, rfl⟩
 have hj' := shl_nat (i := n) (by omega) (by omega)
 obtain ⟨s1, s2, s3, s4, s5, s6, s7, s8⟩ := shl_ways hj.symm (by omega)
 have c1 : decide (j < (l.length : Int)) = false := decide_eq_false (by rw [hj, hj']; push_cast; omega)
 have c0 : (0 : Int) ≤ n := by omega
 have HP := asd hp
 clear hj hj' hr hc hp hlen
 go_enter Try.func47, Try.ntmps47
 go_wp2_with ((with_reducible refine gate_dst (N := 1) rfl ?_); refine box_event ?hg (N := 1) ?hd (cs := #[.int .i64 n, .slice A l.length c]) (t := 28) ?hr ?_; (case hd => rfl); (case hg => rfl); (case hr => first | (go_simp; done) | (go_simp; rfl)); intro g ge W gb Wb; have HXg := asd (SpBox.mk_ ge gb Wb); have gz0 := HXg.out.c0; have gz1 := HXg.out.c1; clear ge gb Wb)
 go_quiet (first | (go_at_call 100; (with_reducible refine (impl_isSize.calls _ _ _ HS.out).mono ?_); rintro e w' ⟨rfl, ⟨nd, rfl⟩⟩; (try first | exact ⟨rfl, _, World.drewN_drewN _ _ _⟩ | exact ⟨rfl, _, Eq.trans (World.drewN_drewN _ _ _) (congrArg (World.drewN _) (Nat.add_assoc _ _ _))⟩)))
 go_wp2
 go_loopw [26] (fun v26 wr => ∃ i : Int, Aside0 (0 ≤ i ∧ i ≤ l.length) ∧ v26 = .int .i64 i ∧ Aside0 (risen n l i.toNat = true) ∧ Drawn0 W wr) (fun v26 _ => l.length - (intOf v26).toNat)
 case atStart => exact ⟨0, ⟨by omega⟩, rfl, ⟨rfl⟩, by repeat (first | exact Drawn0.refl _ | apply Drawn0.step)⟩
 case round =>
  obtain ⟨i, hi, rfl, hz, ⟨nd, rfl⟩⟩ := hrel
  by_cases hlt : i < l.length
  ·
   have i0 := hi.out.1
   have HT := asd (isSet_ok n (rd l i) c0 n7)
   have HN : Aside0 (risen n l (i + 1).toNat = okAt n l i) := ⟨by rw [show (i + 1).toNat = i.toNat + 1 by omega, risen_succ, hz.out, show ((i.toNat : Nat) : Int) = i by omega, Bool.true_and]⟩
   have HF : Aside0 (okAt n l i = false → isSpaceB n l = false) := ⟨fun h => by rw [HE.out, risen_not i0 hlt h]; rfl⟩
   have HO : Aside0 (okAt n l i = ((decide (0 ≤ rd l i) && decide (rd l i < 2 ^ n.toNat)) && (decide (i = 0) || decide (rd l (i - 1) < rd l i)))) := ⟨rfl⟩
   obtain ⟨ad, e, hcell⟩ := Kd.at_int (Kd.C_below HR.out HXg.out.bel) i i0 hlt
   have hcellp : 0 < i → W.cell? (ad.add (i - 1).toNat) = some (.int .i64 (rd l (i - 1))) := fun hpos => by
    obtain ⟨ad', e', hcell'⟩ := Kd.at_int (Kd.C_below HR.out HXg.out.bel) (i - 1) (by omega) (by omega)
    rw [e] at e'
    cases e'
    exact hcell'
   cases e
   generalize rd l i = x at *
   generalize rd l (i - 1) = y at *
   by_cases hin : (decide (0 ≤ x) && decide (x < 2 ^ n.toNat)) = true
   ·
    rw [hin] at HT HO
    clear hin
    by_cases hpos : 0 < i
    ·
     have hcp := hcellp hpos
     rw [show (i - 1).toNat = i.toNat - 1 by omega] at hcp
     have hi1 : (0 : Int) ≤ i - 1 := by omega
     have hi2 : i - 1 < l.length := by omega
     have b1 : decide (0 < i) = true := decide_eq_true hpos
     clear hcellp
     by_cases hyx : x ≤ y
     ·
      have HB := asd (HF.out (HO.out.trans (by simp; omega)))
      have b2 : decide (x ≤ y) = true := decide_eq_true hyx
      go_wp2_with (first | (go_at_call 101; (with_reducible refine (impl_isSet.calls _ _ _ _ HT.out).mono ?_); rintro e w' ⟨rfl, ⟨nd, rfl⟩⟩; (try first | exact ⟨rfl, _, World.drewN_drewN _ _ _⟩ | exact ⟨rfl, _, Eq.trans (World.drewN_drewN _ _ _) (congrArg (World.drewN _) (Nat.add_assoc _ _ _))⟩)))
      go_ret
      exact ⟨by rw [HB.out]; rfl, by repeat (first | exact HXg.out.bel | apply pw_below_drewN | apply below_drew1)⟩
     ·
      have HB := asd (HO.out.trans (show _ = true by simp; omega))
      have b2 : decide (x ≤ y) = false := decide_eq_false hyx
      go_wp2_with (first | (go_at_call 101; (with_reducible refine (impl_isSet.calls _ _ _ _ HT.out).mono ?_); rintro e w' ⟨rfl, ⟨nd, rfl⟩⟩; (try first | exact ⟨rfl, _, World.drewN_drewN _ _ _⟩ | exact ⟨rfl, _, Eq.trans (World.drewN_drewN _ _ _) (congrArg (World.drewN _) (Nat.add_assoc _ _ _))⟩)))
      go_roundw
      case rel => exact ⟨i + 1, ⟨by omega⟩, by first | rfl | go_num, ⟨by rw [HN.out, HB.out]⟩, by repeat (first | exact Drawn0.refl _ | apply Drawn0.step)⟩
      case measure => simp [intOf]; omega
    ·
     have hi0 : i = 0 := by have := hi.out; omega
     have HB := asd (HO.out.trans (show _ = true by simp [hi0]))
     have b1 : decide (0 < i) = false := decide_eq_false hpos
     clear hcellp hi0
     go_wp2_with (first | (go_at_call 101; (with_reducible refine (impl_isSet.calls _ _ _ _ HT.out).mono ?_); rintro e w' ⟨rfl, ⟨nd, rfl⟩⟩; (try first | exact ⟨rfl, _, World.drewN_drewN _ _ _⟩ | exact ⟨rfl, _, Eq.trans (World.drewN_drewN _ _ _) (congrArg (World.drewN _) (Nat.add_assoc _ _ _))⟩)))
     go_roundw
     case rel => exact ⟨i + 1, ⟨by omega⟩, by first | rfl | go_num, ⟨by rw [HN.out, HB.out]⟩, by repeat (first | exact Drawn0.refl _ | apply Drawn0.step)⟩
     case measure => simp [intOf]; omega
   ·
    have hin' : (decide (0 ≤ x) && decide (x < 2 ^ n.toNat)) = false := by simpa using hin
    rw [hin'] at HT HO
    have HB := asd (HF.out (HO.out.trans rfl))
    clear hin hin' hcellp
    go_wp2_with (first | (go_at_call 101; (with_reducible refine (impl_isSet.calls _ _ _ _ HT.out).mono ?_); rintro e w' ⟨rfl, ⟨nd, rfl⟩⟩; (try first | exact ⟨rfl, _, World.drewN_drewN _ _ _⟩ | exact ⟨rfl, _, Eq.trans (World.drewN_drewN _ _ _) (congrArg (World.drewN _) (Nat.add_assoc _ _ _))⟩)))
    go_ret
    exact ⟨by rw [HB.out]; rfl, by repeat (first | exact HXg.out.bel | apply pw_below_drewN | apply below_drew1)⟩
  ·
   have HA : Aside0 (risingB n l = true) := ⟨by have := hz.out; rwa [show i.toNat = l.length by have := hi.out; omega] at this⟩
   have HI := asd (show i = l.length by have := hi.out; omega)
   clear hz
   have HM : Aside0 (∀ x ∈ l, 0 ≤ x ∧ x < 128) := ⟨fun x hx => by have := risingB_mem HA.out hx; have := HP.out; omega⟩
   go_wp2_with (first | (go_at_call 102; (with_reducible refine (impl_Space_family.walk n _ _ l _ (Kd.C_drewN (Kd.C_below HR.out HXg.out.bel) _) HC.out HM.out).mono ?_); rintro e W2 ⟨b, rfl, HF, hbg, hbel⟩; have HX2 := asd (HXg.out.next ((pw_below_drewN (Below.refl _ _) _).trans (hbel.mono (Nat.le_refl _)))); have HF := asd HF; have k0 := HX2.out.c0; have k1 := HX2.out.c1; clear hbg hbel))
   have f0 := HF.out.at_ 0 (by decide) (by decide)
   rw [show (0 : Int).toNat = 0 from rfl] at f0
   obtain ⟨v0, hv0⟩ : ∃ v, v = (famOf l).getD 0 false := ⟨_, rfl⟩
   rw [← hv0] at f0
   have HV0 := asd hv0
   clear hv0
   cases v0
   ·
    have HB : Aside0 (isSpaceB n l = false) := ⟨by rw [HE.out, HA.out, ← HV0.out]; rfl⟩
    go_quiet (fail)
    go_wp2
    go_ret
    exact ⟨by rw [HB.out]; rfl, by repeat (first | exact HX2.out.bel | apply pw_below_drewN | apply below_drew1)⟩
   ·
    have HAL := asd (all_ok n l c0 n7)
    obtain ⟨m, hm2⟩ : ∃ m : Int, m = 2 ^ n.toNat - 1 := ⟨_, rfl⟩
    have m0 : 0 ≤ m := by have := HP.out; omega
    have m1 : m < 128 := by have := HP.out; omega
    have f1 := HF.out.at_ m m0 m1
    rw [← hm2] at HAL
    obtain ⟨v1, hv1⟩ : ∃ v, v = (famOf l).getD m.toNat false := ⟨_, rfl⟩
    rw [← hv1] at f1
    have HV1 := asd hv1
    have HM2 := asd hm2
    clear hv1 hm2
    have HK : Aside0 (∀ w', Below W2.heap.size W2 w' → Aside0 (Below W2.heap.size W2 w') ∧ w'.cell? ⟨g, 0, none⟩ = some (.int .i64 n) ∧ w'.cell? ⟨g, 1, none⟩ = some (.slice A l.length c) ∧ w'.cell? ⟨b, 0, none⟩ = some (.bool true) ∧ w'.cell? ⟨b, m.toNat, none⟩ = some (.bool v1)) :=
     ⟨fun w' hb => ⟨⟨hb⟩, pw_cell_below hb k0, pw_cell_below hb k1, pw_cell_below hb f0, pw_cell_below hb f1⟩⟩
    go_region_held3 (fun w' => Aside0 (Below W2.heap.size W2 w') ∧ w'.cell? ⟨g, 0, none⟩ = some (.int .i64 n) ∧ w'.cell? ⟨g, 1, none⟩ = some (.slice A l.length c) ∧ w'.cell? ⟨b, 0, none⟩ = some (.bool true) ∧ w'.cell? ⟨b, m.toNat, none⟩ = some (.bool v1)) (first | exact HK.out _ (below_drew1 (Below.refl _ _)) | exact HK.out _ (below_step (‹Aside0 (Below W2.heap.size W2 _) ∧ _›).1.out (by assumption))) (first | (go_at_call 103; (with_reducible refine (impl_Space_all.calls n _ _ l m _ ?sa ?sb HAL.out).mono ?_); (case sa => exact Kd.C_below (Kd.C_below HR.out HX2.out.bel) (‹Aside0 (Below W2.heap.size W2 _) ∧ _›).1.out); (case sb => exact HC.out); rintro e W3 ⟨rfl, hb3⟩))
    have HB3 := (‹Aside0 (Below W2.heap.size W2 _) ∧ _›).1
    have HX3 := asd (HX2.out.next HB3.out)
    have HF3 := asd (HF.out.below HB3.out)
    have q0 := HX3.out.c0
    have q1 := HX3.out.c1
    clear HK hb3 k0 k1 f0 f1
    cases v1
    ·
     have HB : Aside0 (isSpaceB n l = false) := ⟨by rw [HE.out, HA.out, ← HV0.out, toNat_pow HM2.out, ← HV1.out]; rfl⟩
     go_wp2
     go_ret
     exact ⟨by rw [HB.out]; rfl, HX3.out.bel⟩
    ·
     have HG : Aside0 (isSpaceB n l = unionsB (famOf l) l) := ⟨by rw [HE.out, HA.out, ← HV0.out, toNat_pow HM2.out, ← HV1.out]; rfl⟩
     clear HE HV0 HV1 HM2 m0 m1 HAL HS HX2 HF HXg gz0 gz1 s1 s2 s3 s4 s5 s6 s7 s8 HB3
     go_wp2
     go_loopw [70] (fun v70 wr => ∃ i : Int, Aside0 (0 ≤ i ∧ i ≤ l.length) ∧ v70 = .int .i64 i ∧ Aside0 (allTo (unionItem (famOf l) l) l i = true) ∧ Aside0 (Below W3.heap.size W3 wr)) (fun v70 _ => l.length - (intOf v70).toNat)
     case atStart => exact ⟨0, ⟨by omega⟩, rfl, ⟨rfl⟩, ⟨by repeat (first | exact Below.refl _ _ | apply pw_below_drewN | apply below_drew1)⟩⟩
     case round =>
      obtain ⟨k, hk, rfl, hz, HBr⟩ := hrel
      by_cases hlt : k < l.length
      ·
       have k0 := hk.out.1
       have HZ := asd (allTo_succ (unionItem (famOf l) l) l k k0 hlt)
       have HMEM := asd (rd_mem k0 hlt)
       have HNOT : Aside0 (unionItem (famOf l) l (rd l k) = false → isSpaceB n l = false) := ⟨fun h => HG.out.trans (all_not HMEM.out h)⟩
       have hx := HM.out _ HMEM.out
       have HRA := asd (Kd.C_below (Kd.C_below HR.out HX3.out.bel) HBr.out)
       have HXr := asd (HX3.out.next HBr.out)
       have HFr := asd (HF3.out.below HBr.out)
       obtain ⟨ad, e, hcell⟩ := Kd.at_int HRA.out k k0 hlt
       cases e
       clear q0 q1
       have q0 := HXr.out.c0
       have q1 := HXr.out.c1
       have hUI : unionItem (famOf l) l (rd l k) = ((decide (rd l k = 0) || !decide (innerF (famOf l) (rd l k).toNat = 0)) && unionRow (famOf l) l (rd l k)) := rfl
       generalize rd l k = x at *
       have HUI := asd hUI
       clear hUI
       obtain ⟨x0, x1⟩ := hx
       by_cases hx0 : x = 0
       ·
        have bx1 : (x == 0) = true := by simpa using hx0
        have bx2 : (x != 0) = false := by simpa using hx0
        have HX0 := asd hx0
        clear hx0
        go_wp2
        go_loopw [85] (fun v85 w5 => ∃ i : Int, Aside0 (0 ≤ i ∧ i ≤ l.length) ∧ v85 = .int .i64 i ∧ Aside0 (allTo (fun y => (famOf l).getD (x.toNat ||| y.toNat) false) l i = true) ∧ Drawn0 wr w5) (fun v85 _ => l.length - (intOf v85).toNat)
        case atStart => exact ⟨0, ⟨by omega⟩, rfl, ⟨rfl⟩, by repeat (first | exact Drawn0.refl _ | apply Drawn0.step)⟩
        case round =>
         obtain ⟨i, hi, rfl, hz5, ⟨nd5, rfl⟩⟩ := hrel
         by_cases hlt5 : i < l.length
         ·
          have i0 := hi.out.1
          have HZ5 := asd (allTo_succ (fun y => (famOf l).getD (x.toNat ||| y.toNat) false) l i i0 hlt5)
          have HMEM5 := asd (rd_mem i0 hlt5)
          have HNOT5 : Aside0 ((famOf l).getD (x.toNat ||| (rd l i).toNat) false = false → isSpaceB n l = false) := ⟨fun h => HNOT.out (HUI.out.trans (by rw [show unionRow (famOf l) l x = false from all_not HMEM5.out h, Bool.and_false]))⟩
          have hy := HM.out _ HMEM5.out
          obtain ⟨ad5, e5, hcell5⟩ := Kd.at_int HRA.out i i0 hlt5
          cases e5
          have hbo := bits_or x.toNat (rd l i).toNat (by omega) (by omega)
          have hbl : x.toNat ||| (rd l i).toNat < 128 := Nat.or_lt_two_pow (n := 7) (by omega) (by omega)
          rw [show ((x.toNat : Nat) : Int) = x by omega, show (((rd l i).toNat : Nat) : Int) = rd l i by omega] at hbo
          generalize rd l i = y at *
          obtain ⟨z, hz⟩ : ∃ z : Int, z = ((x.toNat ||| y.toNat : Nat) : Int) := ⟨_, rfl⟩
          have z0 : 0 ≤ z := by omega
          have z1 : z < 128 := by omega
          have hzn : x.toNat ||| y.toNat = z.toNat := by omega
          rw [← hz] at hbo
          rw [hzn] at HZ5 HNOT5
          clear hz hzn hbl hy
          have hfc := HFr.out.at_ z z0 z1
          obtain ⟨v, hv⟩ : ∃ v, v = (famOf l).getD z.toNat false := ⟨_, rfl⟩
          rw [← hv] at hfc HZ5 HNOT5
          clear hv
          cases v
          ·
           have HB := asd (HNOT5.out rfl)
           go_wp2
           go_ret
           exact ⟨by rw [HB.out]; rfl, by repeat (first | exact HXr.out.bel | apply pw_below_drewN | apply below_drew1)⟩
          ·
           go_wp2
           go_roundw
           case rel => exact ⟨i + 1, ⟨by omega⟩, by first | rfl | go_num, ⟨by rw [HZ5.out, hz5.out]; rfl⟩, by repeat (first | exact Drawn0.refl _ | apply Drawn0.step)⟩
           case measure => simp [intOf]; omega
         ·
          have HROW : Aside0 (unionRow (famOf l) l x = true) := ⟨by have := hz5.out; rw [allTo_end _ _ _ (by have := hi.out; omega)] at this; exact this⟩
          have HDONE : Aside0 (unionItem (famOf l) l x = true) := ⟨HUI.out.trans (by rw [HROW.out]; simp [HX0.out])⟩
          clear hz5
          go_wp2
          go_roundw
          case rel => exact ⟨k + 1, ⟨by omega⟩, by first | rfl | go_num, ⟨by rw [HZ.out, hz.out, HDONE.out]; rfl⟩, ⟨by repeat (first | exact HBr.out | apply pw_below_drewN | apply below_drew1)⟩⟩
          case measure => simp [intOf]; omega
       ·
        have bx1 : (x == 0) = false := by simpa using hx0
        have bx2 : (x != 0) = true := by simpa using hx0
        by_cases hin : innerF (famOf l) x.toNat = 0
        ·
         have HB := asd (HNOT.out (HUI.out.trans (by simp [hx0, hin])))
         have bi : (((innerF (famOf l) x.toNat : Nat) : Int) == 0) = true := by simp [hin]
         clear hin hx0
         go_wp2_with (first | (go_at_call 104; (with_reducible refine (impl_family_inner.walk b (famOf l) x _ HFr.out x0 x1).mono ?_); rintro e W4 ⟨rfl, hb4⟩))
         go_ret
         exact ⟨by rw [HB.out]; rfl, by repeat (first | exact (HXr.out.next hb4).bel | apply pw_below_drewN | apply below_drew1)⟩
        ·
         have bi : (((innerF (famOf l) x.toNat : Nat) : Int) == 0) = false := by simpa using hin
         go_wp2_with (first | (go_at_call 104; (with_reducible refine (impl_family_inner.walk b (famOf l) x _ HFr.out x0 x1).mono ?_); rintro e W4 ⟨rfl, hb4⟩; have HB4 := asd hb4; clear hb4 q0 q1; have HX4 := asd (HXr.out.next HB4.out); have q0 := HX4.out.c0; have q1 := HX4.out.c1))
         have HR4 := asd (Kd.C_below HRA.out HB4.out)
         have HF4 := asd (HFr.out.below HB4.out)
         have HIN := asd hin
         clear hin hx0
         go_loopw [85] (fun v85 w5 => ∃ i : Int, Aside0 (0 ≤ i ∧ i ≤ l.length) ∧ v85 = .int .i64 i ∧ Aside0 (allTo (fun y => (famOf l).getD (x.toNat ||| y.toNat) false) l i = true) ∧ Drawn0 W4 w5) (fun v85 _ => l.length - (intOf v85).toNat)
         case atStart => exact ⟨0, ⟨by omega⟩, rfl, ⟨rfl⟩, by repeat (first | exact Drawn0.refl _ | apply Drawn0.step)⟩
         case round =>
          obtain ⟨i, hi, rfl, hz5, ⟨nd5, rfl⟩⟩ := hrel
          by_cases hlt5 : i < l.length
          ·
           have i0 := hi.out.1
           have HZ5 := asd (allTo_succ (fun y => (famOf l).getD (x.toNat ||| y.toNat) false) l i i0 hlt5)
           have HMEM5 := asd (rd_mem i0 hlt5)
           have HNOT5 : Aside0 ((famOf l).getD (x.toNat ||| (rd l i).toNat) false = false → isSpaceB n l = false) := ⟨fun h => HNOT.out (HUI.out.trans (by rw [show unionRow (famOf l) l x = false from all_not HMEM5.out h, Bool.and_false]))⟩
           have hy := HM.out _ HMEM5.out
           obtain ⟨ad5, e5, hcell5⟩ := Kd.at_int HR4.out i i0 hlt5
           cases e5
           have hbo := bits_or x.toNat (rd l i).toNat (by omega) (by omega)
           have hbl : x.toNat ||| (rd l i).toNat < 128 := Nat.or_lt_two_pow (n := 7) (by omega) (by omega)
           rw [show ((x.toNat : Nat) : Int) = x by omega, show (((rd l i).toNat : Nat) : Int) = rd l i by omega] at hbo
           generalize rd l i = y at *
           obtain ⟨z, hz⟩ : ∃ z : Int, z = ((x.toNat ||| y.toNat : Nat) : Int) := ⟨_, rfl⟩
           have z0 : 0 ≤ z := by omega
           have z1 : z < 128 := by omega
           have hzn : x.toNat ||| y.toNat = z.toNat := by omega
           rw [← hz] at hbo
           rw [hzn] at HZ5 HNOT5
           clear hz hzn hbl hy
           have hfc := HF4.out.at_ z z0 z1
           obtain ⟨v, hv⟩ : ∃ v, v = (famOf l).getD z.toNat false := ⟨_, rfl⟩
           rw [← hv] at hfc HZ5 HNOT5
           clear hv
           cases v
           ·
            have HB := asd (HNOT5.out rfl)
            go_wp2
            go_ret
            exact ⟨by rw [HB.out]; rfl, by repeat (first | exact HX4.out.bel | apply pw_below_drewN | apply below_drew1)⟩
           ·
            go_wp2
            go_roundw
            case rel => exact ⟨i + 1, ⟨by omega⟩, by first | rfl | go_num, ⟨by rw [HZ5.out, hz5.out]; rfl⟩, by repeat (first | exact Drawn0.refl _ | apply Drawn0.step)⟩
            case measure => simp [intOf]; omega
          ·
           have HROW : Aside0 (unionRow (famOf l) l x = true) := ⟨by have := hz5.out; rw [allTo_end _ _ _ (by have := hi.out; omega)] at this; exact this⟩
           have HDONE : Aside0 (unionItem (famOf l) l x = true) := ⟨HUI.out.trans (by rw [HROW.out]; simp [HIN.out])⟩
           clear hz5
           go_wp2
           go_roundw
           case rel =>
            ((repeat apply Exists.intro); exact ⟨⟨k + 1, ⟨by omega⟩, by first | rfl | go_num, ⟨by rw [HZ.out, hz.out, HDONE.out]; rfl⟩, ⟨by repeat (first | exact (below_step HBr.out HB4.out) | apply pw_below_drewN | apply below_drew1)⟩⟩, rfl, rfl, rfl, rfl⟩)
           case measure => simp [intOf]; omega
      ·
       have HB : Aside0 (isSpaceB n l = true) := ⟨by have := hz.out; rw [allTo_end _ _ _ (by have := hk.out; omega)] at this; exact HG.out.trans this⟩
       clear hz
       go_wp2
       go_ret
       exact ⟨by rw [HB.out]; rfl, by repeat (first | exact (HX3.out.next HBr.out).bel | apply pw_below_drewN | apply below_drew1)⟩

theorem impl_IsSpace.calls (a0_0 : Int) (A0_1 : Option Addr) (c0_1 : Nat) (l0_1 : List Int) (r : Bool) (w : World) (hr0_1 : Kd.C (Kd.int .i64) w A0_1 l0_1.length l0_1) (hc0_1 : l0_1.length ≤ c0_1) (h : impl_IsSpace.f a0_0 l0_1 = some r) :
  Calls Try.prog 47 #[.agg #[.int .i64 a0_0, .slice A0_1 l0_1.length c0_1]] w fun e w' => e = .returned (.bool r) ∧ Below w.heap.size w w' := by
 obtain rfl := Option.some.inj h
 by_cases hn : (decide (1 ≤ a0_0) && decide (a0_0 ≤ 7) && decide ((l0_1.length : Int) ≤ 2 ^ a0_0.toNat)) = true
 ·
  exact impl_IsSpace.main a0_0 A0_1 c0_1 l0_1 w hr0_1 hc0_1 hn
 ·
  have hn' : (decide (1 ≤ a0_0) && decide (a0_0 ≤ 7) && decide ((l0_1.length : Int) ≤ 2 ^ a0_0.toNat)) = false := by simpa using hn
  rw [show isSpaceB a0_0 l0_1 = false by unfold isSpaceB; rw [hn']; rfl]
  exact impl_IsSpace.early a0_0 A0_1 c0_1 l0_1 w hr0_1 hn'

-- HAND impl_Task_150: function 150
/-- A predicate's value, asked of the entries of a list. -/
def PredTask (g : Nat) (lb : Array Value) (p : S83 → Bool) (l : List S83) (w : World) : Prop :=
  ∀ (W : World) (x : S83), x ∈ l → Below w.heap.size w W → Calls Try.prog g (#[.agg #[.int .i64 x.f0, .int .i64 x.f1, .int .i64 x.f2]] ++ lb) W fun e w' => e = .returned (.bool (p x)) ∧ Below W.heap.size W w'
set_option maxHeartbeats 8000000 in
set_option maxRecDepth 100000 in
theorem slices_IndexFunc_Task.calls (g : Nat) (lb : Array Value) (eg : ∀ args w, (callFunc g args).run Try.prog w = .ok (.enter g args) w) (p : S83 → Bool) (A : Option Addr) (c : Nat) (l : List S83) (w : World) (hr : Kd.C k83 w A l.length l) (hc : l.length ≤ c) (hp : PredTask g lb p l w) :
    Calls Try.prog 150 #[.slice A l.length c, .func (.func g) #[] lb] w fun e w' => e = .returned (.int .i64 (idxG p l)) ∧ Below w.heap.size w w' := by
  have hu := Try.underlying83
  have HR := Aside0.mk hr
  have HC := Aside0.mk hc
  have HP := Aside0.mk hp
  have hm := Kd.C_max hr
  clear hr hc hp
  go_enter Try.func150, Try.ntmps150
  go_wp2
  go_loopw [8] (fun v8 wr => ∃ i : Int, Aside0 (0 ≤ i ∧ i ≤ l.length) ∧ v8 = .int .i64 i ∧ Aside0 (allG (fun x => !p x) l i = true) ∧ Aside0 (Below w.heap.size w wr)) (fun v8 _ => l.length - (intOf v8).toNat)
  case atStart => exact ⟨0, ⟨by omega⟩, rfl, ⟨rfl⟩, ⟨by repeat (first | exact Below.refl _ _ | apply pw_below_drewN | apply below_drew1)⟩⟩
  case round =>
    obtain ⟨i, hi, rfl, hz, HB⟩ := hrel
    by_cases hlt : i < l.length
    · have i0 := hi.out.1
      have HZ := Aside0.mk (allG_succ z83 (fun x => !p x) l i i0 hlt)
      have HMEM := Aside0.mk (getD_mem z83 i0 hlt)
      have HHIT : Aside0 (p (l.getD i.toNat z83) = true → idxG p l = i) := ⟨idxG_hit z83 i0 hlt hz.out⟩
      obtain ⟨ad, e, hc0, hc1, hc2⟩ := at_T83 (Kd.C_below HR.out HB.out) i i0 hlt
      cases e
      rw [show rd_T83 l i = l.getD i.toNat z83 from rfl] at hc0 hc1 hc2
      have HCALL := Aside0.mk (HP.out wr (l.getD i.toNat z83) HMEM.out HB.out)
      generalize l.getD i.toNat z83 = x at *
      cases hq : p x with
      | true =>
        have HYES := Aside0.mk (HHIT.out hq)
        rw [hq] at HCALL
        go_wp2_with (go_at_fn g; refine HCALL.out.mono ?_; rintro e w' ⟨rfl, hb'⟩; have HB' := Aside0.mk (below_step HB.out hb'); clear hb')
        go_ret
        exact ⟨by rw [HYES.out]; rfl, HB'.out⟩
      | false =>
        have HNO := Aside0.mk hq
        rw [hq] at HCALL
        clear hq
        go_wp2_with (go_at_fn g; refine HCALL.out.mono ?_; rintro e w' ⟨rfl, hb'⟩; have HB' := Aside0.mk (below_step HB.out hb'); clear hb')
        go_roundw
        case rel => exact ⟨i + 1, ⟨by omega⟩, by first | rfl | go_num, ⟨by rw [HZ.out, hz.out, HNO.out]; rfl⟩, ⟨by repeat (first | exact HB'.out | apply pw_below_drewN | apply below_drew1)⟩⟩
        case measure => simp [intOf]; omega
    · have HNO : Aside0 (idxG p l = -1) := ⟨by have := hz.out; rw [allG_end _ _ _ (by have := hi.out; omega)] at this; exact idxG_miss this⟩
      clear hz
      go_wp2
      go_ret
      exact ⟨by rw [HNO.out]; rfl, HB.out⟩

-- HAND impl_Task_132: function 132
set_option maxHeartbeats 8000000 in
set_option maxRecDepth 100000 in
theorem slices_ContainsFunc_Task.calls (g : Nat) (lb : Array Value) (eg : ∀ args w, (callFunc g args).run Try.prog w = .ok (.enter g args) w) (p : S83 → Bool) (A : Option Addr) (c : Nat) (l : List S83) (w : World) (hr : Kd.C k83 w A l.length l) (hc : l.length ≤ c) (hp : PredTask g lb p l w) :
    Calls Try.prog 132 #[.slice A l.length c, .func (.func g) #[] lb] w fun e w' => e = .returned (.bool (l.any p)) ∧ Below w.heap.size w w' := by
  have HI := Aside0.mk (slices_IndexFunc_Task.calls g lb eg p A c l w hr hc hp)
  have HA := Aside0.mk (idxG_any p l)
  clear hr hc hp
  go_enter Try.func132, Try.ntmps132
  go_wp2_with (go_at_call 150; refine HI.out.mono ?_; rintro e w' ⟨rfl, hb'⟩)
  go_ret
  exact ⟨by rw [← HA.out]; rfl, hb'⟩

/-! ### impl_AreTasks_1: function 133 -/
def impl_AreTasks_1.f (a0_0 : Int) (a0_1 : Int) (a0_2 : Int) : Option (Bool) := (impl_within.f a0_0 1 9).bind fun t102 => (if t102 = true then ((impl_within.f a0_1 0 9).bind fun t103 => (if t103 = true then ((impl_within.f a0_2 (-100) 100).bind fun t104 => (some (!t104))) else (some true))) else (some true))
set_option maxHeartbeats 8000000 in
set_option maxRecDepth 100000 in
theorem impl_AreTasks_1.calls (a0_0 : Int) (a0_1 : Int) (a0_2 : Int) (r : Bool) (w : World) (h : impl_AreTasks_1.f a0_0 a0_1 a0_2 = some r) :
  Calls Try.prog 133 #[.agg #[.int .i64 a0_0, .int .i64 a0_1, .int .i64 a0_2]] w fun e w' => e = .returned (.bool r) ∧ Below w.heap.size w w' := by
 have hu83 := Try.underlying83
 have HB := asd (Below.refl w.heap.size w)
 have H : ((impl_within.f a0_0 1 9).bind fun t102 => (if t102 = true then ((impl_within.f a0_1 0 9).bind fun t103 => (if t103 = true then ((impl_within.f a0_2 (-100) 100).bind fun t104 => (some (!t104))) else (some true))) else (some true))) = some r := h
 clear h
 replace H := Option.bind_eq_some_iff.mp H
 obtain ⟨t102, A20, H⟩ := H
 replace H : (if t102 = true then ((impl_within.f a0_1 0 9).bind fun t103 => (if t103 = true then ((impl_within.f a0_2 (-100) 100).bind fun t104 => (some (!t104))) else (some true))) else (some true)) = some r := H
 have A2 := asd A20
 clear A20
 by_cases c3 : t102 = true
 ·
  subst c3
  have H1 : ((impl_within.f a0_1 0 9).bind fun t103 => (if t103 = true then ((impl_within.f a0_2 (-100) 100).bind fun t104 => (some (!t104))) else (some true))) = some r := by rw [if_pos rfl] at H; exact H
  clear H
  have H := H1
  clear H1
  replace H := Option.bind_eq_some_iff.mp H
  obtain ⟨t103, A40, H⟩ := H
  replace H : (if t103 = true then ((impl_within.f a0_2 (-100) 100).bind fun t104 => (some (!t104))) else (some true)) = some r := H
  have A4 := asd A40
  clear A40
  by_cases c5 : t103 = true
  ·
   subst c5
   have H1 : ((impl_within.f a0_2 (-100) 100).bind fun t104 => (some (!t104))) = some r := by rw [if_pos rfl] at H; exact H
   clear H
   have H := H1
   clear H1
   replace H := Option.bind_eq_some_iff.mp H
   obtain ⟨t104, A60, H⟩ := H
   replace H : (some (!t104)) = some r := H
   have A6 := asd A60
   clear A60
   obtain rfl := Option.some.inj H
   go_enter Try.func133, Try.ntmps133
   go_wp2_with (first | ((with_reducible refine gate_dst (N := 1) rfl ?_); refine box_event ?hg (N := 1) ?hd (cs := #[.int .i64 a0_0, .int .i64 a0_1, .int .i64 a0_2]) (t := 83) ?hr ?_; (case hd => rfl); (case hg => rfl); (case hr => first | (go_simp; done) | (go_simp; rfl)); intro gb101 hg w7 hbox hb; have n0_ := asd (below_step (by repeat (first | (with_reducible first | exact HB.out | apply below_alloc | apply pw_below_drewN | apply below_drew1) | exact HB.out)) hb); have n1_ := asd (hbox); have n2_ := asd ((by rw [hg]; exact (below_size (by repeat (first | (with_reducible first | exact HB.out | apply below_alloc | apply pw_below_drewN | apply below_drew1) | exact HB.out))) : w.heap.size ≤ gb101)); have n3_ := asd ((by rw [hg]; exact (below_size (by repeat (first | (with_reducible first | exact HB.out | apply below_alloc | apply pw_below_drewN | apply below_drew1) | exact HB.out))) : w.heap.size ≤ gb101)); clear HB; have HB := n0_; have BK101 := n1_; have GW101 := n2_; have GE101 := n3_; clear n0_ n1_ n2_ n3_; clear hb hbox hg; have hcz8_0 : w7.cell? ⟨gb101, 0, none⟩ = some (.int .i64 a0_0) := (blk_cell BK101.out 0).trans rfl; have hcz8_1 : w7.cell? ⟨gb101, 1, none⟩ = some (.int .i64 a0_1) := (blk_cell BK101.out 1).trans rfl; have hcz8_2 : w7.cell? ⟨gb101, 2, none⟩ = some (.int .i64 a0_2) := (blk_cell BK101.out 2).trans rfl; have hfz8_0 := blk_frozen BK101.out 0; have hfz8_1 := blk_frozen BK101.out 1; have hfz8_2 := blk_frozen BK101.out 2) | ((with_reducible refine gate_callee (f := 61) rfl ?_); refine goesL_ (some 5) rfl rfl Try.func61 (by kernel_rfl) rfl #[.int .i64 a0_0, .int .i64 1, .int .i64 9] rfl (by (try simp only [List.map_toArray, List.map_cons, List.map_nil]); first | done | rfl | (simp only [List.length_drop, List.length_take]; rfl)) ?_; (with_reducible refine (impl_within.calls a0_0 1 9 true _ A2.out).mono ?_); rintro e w' ⟨rfl, ⟨nd, rfl⟩⟩; refine ⟨_, rfl, ?_⟩) | (go_at_call 61; (with_reducible refine (impl_within.calls a0_1 0 9 true _ A4.out).mono ?_); rintro e w' ⟨rfl, ⟨nd, rfl⟩⟩) | (go_at_call 61; (with_reducible refine (impl_within.calls a0_2 (-100) 100 t104 _ A6.out).mono ?_); rintro e w' ⟨rfl, ⟨nd, rfl⟩⟩))
   go_ret
   exact ⟨by first | rfl | (simp [errW_none, errW_some] <;> rfl) | (simp [*, errW_none, errW_some] <;> rfl), by repeat (first | (with_reducible first | exact HB.out | apply below_alloc | apply pw_below_drewN | apply below_drew1 | refine below_set ?_ GE101.out) | exact HB.out)⟩
  ·
   replace c5 := Bool.eq_false_iff.mpr c5
   subst c5
   have H1 : (some true) = some r := by rw [if_neg (show ¬ (false = true) by decide)] at H; exact H
   clear H
   have H := H1
   clear H1
   obtain rfl := Option.some.inj H
   go_enter Try.func133, Try.ntmps133
   go_wp2_with (first | ((with_reducible refine gate_dst (N := 1) rfl ?_); refine box_event ?hg (N := 1) ?hd (cs := #[.int .i64 a0_0, .int .i64 a0_1, .int .i64 a0_2]) (t := 83) ?hr ?_; (case hd => rfl); (case hg => rfl); (case hr => first | (go_simp; done) | (go_simp; rfl)); intro gb101 hg w9 hbox hb; have n0_ := asd (below_step (by repeat (first | (with_reducible first | exact HB.out | apply below_alloc | apply pw_below_drewN | apply below_drew1) | exact HB.out)) hb); have n1_ := asd (hbox); have n2_ := asd ((by rw [hg]; exact (below_size (by repeat (first | (with_reducible first | exact HB.out | apply below_alloc | apply pw_below_drewN | apply below_drew1) | exact HB.out))) : w.heap.size ≤ gb101)); have n3_ := asd ((by rw [hg]; exact (below_size (by repeat (first | (with_reducible first | exact HB.out | apply below_alloc | apply pw_below_drewN | apply below_drew1) | exact HB.out))) : w.heap.size ≤ gb101)); clear HB; have HB := n0_; have BK101 := n1_; have GW101 := n2_; have GE101 := n3_; clear n0_ n1_ n2_ n3_; clear hb hbox hg; have hcz10_0 : w9.cell? ⟨gb101, 0, none⟩ = some (.int .i64 a0_0) := (blk_cell BK101.out 0).trans rfl; have hcz10_1 : w9.cell? ⟨gb101, 1, none⟩ = some (.int .i64 a0_1) := (blk_cell BK101.out 1).trans rfl; have hcz10_2 : w9.cell? ⟨gb101, 2, none⟩ = some (.int .i64 a0_2) := (blk_cell BK101.out 2).trans rfl; have hfz10_0 := blk_frozen BK101.out 0; have hfz10_1 := blk_frozen BK101.out 1; have hfz10_2 := blk_frozen BK101.out 2) | ((with_reducible refine gate_callee (f := 61) rfl ?_); refine goesL_ (some 5) rfl rfl Try.func61 (by kernel_rfl) rfl #[.int .i64 a0_0, .int .i64 1, .int .i64 9] rfl (by (try simp only [List.map_toArray, List.map_cons, List.map_nil]); first | done | rfl | (simp only [List.length_drop, List.length_take]; rfl)) ?_; (with_reducible refine (impl_within.calls a0_0 1 9 true _ A2.out).mono ?_); rintro e w' ⟨rfl, ⟨nd, rfl⟩⟩; refine ⟨_, rfl, ?_⟩) | (go_at_call 61; (with_reducible refine (impl_within.calls a0_1 0 9 false _ A4.out).mono ?_); rintro e w' ⟨rfl, ⟨nd, rfl⟩⟩))
   go_ret
   exact ⟨by first | rfl | (simp [errW_none, errW_some] <;> rfl) | (simp [*, errW_none, errW_some] <;> rfl), by repeat (first | (with_reducible first | exact HB.out | apply below_alloc | apply pw_below_drewN | apply below_drew1 | refine below_set ?_ GE101.out) | exact HB.out)⟩
 ·
  replace c3 := Bool.eq_false_iff.mpr c3
  subst c3
  have H1 : (some true) = some r := by rw [if_neg (show ¬ (false = true) by decide)] at H; exact H
  clear H
  have H := H1
  clear H1
  obtain rfl := Option.some.inj H
  go_enter Try.func133, Try.ntmps133
  go_wp2_with (first | ((with_reducible refine gate_dst (N := 1) rfl ?_); refine box_event ?hg (N := 1) ?hd (cs := #[.int .i64 a0_0, .int .i64 a0_1, .int .i64 a0_2]) (t := 83) ?hr ?_; (case hd => rfl); (case hg => rfl); (case hr => first | (go_simp; done) | (go_simp; rfl)); intro gb101 hg w11 hbox hb; have n0_ := asd (below_step (by repeat (first | (with_reducible first | exact HB.out | apply below_alloc | apply pw_below_drewN | apply below_drew1) | exact HB.out)) hb); have n1_ := asd (hbox); have n2_ := asd ((by rw [hg]; exact (below_size (by repeat (first | (with_reducible first | exact HB.out | apply below_alloc | apply pw_below_drewN | apply below_drew1) | exact HB.out))) : w.heap.size ≤ gb101)); have n3_ := asd ((by rw [hg]; exact (below_size (by repeat (first | (with_reducible first | exact HB.out | apply below_alloc | apply pw_below_drewN | apply below_drew1) | exact HB.out))) : w.heap.size ≤ gb101)); clear HB; have HB := n0_; have BK101 := n1_; have GW101 := n2_; have GE101 := n3_; clear n0_ n1_ n2_ n3_; clear hb hbox hg; have hcz12_0 : w11.cell? ⟨gb101, 0, none⟩ = some (.int .i64 a0_0) := (blk_cell BK101.out 0).trans rfl; have hcz12_1 : w11.cell? ⟨gb101, 1, none⟩ = some (.int .i64 a0_1) := (blk_cell BK101.out 1).trans rfl; have hcz12_2 : w11.cell? ⟨gb101, 2, none⟩ = some (.int .i64 a0_2) := (blk_cell BK101.out 2).trans rfl; have hfz12_0 := blk_frozen BK101.out 0; have hfz12_1 := blk_frozen BK101.out 1; have hfz12_2 := blk_frozen BK101.out 2) | ((with_reducible refine gate_callee (f := 61) rfl ?_); refine goesL_ (some 5) rfl rfl Try.func61 (by kernel_rfl) rfl #[.int .i64 a0_0, .int .i64 1, .int .i64 9] rfl (by (try simp only [List.map_toArray, List.map_cons, List.map_nil]); first | done | rfl | (simp only [List.length_drop, List.length_take]; rfl)) ?_; (with_reducible refine (impl_within.calls a0_0 1 9 false _ A2.out).mono ?_); rintro e w' ⟨rfl, ⟨nd, rfl⟩⟩; refine ⟨_, rfl, ?_⟩))
  go_ret
  exact ⟨by first | rfl | (simp [errW_none, errW_some] <;> rfl) | (simp [*, errW_none, errW_some] <;> rfl), by repeat (first | (with_reducible first | exact HB.out | apply below_alloc | apply pw_below_drewN | apply below_drew1 | refine below_set ?_ GE101.out) | exact HB.out)⟩

-- HAND with impl.AreTasks$1
def taskOk (t r b : Int) : Bool := (decide (1 ≤ t) && decide (t ≤ 9)) && (decide (0 ≤ r) && decide (r ≤ 9)) && (decide (-100 ≤ b) && decide (b ≤ 100))
theorem taskBad_ok (t r b : Int) : impl_AreTasks_1.f t r b = some (!taskOk t r b) := by
  unfold impl_AreTasks_1.f taskOk
  simp only [within_ok, Option.bind_some]
  cases (decide (1 ≤ t) && decide (t ≤ 9)) <;> cases (decide (0 ≤ r) && decide (r ≤ 9)) <;> cases (decide (-100 ≤ b) && decide (b ≤ 100)) <;> rfl

-- HAND impl_AreTasks: function 117
/-- Are these tasks for n items? -/
def areTasksB (l : List S83) (n : Int) : Bool := (decide (1 ≤ n) && decide (n ≤ 7)) && decide ((l.length : Int) = n) && !l.any (fun x => !taskOk x.f0 x.f1 x.f2)
def impl_AreTasks.f (l0 : List S83) (a1 : Int) : Option (Bool) := some (areTasksB l0 a1)
set_option maxHeartbeats 8000000 in
set_option maxRecDepth 100000 in
theorem impl_AreTasks.calls (A : Option Addr) (c : Nat) (l : List S83) (n : Int) (r : Bool) (w : World) (hr : Kd.C k83 w A l.length l) (hc : l.length ≤ c) (h : impl_AreTasks.f l n = some r) :
    Calls Try.prog 117 #[.slice A l.length c, .int .i64 n] w fun e w' => e = .returned (.bool r) ∧ Below w.heap.size w w' := by
  have HE := Aside0.mk (show r = areTasksB l n from (Option.some.inj h).symm)
  have HR := Aside0.mk hr
  have HC := Aside0.mk hc
  have HS := Aside0.mk (isSize_ok n)
  clear h hr hc
  unfold areTasksB at HE
  cases h1 : (decide (1 ≤ n) && decide (n ≤ 7)) with
  | false =>
    rw [h1] at HS HE
    obtain rfl : r = false := HE.out.trans (by simp)
    clear HE h1
    go_enter Try.func117, Try.ntmps117
    go_wp2_with (first | (go_at_call 100; (with_reducible refine (impl_isSize.calls _ _ _ HS.out).mono ?_); rintro e w' ⟨rfl, ⟨nd, rfl⟩⟩; (try first | exact ⟨rfl, _, World.drewN_drewN _ _ _⟩ | exact ⟨rfl, _, Eq.trans (World.drewN_drewN _ _ _) (congrArg (World.drewN _) (Nat.add_assoc _ _ _))⟩)))
    go_ret
    exact ⟨rfl, by repeat (first | exact Below.refl _ _ | apply pw_below_drewN | apply below_drew1)⟩
  | true =>
    rw [h1, Bool.true_and] at HE
    rw [h1] at HS
    clear h1
    by_cases h2 : (l.length : Int) = n
    · have HQ : Aside0 (r = !l.any (fun x => !taskOk x.f0 x.f1 x.f2)) := ⟨HE.out.trans (by rw [decide_eq_true h2, Bool.true_and])⟩
      have b1 : ((l.length : Int) == n) = true := by simpa using h2
      clear HE h2
      have HEG : Aside0 (∀ args w, (callFunc 133 args).run Try.prog w = .ok (.enter 133 args) w) := ⟨enters_of Try.func133 (by kernel_rfl) rfl⟩
      have HCL : Aside0 (∀ W0 : World, PredTask 133 #[] (fun x => !taskOk x.f0 x.f1 x.f2) l W0) := ⟨fun W0 W x hx hb => (impl_AreTasks_1.calls x.f0 x.f1 x.f2 _ W (taskBad_ok _ _ _))⟩
      go_enter Try.func117, Try.ntmps117
      go_wp2_with (first | (go_at_call 100; (with_reducible refine (impl_isSize.calls _ _ _ HS.out).mono ?_); rintro e w' ⟨rfl, ⟨nd, rfl⟩⟩; (try first | exact ⟨rfl, _, World.drewN_drewN _ _ _⟩ | exact ⟨rfl, _, Eq.trans (World.drewN_drewN _ _ _) (congrArg (World.drewN _) (Nat.add_assoc _ _ _))⟩)) | (go_at_call 132; (with_reducible refine (slices_ContainsFunc_Task.calls 133 #[] HEG.out (fun x => !taskOk x.f0 x.f1 x.f2) _ _ l _ ?ca HC.out (HCL.out _)).mono ?_); (case ca => repeat (first | exact HR.out | (with_reducible refine Kd.C_drewN ?_ _) | (with_reducible refine Kd.C_drew ?_))); rintro e W5 ⟨rfl, hb5⟩))
      go_ret
      exact ⟨by rw [HQ.out]; rfl, by first | exact hb5 | exact below_since hb5 | exact below_since1 hb5⟩
    · obtain rfl : r = false := HE.out.trans (by rw [decide_eq_false h2]; rfl)
      have b1 : ((l.length : Int) == n) = false := by simpa using h2
      clear HE h2
      go_enter Try.func117, Try.ntmps117
      go_wp2_with (first | (go_at_call 100; (with_reducible refine (impl_isSize.calls _ _ _ HS.out).mono ?_); rintro e w' ⟨rfl, ⟨nd, rfl⟩⟩; (try first | exact ⟨rfl, _, World.drewN_drewN _ _ _⟩ | exact ⟨rfl, _, Eq.trans (World.drewN_drewN _ _ _) (congrArg (World.drewN _) (Nat.add_assoc _ _ _))⟩)))
      go_ret
      exact ⟨rfl, by repeat (first | exact Below.refl _ _ | apply pw_below_drewN | apply below_drew1)⟩

-- HAND with spec.grTasks+impl.AreTasks
theorem areTasksB_all (l : List S83) (n : Int) : areTasksB l n = ((decide (1 ≤ n) && decide (n ≤ 7)) && decide ((l.length : Int) = n) && l.all (fun x => taskOk x.f0 x.f1 x.f2)) := by
  unfold areTasksB
  congr 1
  induction l with
  | nil => rfl
  | cons x l ih => simp only [List.any_cons, List.all_cons, Bool.not_or, Bool.not_not, ih]
theorem grTasks_loop (l : List S83) (hlen : l.length < 9223372036854775807) : ∀ (d i : Nat), l.length - i = d → i ≤ l.length → allG (fun x => taskOk x.f0 x.f1 x.f2) l i = true → Ev (fun k => spec_grTasks.l0 k l l.length i) (l.all (fun x => taskOk x.f0 x.f1 x.f2)) := by
  intro d
  induction d with
  | zero =>
    intro i hd hi hz
    obtain rfl : i = l.length := by omega
    rw [allG_end _ _ _ rfl] at hz
    exact Ev.succ (fun k => by simp only [spec_grTasks.l0]; rw [if_neg (by omega)]) (Ev.const (congrArg some hz.symm))
  | succ d ih =>
    intro i hd hi hz
    have hil : i < l.length := by omega
    have hmem := getD_mem z83 (l := l) (i := (i : Int)) (by omega) (by omega)
    have hs := allG_succ z83 (fun x => taskOk x.f0 x.f1 x.f2) l i (by omega) (by omega)
    have hno : taskOk (rd_T83 l i).f0 (rd_T83 l i).f1 (rd_T83 l i).f2 = false → false = l.all (fun x => taskOk x.f0 x.f1 x.f2) := fun h => (allG_not (P := fun x => taskOk x.f0 x.f1 x.f2) hmem h).symm
    have hyes : taskOk (rd_T83 l i).f0 (rd_T83 l i).f1 (rd_T83 l i).f2 = true → Ev (fun k => spec_grTasks.l0 k l l.length (wrap64 ((i : Int) + 1))) (l.all (fun x => taskOk x.f0 x.f1 x.f2)) := fun h => by
      have := ih (i + 1) (by omega) (by omega) (by push_cast; rw [hs, hz]; exact h)
      push_cast at this
      rw [wrap_succ (by omega) (by omega)]
      exact this
    unfold taskOk at hno hyes
    refine Ev.succ (fun k => by simp only [spec_grTasks.l0]; rw [if_pos (by omega), if_pos (by omega), if_pos (by omega)]) ?_
    refine Ev.bindc (l1In_ok _ _ _) ?_
    cases h1 : (decide (1 ≤ (rd_T83 l (i : Int)).f0) && decide ((rd_T83 l (i : Int)).f0 ≤ 9)) with
    | false => exact Ev.to (fun k => by rw [if_neg (by decide)]) (Ev.const (congrArg some (hno (by rw [h1]; rfl))))
    | true =>
      refine Ev.to (fun k => by rw [if_pos rfl]) ?_
      refine Ev.bindc (l1In_ok _ _ _) ?_
      cases h2 : (decide (0 ≤ (rd_T83 l (i : Int)).f1) && decide ((rd_T83 l (i : Int)).f1 ≤ 9)) with
      | false => exact Ev.to (fun k => by rw [if_neg (by decide)]) (Ev.const (congrArg some (hno (by rw [h1, h2]; rfl))))
      | true =>
        refine Ev.to (fun k => by rw [if_pos rfl]) ?_
        refine Ev.bindc (l1In_ok _ _ _) ?_
        cases h3 : (decide (-100 ≤ (rd_T83 l (i : Int)).f2) && decide ((rd_T83 l (i : Int)).f2 ≤ 100)) with
        | false => exact Ev.to (fun k => by rw [if_neg (by decide)]) (Ev.const (congrArg some (hno (by rw [h1, h2, h3]; rfl))))
        | true => exact Ev.to (fun k => by rw [if_pos rfl]) (hyes (by rw [h1, h2, h3]; rfl))
theorem grTasks_ok (l : List S83) (n : Int) (hlen : l.length < 9223372036854775807) : Ev (fun k => spec_grTasks.f k l n) (areTasksB l n) := by
  rw [areTasksB_all]
  have hj : Ev (fun k => spec_grTasks.j0 k l true) false := Ev.succ (fun k => by simp only [spec_grTasks.j0]; rw [if_pos trivial]) (Ev.const rfl)
  unfold spec_grTasks.f
  refine Ev.bindc (spItems_ok _) ?_
  cases h1 : (decide (1 ≤ n) && decide (n ≤ 7)) with
  | false => exact Ev.val (Ev.to (fun k => by rw [if_neg (by decide)]) hj) (by simp)
  | true =>
    refine Ev.to (fun k => by rw [if_pos rfl]) ?_
    by_cases h2 : (l.length : Int) = n
    · rw [decide_eq_true h2, show ((l.length : Int) != n) = false by simpa using h2]
      refine Ev.succ (fun k => by simp only [spec_grTasks.j0]; rw [if_neg (by decide)]) ?_
      exact Ev.val (grTasks_loop l hlen l.length 0 (by omega) (by omega) rfl) (by simp)
    · rw [decide_eq_false h2, show ((l.length : Int) != n) = true by simpa using h2]
      exact Ev.val hj (by simp)

-- HAND with spec.grGiven+impl.AreTasks+spec.grTasks
theorem grGiven_ok (n : Int) (l : List Int) (t : List S83) (hlen : l.length < 4611686018427387904) (ht : t.length < 9223372036854775807) : Ev (fun k => spec_grGiven.f k n l t) (isSpaceB n l && areTasksB t n) := by
  unfold spec_grGiven.f
  refine Ev.bind (spGood_ok n l hlen) ?_
  cases isSpaceB n l with
  | false =>
    refine Ev.to (fun k => by rw [if_neg (by decide)]) ?_
    exact Ev.const rfl
  | true =>
    refine Ev.to (fun k => by rw [if_pos rfl]) ?_
    exact Ev.bind (grTasks_ok t n ht) (Ev.const rfl)

/-! ### impl_together: function 71 -/
def impl_together.f (a0_0 : Int) (l0_1 : List Int) (l1 : List (S83)) : Option (Bool) := (impl_IsSpace.f a0_0 l0_1).bind fun t102 => (if t102 = true then ((impl_AreTasks.f l1 a0_0).bind fun t103 => (some t103)) else (some false))
set_option maxHeartbeats 8000000 in
set_option maxRecDepth 100000 in
theorem impl_together.calls (a0_0 : Int) (A0_1 : Option Addr) (c0_1 : Nat) (l0_1 : List Int) (A1 : Option Addr) (c1 : Nat) (l1 : List (S83)) (r : Bool) (w : World) (hr0_1 : Kd.C (Kd.int .i64) w A0_1 l0_1.length l0_1) (hc0_1 : l0_1.length ≤ c0_1) (hr1 : Kd.C k83 w A1 l1.length l1) (hc1 : l1.length ≤ c1) (h : impl_together.f a0_0 l0_1 l1 = some r) :
  Calls Try.prog 71 #[.agg #[.int .i64 a0_0, .slice A0_1 l0_1.length c0_1], .slice A1 l1.length c1] w fun e w' => e = .returned (.bool r) ∧ Below w.heap.size w w' := by
 have hu28 := Try.underlying28
 have HR0_1 := asd hr0_1
 have HC0_1 := asd hc0_1
 clear hr0_1 hc0_1
 have HR1 := asd hr1
 have HC1 := asd hc1
 clear hr1 hc1
 have HB := asd (Below.refl w.heap.size w)
 have H : ((impl_IsSpace.f a0_0 l0_1).bind fun t102 => (if t102 = true then ((impl_AreTasks.f l1 a0_0).bind fun t103 => (some t103)) else (some false))) = some r := h
 clear h
 replace H := Option.bind_eq_some_iff.mp H
 obtain ⟨t102, A30, H⟩ := H
 replace H : (if t102 = true then ((impl_AreTasks.f l1 a0_0).bind fun t103 => (some t103)) else (some false)) = some r := H
 have A3 := asd A30
 clear A30
 by_cases c4 : t102 = true
 ·
  subst c4
  have H1 : ((impl_AreTasks.f l1 a0_0).bind fun t103 => (some t103)) = some r := by rw [if_pos rfl] at H; exact H
  clear H
  have H := H1
  clear H1
  replace H := Option.bind_eq_some_iff.mp H
  obtain ⟨t103, A50, H⟩ := H
  replace H : (some t103) = some r := H
  have A5 := asd A50
  clear A50
  obtain rfl := Option.some.inj H
  go_enter Try.func71, Try.ntmps71
  go_wp2_with (first | ((with_reducible refine gate_dst (N := 2) rfl ?_); refine box_event ?hg (N := 2) ?hd (cs := #[.int .i64 a0_0, .slice A0_1 l0_1.length c0_1]) (t := 28) ?hr ?_; (case hd => rfl); (case hg => rfl); (case hr => first | (go_simp; done) | (go_simp; rfl)); intro gb101 hg w6 hbox hb; have n0_ := asd (below_step (by repeat (first | (with_reducible first | exact HB.out | apply below_alloc | apply pw_below_drewN | apply below_drew1) | exact HB.out)) hb); have n1_ := asd (hbox); have n2_ := asd ((by rw [hg]; exact (below_size (by repeat (first | (with_reducible first | exact HB.out | apply below_alloc | apply pw_below_drewN | apply below_drew1) | exact HB.out))) : w.heap.size ≤ gb101)); have n3_ := asd ((by rw [hg]; exact (below_size (by repeat (first | (with_reducible first | exact HB.out | apply below_alloc | apply pw_below_drewN | apply below_drew1) | exact HB.out))) : w.heap.size ≤ gb101)); clear HB; have HB := n0_; have BK101 := n1_; have GW101 := n2_; have GE101 := n3_; clear n0_ n1_ n2_ n3_; clear hb hbox hg; have hcz7_0 : w6.cell? ⟨gb101, 0, none⟩ = some (.int .i64 a0_0) := (blk_cell BK101.out 0).trans rfl; have hcz7_1 : w6.cell? ⟨gb101, 1, none⟩ = some (.slice A0_1 l0_1.length c0_1) := (blk_cell BK101.out 1).trans rfl; have hfz7_0 := blk_frozen BK101.out 0; have hfz7_1 := blk_frozen BK101.out 1) | ((with_reducible refine gate_callee (f := 47) rfl ?_); refine goesL_ (some 6) rfl rfl Try.func47 (by kernel_rfl) rfl #[.agg #[.int .i64 a0_0, .slice A0_1 l0_1.length c0_1]] rfl (by (try simp only [List.map_toArray, List.map_cons, List.map_nil]); first | done | rfl | (simp only [List.length_drop, List.length_take]; rfl)) ?_; (with_reducible refine (impl_IsSpace.calls a0_0 _ _ l0_1 true _ ?side1 ?side2 A3.out).mono ?_); (case side1 => repeat (first | exact (Kd.C_below HR0_1.out HB.out) | (with_reducible refine Kd.C_alloc ?_ _) | (with_reducible refine Kd.C_drewN ?_ _) | (with_reducible refine Kd.C_drew ?_))); (case side2 => exact HC0_1.out); rintro e w8 ⟨rfl, hb⟩; refine ⟨_, rfl, ?_⟩; have n0_ := asd (blk_below (upB BK101.out) hb); have n1_ := asd (below_step (by repeat (first | (with_reducible first | exact HB.out | apply below_alloc | apply pw_below_drewN | apply below_drew1 | refine below_set ?_ GE101.out) | exact HB.out)) hb); clear BK101; clear HB; have BK101 := n0_; have HB := n1_; clear n0_ n1_; (try clear hb); (try clear hb2); (try clear hk); (try clear hi); have hcz9_0 : w8.cell? ⟨gb101, 0, none⟩ = some (.int .i64 a0_0) := (blk_cell BK101.out 0).trans rfl; have hcz9_1 : w8.cell? ⟨gb101, 1, none⟩ = some (.slice A0_1 l0_1.length c0_1) := (blk_cell BK101.out 1).trans rfl; have hfz9_0 := blk_frozen BK101.out 0; have hfz9_1 := blk_frozen BK101.out 1) | (go_at_call 117; (with_reducible refine (impl_AreTasks.calls _ _ l1 a0_0 t103 _ ?side1 ?side2 A5.out).mono ?_); (case side1 => repeat (first | exact (Kd.C_below HR1.out HB.out) | (with_reducible refine Kd.C_alloc ?_ _) | (with_reducible refine Kd.C_drewN ?_ _) | (with_reducible refine Kd.C_drew ?_))); (case side2 => exact HC1.out); rintro e w10 ⟨rfl, hb⟩; have n0_ := asd (blk_below (upB BK101.out) hb); have n1_ := asd (below_step (by repeat (first | (with_reducible first | exact HB.out | apply below_alloc | apply pw_below_drewN | apply below_drew1 | refine below_set ?_ GE101.out) | exact HB.out)) hb); clear BK101; clear HB; have BK101 := n0_; have HB := n1_; clear n0_ n1_; (try clear hb); (try clear hb2); (try clear hk); (try clear hi)))
  go_ret
  exact ⟨by first | rfl | (simp [errW_none, errW_some] <;> rfl) | (simp [*, errW_none, errW_some] <;> rfl), by repeat (first | (with_reducible first | exact HB.out | apply below_alloc | apply pw_below_drewN | apply below_drew1 | refine below_set ?_ GE101.out) | exact HB.out)⟩
 ·
  replace c4 := Bool.eq_false_iff.mpr c4
  subst c4
  have H1 : (some false) = some r := by rw [if_neg (show ¬ (false = true) by decide)] at H; exact H
  clear H
  have H := H1
  clear H1
  obtain rfl := Option.some.inj H
  go_enter Try.func71, Try.ntmps71
  go_wp2_with (first | ((with_reducible refine gate_dst (N := 2) rfl ?_); refine box_event ?hg (N := 2) ?hd (cs := #[.int .i64 a0_0, .slice A0_1 l0_1.length c0_1]) (t := 28) ?hr ?_; (case hd => rfl); (case hg => rfl); (case hr => first | (go_simp; done) | (go_simp; rfl)); intro gb101 hg w11 hbox hb; have n0_ := asd (below_step (by repeat (first | (with_reducible first | exact HB.out | apply below_alloc | apply pw_below_drewN | apply below_drew1) | exact HB.out)) hb); have n1_ := asd (hbox); have n2_ := asd ((by rw [hg]; exact (below_size (by repeat (first | (with_reducible first | exact HB.out | apply below_alloc | apply pw_below_drewN | apply below_drew1) | exact HB.out))) : w.heap.size ≤ gb101)); have n3_ := asd ((by rw [hg]; exact (below_size (by repeat (first | (with_reducible first | exact HB.out | apply below_alloc | apply pw_below_drewN | apply below_drew1) | exact HB.out))) : w.heap.size ≤ gb101)); clear HB; have HB := n0_; have BK101 := n1_; have GW101 := n2_; have GE101 := n3_; clear n0_ n1_ n2_ n3_; clear hb hbox hg; have hcz12_0 : w11.cell? ⟨gb101, 0, none⟩ = some (.int .i64 a0_0) := (blk_cell BK101.out 0).trans rfl; have hcz12_1 : w11.cell? ⟨gb101, 1, none⟩ = some (.slice A0_1 l0_1.length c0_1) := (blk_cell BK101.out 1).trans rfl; have hfz12_0 := blk_frozen BK101.out 0; have hfz12_1 := blk_frozen BK101.out 1) | ((with_reducible refine gate_callee (f := 47) rfl ?_); refine goesL_ (some 6) rfl rfl Try.func47 (by kernel_rfl) rfl #[.agg #[.int .i64 a0_0, .slice A0_1 l0_1.length c0_1]] rfl (by (try simp only [List.map_toArray, List.map_cons, List.map_nil]); first | done | rfl | (simp only [List.length_drop, List.length_take]; rfl)) ?_; (with_reducible refine (impl_IsSpace.calls a0_0 _ _ l0_1 false _ ?side1 ?side2 A3.out).mono ?_); (case side1 => repeat (first | exact (Kd.C_below HR0_1.out HB.out) | (with_reducible refine Kd.C_alloc ?_ _) | (with_reducible refine Kd.C_drewN ?_ _) | (with_reducible refine Kd.C_drew ?_))); (case side2 => exact HC0_1.out); rintro e w13 ⟨rfl, hb⟩; refine ⟨_, rfl, ?_⟩; have n0_ := asd (blk_below (upB BK101.out) hb); have n1_ := asd (below_step (by repeat (first | (with_reducible first | exact HB.out | apply below_alloc | apply pw_below_drewN | apply below_drew1 | refine below_set ?_ GE101.out) | exact HB.out)) hb); clear BK101; clear HB; have BK101 := n0_; have HB := n1_; clear n0_ n1_; (try clear hb); (try clear hb2); (try clear hk); (try clear hi)))
  go_ret
  exact ⟨by first | rfl | (simp [errW_none, errW_some] <;> rfl) | (simp [*, errW_none, errW_some] <;> rfl), by repeat (first | (with_reducible first | exact HB.out | apply below_alloc | apply pw_below_drewN | apply below_drew1 | refine below_set ?_ GE101.out) | exact HB.out)⟩

-- HAND with impl.together
theorem together_ok (n : Int) (l : List Int) (t : List S83) : impl_together.f n l t = some (isSpaceB n l && areTasksB t n) := by
  unfold impl_together.f
  rw [show impl_IsSpace.f n l = some (isSpaceB n l) from rfl]
  show (if isSpaceB n l = true then _ else _) = _
  cases isSpaceB n l with
  | false => rw [if_neg (by decide)]; rfl
  | true => rw [if_pos rfl, show impl_AreTasks.f t n = some (areTasksB t n) from rfl]; rfl

/-! ### impl_cost: function 118 -/
def impl_cost.l0 : Nat → List (S83) → Int → Int → Int → List (S83) → Int → Int → Option (Int)
 | 0, _, _, _, _, _, _, _ => none
 | k + 1, x0, x1, x2, x7, x10, x11, x12 => if x12 < x11 then (if 0 ≤ x12 then (if x12 < (x10.length : Int) then (if (Go.bits .and .i64 (shr .i64 x1 x12) 1) = 0 then (impl_cost.l0 k x0 x1 x2 (wrap64 (x7 + ((rd_T83 x10 x12).f0))) x10 x11 (wrap64 (x12 + 1))) else (impl_cost.l0 k x0 x1 x2 x7 x10 x11 (wrap64 (x12 + 1)))) else (none)) else (none)) else (if 0 ≤ x2 then (if x2 < (x0.length : Int) then (some (wrap64 ((wrap64 (((rd_T83 x0 x2).f1) * x7)) + ((rd_T83 x0 x2).f2)))) else (none)) else (none))
def impl_cost.f (k : Nat) (l0 : List (S83)) (a1 : Int) (a2 : Int) : Option (Int) := impl_cost.l0 k l0 a1 a2 0 l0 (l0.length : Int) 0
theorem impl_cost.mono_l : ∀ k, (∀ y0 y1 y2 y3 y4 y5 y6, LeO (impl_cost.l0 k y0 y1 y2 y3 y4 y5 y6) (impl_cost.l0 (k + 1) y0 y1 y2 y3 y4 y5 y6))
 | 0 => fun _ _ _ _ _ _ _ r h => by simp [impl_cost.l0] at h
 | k + 1 => by
  have ih0 := impl_cost.mono_l k
  ·
   intro y0 y1 y2 y3 y4 y5 y6
   unfold impl_cost.l0
   repeat' first
   | (with_reducible exact ih0 _ _ _ _ _ _ _)
   | (with_reducible exact LeO.refl _)
   | (with_reducible exact LeO.none _)
   | (with_reducible refine LeO.ite ?_ ?_)
   | (with_reducible refine LeO.bind ?_ (fun _ => ?_))
   | exact ih0 _ _ _ _ _ _ _
   | exact LeO.none _
   | refine LeO.ite ?_ ?_
   | refine LeO.bind ?_ (fun _ => ?_)
theorem impl_cost.mono : ∀ a0 a1 a2 k, LeO (impl_cost.f k a0 a1 a2) (impl_cost.f (k + 1) a0 a1 a2) := by
 intro a0 a1 a2 k
 have ih0 := impl_cost.mono_l k
 unfold impl_cost.f
 repeat' first
   | (with_reducible exact ih0 _ _ _ _ _ _ _)
   | (with_reducible exact LeO.refl _)
   | (with_reducible exact LeO.none _)
   | (with_reducible refine LeO.ite ?_ ?_)
   | (with_reducible refine LeO.bind ?_ (fun _ => ?_))
   | exact ih0 _ _ _ _ _ _ _
   | exact LeO.none _
   | refine LeO.ite ?_ ?_
   | refine LeO.bind ?_ (fun _ => ?_)
set_option maxHeartbeats 8000000 in
set_option maxRecDepth 100000 in
theorem impl_cost.calls (k : Nat) (A0 : Option Addr) (c0 : Nat) (l0 : List (S83)) (a1 : Int) (a2 : Int) (r : Int) (w : World) (hr0 : Kd.C k83 w A0 l0.length l0) (hc0 : l0.length ≤ c0) (h : impl_cost.f k l0 a1 a2 = some r) :
  Calls Try.prog 118 #[.slice A0 l0.length c0, .int .i64 a1, .int .i64 a2] w fun e w' => e = .returned (.int .i64 r) ∧ Below w.heap.size w w' := by
 have hu83 := Try.underlying83
 have HR0 := asd hr0
 have HC0 := asd hc0
 clear hr0 hc0
 have HB := asd (Below.refl w.heap.size w)
 have H : (impl_cost.l0 k l0 a1 a2 0 l0 (l0.length : Int) 0) = some r := h
 clear h
 have H' := asd H
 clear H
 go_enter Try.func118, Try.ntmps118
 go_wp2
 repeat (go_quiet (fail); try go_wp2)
 go_loopg [7, 12] k (fun kq v7 v12 w' => ∃ (x7_1 : Int) (x12_1 : Int), v7 = .int .i64 x7_1 ∧ v12 = .int .i64 x12_1 ∧ Aside0 (impl_cost.l0 kq l0 a1 a2 x7_1 l0 (l0.length : Int) x12_1 = some r) ∧ Aside0 (kq ≤ k) ∧ Aside0 (Below w.heap.size w w'))
 case atStart => exact ⟨(0), (0), (by first | rfl | (simp; done) | (simp [*]; done)), (by first | rfl | (simp; done) | (simp [*]; done)), H', ⟨Nat.le_refl _⟩, ⟨by repeat (first | (with_reducible first | exact HB.out | apply below_alloc | apply pw_below_drewN | apply below_drew1) | exact HB.out)⟩⟩
 case round =>
  clear H'
  try clear c1
  try clear p2
  skip
  obtain ⟨x7_1, x12_1, rfl, rfl, HA, HK1, HB⟩ := hrel
  cases gk with
  | zero => exact absurd HA.out (by simp [impl_cost.l0])
  | succ k1 =>
   have H := HA.out
   clear HA
   simp only [impl_cost.l0] at H
   by_cases c4 : x12_1 < (l0.length : Int)
   ·
    rw [if_pos c4] at H
    have c4b0 : decide (x12_1 < (l0.length : Int)) = true := decide_eq_true c4
    clear c4
    by_cases c5 : 0 ≤ x12_1
    ·
     rw [if_pos c5] at H
     have c5b0 : decide (0 ≤ x12_1) = true := decide_eq_true c5
     clear c5
     by_cases c6 : x12_1 < (l0.length : Int)
     ·
      rw [if_pos c6] at H
      have c6b0 : decide (x12_1 < (l0.length : Int)) = true := decide_eq_true c6
      clear c6
      have c7b0 := eq_true (of_decide_eq_true (by first | (with_reducible assumption) | assumption) : 0 ≤ x12_1)
      obtain ⟨ji8, hji8⟩ : ∃ j_ : Int, (shr .i64 a1 x12_1) = j_ := ⟨_, rfl⟩
      replace H : (if (Go.bits .and .i64 (ji8) 1) = 0 then (impl_cost.l0 k1 l0 a1 a2 (wrap64 (x7_1 + ((rd_T83 l0 x12_1).f0))) l0 (l0.length : Int) (wrap64 (x12_1 + 1))) else (impl_cost.l0 k1 l0 a1 a2 x7_1 l0 (l0.length : Int) (wrap64 (x12_1 + 1)))) = some r := by first | (rw [hji8] at H; exact H) | (simp only [hji8] at H ⊢; exact H)
      have hji8_ : (a1 / 2 ^ min x12_1.toNat 64) = ji8 := hji8
      have hji8z : x12_1 ≤ 64 → (a1 / 2 ^ x12_1.toNat) = ji8 := shr_small hji8
      by_cases c9 : (Go.bits .and .i64 (ji8) 1) = 0
      ·
       rw [if_pos c9] at H
       have c9b0 : ((Go.bits .and .i64 (ji8) 1) == 0) = true := beq_iff_eq.mpr c9
       have c9b1 : ((Go.bits .and .i64 (ji8) 1) != 0) = false := bne_eq_false_iff_eq.mpr c9
       clear c9
       have H' := asd H
       clear H
       have p101 : 0 ≤ (x12_1 : Int) := of_decide_eq_true (by first | (with_reducible assumption) | assumption)
       have q101 : x12_1 < (l0.length : Int) := of_decide_eq_true (by first | (with_reducible assumption) | assumption)
       obtain ⟨ad101, e101, hx101_0, hx101_1, hx101_2⟩ := at_T83 HR0.out x12_1 p101 q101
       cases e101
       replace hx101_0 := (HB.out.cell (World.block_lt_of_cell? w _ hx101_0)).trans hx101_0
       replace hx101_1 := (HB.out.cell (World.block_lt_of_cell? w _ hx101_1)).trans hx101_1
       replace hx101_2 := (HB.out.cell (World.block_lt_of_cell? w _ hx101_2)).trans hx101_2
       replace p101 := eq_true p101
       replace q101 := eq_true q101
       go_wp2_with (first | ((with_reducible refine gate_dst (N := 9) rfl ?_); refine box_event ?hg (N := 9) ?hd (cs := #[.int .i64 0, .int .i64 0, .int .i64 0]) (t := 83) ?hr ?_; (case hd => rfl); (case hg => rfl); (case hr => first | (go_simp; done) | (go_simp; rfl)); intro gb102 hg w10 hbox hb; have n0_ := asd (below_step (by repeat (first | (with_reducible first | exact HB.out | apply below_alloc | apply pw_below_drewN | apply below_drew1) | exact HB.out)) hb); have n1_ := asd (hbox); have n2_ := asd ((by rw [hg]; exact (below_size (by repeat (first | (with_reducible first | exact HB.out | apply below_alloc | apply pw_below_drewN | apply below_drew1) | exact HB.out))) : w.heap.size ≤ gb102)); have n3_ := asd ((by rw [hg]; exact (below_size (by repeat (first | (with_reducible first | exact HB.out | apply below_alloc | apply pw_below_drewN | apply below_drew1) | exact HB.out))) : w.heap.size ≤ gb102)); clear HB; have HB := n0_; have BK102 := n1_; have GW102 := n2_; have GE102 := n3_; clear n0_ n1_ n2_ n3_; clear hb hbox hg; have hcz11_0 : w10.cell? ⟨gb102, 0, none⟩ = some (.int .i64 0) := (blk_cell BK102.out 0).trans rfl; have hcz11_1 : w10.cell? ⟨gb102, 1, none⟩ = some (.int .i64 0) := (blk_cell BK102.out 1).trans rfl; have hcz11_2 : w10.cell? ⟨gb102, 2, none⟩ = some (.int .i64 0) := (blk_cell BK102.out 2).trans rfl; have hfz11_0 := blk_frozen BK102.out 0; have hfz11_1 := blk_frozen BK102.out 1; have hfz11_2 := blk_frozen BK102.out 2))
       repeat (go_quiet (first | ((with_reducible refine gate_dst (N := 9) rfl ?_); refine box_event ?hg (N := 9) ?hd (cs := #[.int .i64 0, .int .i64 0, .int .i64 0]) (t := 83) ?hr ?_; (case hd => rfl); (case hg => rfl); (case hr => first | (go_simp; done) | (go_simp; rfl)); intro gb102 hg w10 hbox hb; have n0_ := asd (below_step (by repeat (first | (with_reducible first | exact HB.out | apply below_alloc | apply pw_below_drewN | apply below_drew1) | exact HB.out)) hb); have n1_ := asd (hbox); have n2_ := asd ((by rw [hg]; exact (below_size (by repeat (first | (with_reducible first | exact HB.out | apply below_alloc | apply pw_below_drewN | apply below_drew1) | exact HB.out))) : w.heap.size ≤ gb102)); have n3_ := asd ((by rw [hg]; exact (below_size (by repeat (first | (with_reducible first | exact HB.out | apply below_alloc | apply pw_below_drewN | apply below_drew1) | exact HB.out))) : w.heap.size ≤ gb102)); clear HB; have HB := n0_; have BK102 := n1_; have GW102 := n2_; have GE102 := n3_; clear n0_ n1_ n2_ n3_; clear hb hbox hg; have hcz11_0 : w10.cell? ⟨gb102, 0, none⟩ = some (.int .i64 0) := (blk_cell BK102.out 0).trans rfl; have hcz11_1 : w10.cell? ⟨gb102, 1, none⟩ = some (.int .i64 0) := (blk_cell BK102.out 1).trans rfl; have hcz11_2 : w10.cell? ⟨gb102, 2, none⟩ = some (.int .i64 0) := (blk_cell BK102.out 2).trans rfl; have hfz11_0 := blk_frozen BK102.out 0; have hfz11_1 := blk_frozen BK102.out 1; have hfz11_2 := blk_frozen BK102.out 2)); try go_wp2_with (first | ((with_reducible refine gate_dst (N := 9) rfl ?_); refine box_event ?hg (N := 9) ?hd (cs := #[.int .i64 0, .int .i64 0, .int .i64 0]) (t := 83) ?hr ?_; (case hd => rfl); (case hg => rfl); (case hr => first | (go_simp; done) | (go_simp; rfl)); intro gb102 hg w10 hbox hb; have n0_ := asd (below_step (by repeat (first | (with_reducible first | exact HB.out | apply below_alloc | apply pw_below_drewN | apply below_drew1) | exact HB.out)) hb); have n1_ := asd (hbox); have n2_ := asd ((by rw [hg]; exact (below_size (by repeat (first | (with_reducible first | exact HB.out | apply below_alloc | apply pw_below_drewN | apply below_drew1) | exact HB.out))) : w.heap.size ≤ gb102)); have n3_ := asd ((by rw [hg]; exact (below_size (by repeat (first | (with_reducible first | exact HB.out | apply below_alloc | apply pw_below_drewN | apply below_drew1) | exact HB.out))) : w.heap.size ≤ gb102)); clear HB; have HB := n0_; have BK102 := n1_; have GW102 := n2_; have GE102 := n3_; clear n0_ n1_ n2_ n3_; clear hb hbox hg; have hcz11_0 : w10.cell? ⟨gb102, 0, none⟩ = some (.int .i64 0) := (blk_cell BK102.out 0).trans rfl; have hcz11_1 : w10.cell? ⟨gb102, 1, none⟩ = some (.int .i64 0) := (blk_cell BK102.out 1).trans rfl; have hcz11_2 : w10.cell? ⟨gb102, 2, none⟩ = some (.int .i64 0) := (blk_cell BK102.out 2).trans rfl; have hfz11_0 := blk_frozen BK102.out 0; have hfz11_1 := blk_frozen BK102.out 1; have hfz11_2 := blk_frozen BK102.out 2)))
       go_roundg k1
       case measure => have := HK1.out; omega
       case rel => exact ⟨(wrap64 (x7_1 + ((rd_T83 l0 x12_1).f0))), (wrap64 (x12_1 + 1)), (by first | rfl | (simp; done) | (simp [*]; done)), (by first | rfl | (simp; done) | (simp [*]; done)), H', ⟨by have := HK1.out; omega⟩, ⟨by repeat (first | (with_reducible first | exact HB.out | apply below_alloc | apply pw_below_drewN | apply below_drew1 | refine below_set ?_ GE102.out) | exact HB.out)⟩⟩
      ·
       rw [if_neg c9] at H
       have c9b0 : ((Go.bits .and .i64 (ji8) 1) == 0) = false := beq_eq_false_iff_ne.mpr c9
       have c9b1 : ((Go.bits .and .i64 (ji8) 1) != 0) = true := bne_iff_ne.mpr c9
       have H' := asd H
       clear H
       have p101 : 0 ≤ (x12_1 : Int) := of_decide_eq_true (by first | (with_reducible assumption) | assumption)
       have q101 : x12_1 < (l0.length : Int) := of_decide_eq_true (by first | (with_reducible assumption) | assumption)
       obtain ⟨ad101, e101, hx101_0, hx101_1, hx101_2⟩ := at_T83 HR0.out x12_1 p101 q101
       cases e101
       replace hx101_0 := (HB.out.cell (World.block_lt_of_cell? w _ hx101_0)).trans hx101_0
       replace hx101_1 := (HB.out.cell (World.block_lt_of_cell? w _ hx101_1)).trans hx101_1
       replace hx101_2 := (HB.out.cell (World.block_lt_of_cell? w _ hx101_2)).trans hx101_2
       replace p101 := eq_true p101
       replace q101 := eq_true q101
       go_wp2_with (first | ((with_reducible refine gate_dst (N := 9) rfl ?_); refine box_event ?hg (N := 9) ?hd (cs := #[.int .i64 0, .int .i64 0, .int .i64 0]) (t := 83) ?hr ?_; (case hd => rfl); (case hg => rfl); (case hr => first | (go_simp; done) | (go_simp; rfl)); intro gb102 hg w12 hbox hb; have n0_ := asd (below_step (by repeat (first | (with_reducible first | exact HB.out | apply below_alloc | apply pw_below_drewN | apply below_drew1) | exact HB.out)) hb); have n1_ := asd (hbox); have n2_ := asd ((by rw [hg]; exact (below_size (by repeat (first | (with_reducible first | exact HB.out | apply below_alloc | apply pw_below_drewN | apply below_drew1) | exact HB.out))) : w.heap.size ≤ gb102)); have n3_ := asd ((by rw [hg]; exact (below_size (by repeat (first | (with_reducible first | exact HB.out | apply below_alloc | apply pw_below_drewN | apply below_drew1) | exact HB.out))) : w.heap.size ≤ gb102)); clear HB; have HB := n0_; have BK102 := n1_; have GW102 := n2_; have GE102 := n3_; clear n0_ n1_ n2_ n3_; clear hb hbox hg; have hcz13_0 : w12.cell? ⟨gb102, 0, none⟩ = some (.int .i64 0) := (blk_cell BK102.out 0).trans rfl; have hcz13_1 : w12.cell? ⟨gb102, 1, none⟩ = some (.int .i64 0) := (blk_cell BK102.out 1).trans rfl; have hcz13_2 : w12.cell? ⟨gb102, 2, none⟩ = some (.int .i64 0) := (blk_cell BK102.out 2).trans rfl; have hfz13_0 := blk_frozen BK102.out 0; have hfz13_1 := blk_frozen BK102.out 1; have hfz13_2 := blk_frozen BK102.out 2))
       repeat (go_quiet (first | ((with_reducible refine gate_dst (N := 9) rfl ?_); refine box_event ?hg (N := 9) ?hd (cs := #[.int .i64 0, .int .i64 0, .int .i64 0]) (t := 83) ?hr ?_; (case hd => rfl); (case hg => rfl); (case hr => first | (go_simp; done) | (go_simp; rfl)); intro gb102 hg w12 hbox hb; have n0_ := asd (below_step (by repeat (first | (with_reducible first | exact HB.out | apply below_alloc | apply pw_below_drewN | apply below_drew1) | exact HB.out)) hb); have n1_ := asd (hbox); have n2_ := asd ((by rw [hg]; exact (below_size (by repeat (first | (with_reducible first | exact HB.out | apply below_alloc | apply pw_below_drewN | apply below_drew1) | exact HB.out))) : w.heap.size ≤ gb102)); have n3_ := asd ((by rw [hg]; exact (below_size (by repeat (first | (with_reducible first | exact HB.out | apply below_alloc | apply pw_below_drewN | apply below_drew1) | exact HB.out))) : w.heap.size ≤ gb102)); clear HB; have HB := n0_; have BK102 := n1_; have GW102 := n2_; have GE102 := n3_; clear n0_ n1_ n2_ n3_; clear hb hbox hg; have hcz13_0 : w12.cell? ⟨gb102, 0, none⟩ = some (.int .i64 0) := (blk_cell BK102.out 0).trans rfl; have hcz13_1 : w12.cell? ⟨gb102, 1, none⟩ = some (.int .i64 0) := (blk_cell BK102.out 1).trans rfl; have hcz13_2 : w12.cell? ⟨gb102, 2, none⟩ = some (.int .i64 0) := (blk_cell BK102.out 2).trans rfl; have hfz13_0 := blk_frozen BK102.out 0; have hfz13_1 := blk_frozen BK102.out 1; have hfz13_2 := blk_frozen BK102.out 2)); try go_wp2_with (first | ((with_reducible refine gate_dst (N := 9) rfl ?_); refine box_event ?hg (N := 9) ?hd (cs := #[.int .i64 0, .int .i64 0, .int .i64 0]) (t := 83) ?hr ?_; (case hd => rfl); (case hg => rfl); (case hr => first | (go_simp; done) | (go_simp; rfl)); intro gb102 hg w12 hbox hb; have n0_ := asd (below_step (by repeat (first | (with_reducible first | exact HB.out | apply below_alloc | apply pw_below_drewN | apply below_drew1) | exact HB.out)) hb); have n1_ := asd (hbox); have n2_ := asd ((by rw [hg]; exact (below_size (by repeat (first | (with_reducible first | exact HB.out | apply below_alloc | apply pw_below_drewN | apply below_drew1) | exact HB.out))) : w.heap.size ≤ gb102)); have n3_ := asd ((by rw [hg]; exact (below_size (by repeat (first | (with_reducible first | exact HB.out | apply below_alloc | apply pw_below_drewN | apply below_drew1) | exact HB.out))) : w.heap.size ≤ gb102)); clear HB; have HB := n0_; have BK102 := n1_; have GW102 := n2_; have GE102 := n3_; clear n0_ n1_ n2_ n3_; clear hb hbox hg; have hcz13_0 : w12.cell? ⟨gb102, 0, none⟩ = some (.int .i64 0) := (blk_cell BK102.out 0).trans rfl; have hcz13_1 : w12.cell? ⟨gb102, 1, none⟩ = some (.int .i64 0) := (blk_cell BK102.out 1).trans rfl; have hcz13_2 : w12.cell? ⟨gb102, 2, none⟩ = some (.int .i64 0) := (blk_cell BK102.out 2).trans rfl; have hfz13_0 := blk_frozen BK102.out 0; have hfz13_1 := blk_frozen BK102.out 1; have hfz13_2 := blk_frozen BK102.out 2)))
       go_roundg k1
       case measure => have := HK1.out; omega
       case rel => exact ⟨(x7_1), (wrap64 (x12_1 + 1)), (by first | rfl | (simp; done) | (simp [*]; done)), (by first | rfl | (simp; done) | (simp [*]; done)), H', ⟨by have := HK1.out; omega⟩, ⟨by repeat (first | (with_reducible first | exact HB.out | apply below_alloc | apply pw_below_drewN | apply below_drew1 | refine below_set ?_ GE102.out) | exact HB.out)⟩⟩
     ·
      rw [if_neg c6] at H
      exact absurd H (by simp)
    ·
     rw [if_neg c5] at H
     exact absurd H (by simp)
   ·
    rw [if_neg c4] at H
    have c4b0 : decide (x12_1 < (l0.length : Int)) = false := decide_eq_false c4
    clear c4
    by_cases c14 : 0 ≤ a2
    ·
     rw [if_pos c14] at H
     have c14b0 : decide (0 ≤ a2) = true := decide_eq_true c14
     clear c14
     by_cases c15 : a2 < (l0.length : Int)
     ·
      rw [if_pos c15] at H
      have c15b0 : decide (a2 < (l0.length : Int)) = true := decide_eq_true c15
      clear c15
      obtain rfl := Option.some.inj H
      have p103 : 0 ≤ (a2 : Int) := of_decide_eq_true (by first | (with_reducible assumption) | assumption)
      have q103 : a2 < (l0.length : Int) := of_decide_eq_true (by first | (with_reducible assumption) | assumption)
      obtain ⟨ad103, e103, hx103_0, hx103_1, hx103_2⟩ := at_T83 HR0.out a2 p103 q103
      cases e103
      replace hx103_0 := (HB.out.cell (World.block_lt_of_cell? w _ hx103_0)).trans hx103_0
      replace hx103_1 := (HB.out.cell (World.block_lt_of_cell? w _ hx103_1)).trans hx103_1
      replace hx103_2 := (HB.out.cell (World.block_lt_of_cell? w _ hx103_2)).trans hx103_2
      replace p103 := eq_true p103
      replace q103 := eq_true q103
      have p104 : 0 ≤ (a2 : Int) := of_decide_eq_true (by first | (with_reducible assumption) | assumption)
      have q104 : a2 < (l0.length : Int) := of_decide_eq_true (by first | (with_reducible assumption) | assumption)
      obtain ⟨ad104, e104, hx104_0, hx104_1, hx104_2⟩ := at_T83 HR0.out a2 p104 q104
      obtain rfl : ad103 = ad104 := (by injection e104)
      replace hx104_0 := (HB.out.cell (World.block_lt_of_cell? w _ hx104_0)).trans hx104_0
      replace hx104_1 := (HB.out.cell (World.block_lt_of_cell? w _ hx104_1)).trans hx104_1
      replace hx104_2 := (HB.out.cell (World.block_lt_of_cell? w _ hx104_2)).trans hx104_2
      replace p104 := eq_true p104
      replace q104 := eq_true q104
      go_wp2
      repeat (go_quiet (fail); try go_wp2)
      go_ret
      exact ⟨by first | rfl | (simp [errW_none, errW_some] <;> rfl) | (simp [*, errW_none, errW_some] <;> rfl), by repeat (first | (with_reducible first | exact HB.out | apply below_alloc | apply pw_below_drewN | apply below_drew1) | exact HB.out)⟩
     ·
      rw [if_neg c15] at H
      exact absurd H (by simp)
    ·
     rw [if_neg c14] at H
     exact absurd H (by simp)

-- HAND with impl.cost
theorem cost_loop (l : List S83) (x : Nat) (hx : x < 128) (j : Int) (h0 : 0 ≤ j) (h1 : j < l.length) (hlen : l.length < 64) : ∀ (d i : Nat), l.length - i = d → i ≤ l.length → Ev (fun k => impl_cost.l0 k l x j (timeK l x i) l l.length i) (costV l x j) := by
  intro d
  induction d with
  | zero =>
    intro i hd hi
    obtain rfl : i = l.length := by omega
    refine Ev.succ (fun k => by simp only [impl_cost.l0]; rw [if_neg (by omega), if_pos h0, if_pos h1]) ?_
    exact Ev.const rfl
  | succ d ih =>
    intro i hd hi
    have hn := ih (i + 1) (by omega) (by omega)
    push_cast at hn
    refine Ev.succ (fun k => by simp only [impl_cost.l0]; rw [if_pos (by omega), if_pos (by omega), if_pos (by omega), shr_nat x i (by omega), bit_and x i (lt63 hx), wrap_succ (by omega) (by omega)]) ?_
    cases hb : x.testBit i with
    | true =>
      rw [show timeK l x (i + 1) = timeK l x i by simp only [timeK]; rw [if_pos hb]] at hn
      exact Ev.to (fun k => by rw [if_pos rfl, if_neg (by decide)]) hn
    | false =>
      rw [show timeK l x (i + 1) = wrap64 (timeK l x i + (l.getD i z83).f0) by simp only [timeK]; rw [if_neg (by rw [hb]; decide)]] at hn
      refine Ev.to (fun k => by rw [if_pos (by decide)]) ?_
      exact hn
theorem cost_ok (l : List S83) (x j : Int) (hx0 : 0 ≤ x) (hx : x < 128) (h0 : 0 ≤ j) (h1 : j < l.length) (hlen : l.length < 64) : Ev (fun k => impl_cost.f k l x j) (costV l x.toNat j) := by
  obtain ⟨x, rfl⟩ := Int.eq_ofNat_of_zero_le hx0
  exact cost_loop l x (by omega) j h0 h1 hlen l.length 0 (by omega) (by omega)

-- HAND with impl.AreTasks+impl.cost
theorem areTasks_facts {t : List S83} {n : Int} (h : areTasksB t n = true) : 1 ≤ n ∧ n ≤ 7 ∧ (t.length : Int) = n ∧ ∀ x ∈ t, 1 ≤ x.f0 ∧ x.f0 ≤ 9 ∧ 0 ≤ x.f1 ∧ x.f1 ≤ 9 ∧ -100 ≤ x.f2 ∧ x.f2 ≤ 100 := by
  unfold areTasksB at h
  simp only [Bool.and_eq_true, decide_eq_true_eq, Bool.not_eq_true'] at h
  obtain ⟨⟨⟨h1, h2⟩, h3⟩, h4⟩ := h
  refine ⟨h1, h2, h3, fun x hx => ?_⟩
  have h5 : taskOk x.f0 x.f1 x.f2 = true := by
    rw [List.any_eq_false] at h4
    have := h4 x hx
    simpa using this
  unfold taskOk at h5
  simp only [Bool.and_eq_true, decide_eq_true_eq] at h5
  obtain ⟨⟨⟨a, b⟩, ⟨c, d⟩⟩, e, f⟩ := h5
  exact ⟨a, b, c, d, e, f⟩
theorem task_in {t : List S83} {i : Nat} (h : i < t.length) : t.getD i z83 ∈ t := by
  rw [List.getD_eq_getElem?_getD, List.getElem?_eq_getElem h]
  exact List.getElem_mem h
theorem timeK_bounds {t : List S83} (hf : ∀ x ∈ t, 1 ≤ x.f0 ∧ x.f0 ≤ 9 ∧ 0 ≤ x.f1 ∧ x.f1 ≤ 9 ∧ -100 ≤ x.f2 ∧ x.f2 ≤ 100) (hl : t.length ≤ 7) (x : Nat) : ∀ i : Nat, i ≤ t.length → 0 ≤ timeK t x i ∧ timeK t x i ≤ 9 * (i : Int)
  | 0, _ => ⟨Int.le_refl _, Int.le_refl _⟩
  | i + 1, hi => by
    have ih := timeK_bounds hf hl x i (by omega)
    have hm := hf _ (task_in (show i < t.length by omega))
    simp only [timeK]
    by_cases hb : x.testBit i = true
    · rw [if_pos hb]
      push_cast
      omega
    · rw [if_neg hb]
      unfold wrap64
      push_cast
      omega
theorem costV_ge {t : List S83} (hf : ∀ x ∈ t, 1 ≤ x.f0 ∧ x.f0 ≤ 9 ∧ 0 ≤ x.f1 ∧ x.f1 ≤ 9 ∧ -100 ≤ x.f2 ∧ x.f2 ≤ 100) (hl : t.length ≤ 7) (x : Nat) (j : Int) (h0 : 0 ≤ j) (h1 : j < t.length) : -100 ≤ costV t x j ∧ costV t x j ≤ 1000 := by
  have ht := timeK_bounds hf hl x t.length (Nat.le_refl _)
  have hm := hf _ (task_in (show j.toNat < t.length by omega))
  unfold costV
  generalize (t.getD j.toNat z83).f1 = a at *
  generalize (t.getD j.toNat z83).f2 = b at *
  generalize timeK t x t.length = c at *
  have p0 : 0 ≤ a * c := Int.mul_nonneg hm.2.2.1 ht.1
  have p1 : a * c ≤ 9 * 63 := Int.mul_le_mul hm.2.2.2.1 (by omega) ht.1 (by decide)
  generalize a * c = p at *
  unfold wrap64
  omega

end Go.Proofs.Ytkepeflplmkcmaa.Q
