/- Contracts of functions that the laws reach: a call returns what the plain Lean function of the same name tells. Conditions: those of each theorem. Made by gen.py, a program of this session, over the print of the translation. -/
import Derived.Test.YtkepeflplmkcmaaPx0
import Derived.Test.YtkepeflplmkcmaaPx1
import Derived.Test.YtkepeflplmkcmaaPx2
import Derived.Test.YtkepeflplmkcmaaPx7
import Derived.Shelf.Abstract
import Derived.Maps.OwnSet
import Derived.Maps.OwnOps
import Derived.Lib.SliceRun
namespace Go.Proofs.Ytkepeflplmkcmaa.Q
open Go.RowKit Go.Proofs.YtkepeflplmkcmaaW.PrintWords Go.Proofs.YtkepeflplmkcmaaW.PrintLast Go.Proofs.YtkepeflplmkcmaaW.PrintMore
attribute [local go_sem] max2_int min2_int max_two min_two max_three min_three max_four min_four   -- for this text's walks alone
set_option linter.unusedVariables false
set_option linter.unusedSimpArgs false

-- HAND impl_Space_ways: function 62
def impl_Space_ways.f (k : Nat) (a0_0 : Int) (l0_1 : List Int) (a1 : Int) : Option Int := (impl_Space_all.f a0_0 l0_1).bind fun all => (impl_Space_family.f a0_0 l0_1).bind fun F => (waysF all F k a1).bind fun r => some r.1
theorem impl_Space_ways.mono (y0 : Int) (y1 : List Int) (y2 : Int) (k : Nat) : LeO (impl_Space_ways.f k y0 y1 y2) (impl_Space_ways.f (k + 1) y0 y1 y2) :=
  LeO.bind (LeO.refl _) fun all => LeO.bind (LeO.refl _) fun F => LeO.bind (waysF_mono _ _ k _) fun r => LeO.refl _
theorem four_objs (W : World) (o1 o2 o3 o4 : Obj) : ((((W.alloc o1).alloc o2).alloc o3).alloc o4).heap[W.heap.size]? = some o1 ∧ ((((W.alloc o1).alloc o2).alloc o3).alloc o4).heap[W.heap.size + 1]? = some o2 ∧ ((((W.alloc o1).alloc o2).alloc o3).alloc o4).heap[W.heap.size + 1 + 1]? = some o3 ∧ ((((W.alloc o1).alloc o2).alloc o3).alloc o4).heap[W.heap.size + 1 + 1 + 1]? = some o4 ∧ Below W.heap.size W ((((W.alloc o1).alloc o2).alloc o3).alloc o4) := by
  have h1 := blk_new W o1
  have h2 := blk_new (W.alloc o1) o2
  have h3 := blk_new ((W.alloc o1).alloc o2) o3
  have h4 := blk_new (((W.alloc o1).alloc o2).alloc o3) o4
  rw [World.size_alloc] at h2
  rw [World.size_alloc, World.size_alloc] at h3
  rw [World.size_alloc, World.size_alloc, World.size_alloc] at h4
  exact ⟨blk_alloc (blk_alloc (blk_alloc h1 _) _) _, blk_alloc (blk_alloc h2 _) _, blk_alloc h3 _, h4, below_alloc (below_alloc (below_alloc (below_alloc (Below.refl _ _) _) _) _) _⟩
theorem fam_of {n : Int} {l : List Int} {F : List Bool} (h : impl_Space_family.f n l = some F) : (∀ x ∈ l, 0 ≤ x ∧ x < 128) ∧ F = famOf l := by
  unfold impl_Space_family.f at h
  split at h
  · rename_i hh
    refine ⟨fun x hx => ?_, (Option.some.inj h).symm⟩
    have h2 := List.all_eq_true.1 hh x hx
    rw [Bool.and_eq_true, decide_eq_true_eq, decide_eq_true_eq] at h2
    exact h2
  · cases h
theorem ways_start {n : Int} {A : Option Addr} {c : Nat} {l : List Int} {F : List Bool} {all : Int} {w W3 : World} {gs bf : Nat} (hb3 : Below w.heap.size w W3) (b1 : W3.heap[gs]? = some (.cells #[.int .i64 n, .slice A l.length c] 28 (0, 0))) (hF : FamAt W3 bf F) :
    WayS w ((((W3.alloc (.map #[] 0)).alloc (.cells #[.pointer (some ⟨bf, 0, none⟩)] 105)).alloc (.cells #[.map (some W3.heap.size)] 112)).alloc (.cells #[.func (.func 108) #[] #[.pointer (some ⟨gs, 0, none⟩), .pointer (some ⟨W3.heap.size + 1 + 1, 0, none⟩), .pointer (some ⟨W3.heap.size + 1, 0, none⟩), .pointer (some ⟨W3.heap.size + 1 + 1 + 1, 0, none⟩)]] 73)) gs (W3.heap.size + 1 + 1) (W3.heap.size + 1) (W3.heap.size + 1 + 1 + 1) W3.heap.size bf n A c l F all (.map []) ∧ Below W3.heap.size W3 ((((W3.alloc (.map #[] 0)).alloc (.cells #[.pointer (some ⟨bf, 0, none⟩)] 105)).alloc (.cells #[.map (some W3.heap.size)] 112)).alloc (.cells #[.func (.func 108) #[] #[.pointer (some ⟨gs, 0, none⟩), .pointer (some ⟨W3.heap.size + 1 + 1, 0, none⟩), .pointer (some ⟨W3.heap.size + 1, 0, none⟩), .pointer (some ⟨W3.heap.size + 1 + 1 + 1, 0, none⟩)]] 73)) := by
  obtain ⟨n1, n2, n3, n4, hX⟩ := four_objs W3 (.map #[] 0) (.cells #[.pointer (some ⟨bf, 0, none⟩)] 105) (.cells #[.map (some W3.heap.size)] 112) (.cells #[.func (.func 108) #[] #[.pointer (some ⟨gs, 0, none⟩), .pointer (some ⟨W3.heap.size + 1 + 1, 0, none⟩), .pointer (some ⟨W3.heap.size + 1, 0, none⟩), .pointer (some ⟨W3.heap.size + 1 + 1 + 1, 0, none⟩)]] 73)
  refine ⟨⟨below_step hb3 hX, blk_below b1 hX, n3, n2, n4, hF.below hX, ?_, ⟨⟨[], rfl, fun p hp => by cases hp⟩, fun x hx => by cases hx⟩, hb3.size⟩, hX⟩
  exact ((((World.ownsMap_made W3 Try.prog 3 (plainElem Try.prog 3)).mono (Nat.zero_le 128)).alloc _).alloc _).alloc _
set_option maxHeartbeats 4000000 in
set_option maxRecDepth 100000 in
theorem impl_Space_ways.calls (k : Nat) (a0_0 : Int) (A0_1 : Option Addr) (c0_1 : Nat) (l0_1 : List Int) (a1 : Int) (r : Int) (w : World) (hr0_1 : Kd.C (Kd.int .i64) w A0_1 l0_1.length l0_1) (hc0_1 : l0_1.length ≤ c0_1) (h : impl_Space_ways.f k a0_0 l0_1 a1 = some r) :
    Calls Try.prog 62 #[.agg #[.int .i64 a0_0, .slice A0_1 l0_1.length c0_1], .int .i64 a1] w fun e w' => e = .returned (.int .i64 r) ∧ Below w.heap.size w w' := by
  have hu := Try.underlying28
  have hmm := @run_makeMap Try.prog
  obtain ⟨all, hall, h⟩ := Option.bind_eq_some_iff.1 h
  obtain ⟨F, hF, h⟩ := Option.bind_eq_some_iff.1 h
  obtain ⟨rr, hr, h⟩ := Option.bind_eq_some_iff.1 h
  obtain rfl := Option.some.inj h
  obtain ⟨hM, rfl⟩ := fam_of hF
  have HR := Aside0.mk hr0_1
  have HC := Aside0.mk hc0_1
  have HALL := Aside0.mk hall
  have HM := Aside0.mk hM
  have HW := Aside0.mk hr
  have HB0 := Aside0.mk (Below.refl w.heap.size w)
  clear hr0_1 hc0_1 hall hF hr h hM
  go_enter Try.func62, Try.ntmps62
  go_wp2_with (first | ((with_reducible refine gate_dst (N := 2) rfl ?_); refine box_event ?hg (N := 2) ?hd (cs := #[.int .i64 a0_0, .slice A0_1 l0_1.length c0_1]) (t := 28) ?hr ?_; (case hd => rfl); (case hg => rfl); (case hr => first | (go_simp; done) | (go_simp; rfl)); intro gs gse W1 gsb W1b; have HB1 := Aside0.mk (below_step (by repeat (first | exact HB0.out | apply pw_below_drewN | apply below_drew1 | apply below_alloc)) W1b); have BK1 := Aside0.mk gsb; have GE1 := Aside0.mk ((by rw [gse]; exact below_size (by repeat (first | exact HB0.out | apply pw_below_drewN | apply below_drew1 | apply below_alloc))) : w.heap.size ≤ gs); have q1 : W1.cell? ⟨gs, 0, none⟩ = some (.int .i64 a0_0) := (blk_cell BK1.out 0).trans rfl; have q2 : W1.cell? ⟨gs, 1, none⟩ = some (.slice A0_1 l0_1.length c0_1) := (blk_cell BK1.out 1).trans rfl; clear W1b gsb gse) | (go_at_call 102; (with_reducible refine (impl_Space_family.walk a0_0 A0_1 c0_1 l0_1 _ ?sa ?sb HM.out).mono ?_); (case sa => exact Kd.C_below HR.out HB1.out); (case sb => exact HC.out); rintro e W3 ⟨bf, rfl, hf, hfb, hb3⟩; obtain ⟨hS3, hX3⟩ := ways_start (all := all) (below_step HB1.out hb3) (blk_below BK1.out hb3) hf; have HS3 := Aside0.mk hS3; have q9 : (((((W3.alloc (.map #[] 0)).alloc (.cells #[.pointer (some ⟨bf, 0, none⟩)] 105)).alloc (.cells #[.map (some W3.heap.size)] 112)).alloc (.cells #[.func (.func 108) #[] #[.pointer (some ⟨gs, 0, none⟩), .pointer (some ⟨W3.heap.size + 1 + 1, 0, none⟩), .pointer (some ⟨W3.heap.size + 1, 0, none⟩), .pointer (some ⟨W3.heap.size + 1 + 1 + 1, 0, none⟩)]] 73))).cell? ⟨W3.heap.size + 1 + 1 + 1, 0, none⟩ = some (.func (.func 108) #[] #[.pointer (some ⟨gs, 0, none⟩), .pointer (some ⟨W3.heap.size + 1 + 1, 0, none⟩), .pointer (some ⟨W3.heap.size + 1, 0, none⟩), .pointer (some ⟨W3.heap.size + 1 + 1 + 1, 0, none⟩)]) := (blk_cell hS3.b4 0).trans rfl; clear hf hfb hb3 hS3 hX3 q1 q2) | (go_at_call 108; (refine (impl_Space_ways_1.calls gs _ _ _ _ bf a0_0 A0_1 c0_1 l0_1 (famOf l0_1) all w HR.out HC.out HALL.out k a1 rr _ _ HS3.out HW.out).mono ?_); rintro e W7 ⟨rfl, D', hS7, hK7⟩; have HB7 := Aside0.mk hS7.bel; clear hS7 hK7))
  go_ret
  exact ⟨rfl, HB7.out⟩

-- HAND with (impl.Space).ways+(impl.Space).ways$1+(*impl.family).outer+impl.items
/-- The program's count. -/
theorem ways_ok {n : Int} {l : List Int} (hS : isSpaceB n l = true) : ∀ (d m x : Nat), m + d = n.toNat → GInv n.toNat (famOf l) x m → ∃ c, Ev (fun k => waysF (2 ^ n.toNat - 1) (famOf l) k x) ((cntW (famOf l) d x : Int), c)
  | 0, m, x, hd, hG => by
    obtain ⟨n1, n7, _⟩ := isSpaceB_parts hS
    have hall : (x : Int) = 2 ^ n.toNat - 1 := all_nat.2 ((hG.full (by omega)).2 (by omega))
    exact ⟨0, Ev.succ (g := fun _ => some (1, 0)) (fun k => by rw [waysF, if_pos hall]) (Ev.const rfl)⟩
  | d + 1, m, x, hd, hG => by
    obtain ⟨n1, n7, _⟩ := isSpaceB_parts hS
    have hx128 := hG.x128 (n := n.toNat) (by omega)
    have hall : ¬ (x : Int) = 2 ^ n.toNat - 1 := fun e => by
      have := (hG.full (by omega)).1 (all_nat.1 e)
      omega
    have ho : outerF (famOf l) x < 128 := maskOf_lt _
    have hlen : (itemsN (outerF (famOf l) x)).length ≤ 7 := List.length_filter_le _ _
    have loop : ∀ (I : List Nat) (s c : Nat), (∀ i ∈ I, (outerF (famOf l) x).testBit i = true) → s + I.length * 823543 ≤ 10000000 → ∃ c', Ev (fun k => sumF (fun s => waysF (2 ^ n.toNat - 1) (famOf l) k s) x (I.map fun (j : Nat) => (j : Int)) (s : Int) c) (((I.foldl (addV (cntW (famOf l) d) x) s : Nat) : Int), c') := by
      intro I
      induction I with
      | nil =>
        intro s c _ _
        exact ⟨c, Ev.const rfl⟩
      | cons i I ih =>
        intro s c hI hs
        obtain ⟨hin, hxi, hG2⟩ := outer_next hS hG (hI i List.mem_cons_self)
        have h2i : 2 ^ i < 128 := two_lt128 (by omega)
        have hbits : Go.bits .or .i64 (x : Int) (shl .i64 1 (i : Int)) = ((x ||| 2 ^ i : Nat) : Int) := by rw [shl_one i (by omega), bits_or x (2 ^ i) (by omega) (by omega)]
        obtain ⟨c1, h1⟩ := ways_ok hS d (m + 1) (x ||| 2 ^ i) (by omega) hG2
        have hsm := cntW_small (famOf l) (d := d) (by omega) (x ||| 2 ^ i)
        rw [List.length_cons, Nat.succ_mul] at hs
        obtain ⟨c', h2⟩ := ih (addV (cntW (famOf l) d) x s i) (c + c1) (fun j hj => hI j (List.mem_cons_of_mem _ hj)) (by unfold addV; omega)
        refine ⟨c', Ev.to (fun k => by rw [List.map_cons, sumF, if_pos (by omega), hbits]) ?_⟩
        refine Ev.bind h1 ?_
        have hw : wrap64 ((s : Int) + (cntW (famOf l) d (x ||| 2 ^ i) : Int)) = ((addV (cntW (famOf l) d) x s i : Nat) : Int) := by
          unfold addV
          rw [wrap_in (by omega) (by omega)]
          push_cast
          rfl
        exact Ev.to (fun k => by rw [hw]) h2
    obtain ⟨c', h⟩ := loop (itemsN (outerF (famOf l) x)) 0 0 (fun i hi => itemsN_bit hi) (by omega)
    refine ⟨c' + 1, Ev.succ (fun k => by rw [waysF, if_neg hall]) ?_⟩
    refine Ev.bindc (outer_f (famOf l) (famOf_length l) (x : Int) (by omega) (by omega)) ?_
    rw [Int.toNat_natCast]
    refine Ev.bind (itemsE (x := ((outerF (famOf l) x : Nat) : Int)) (by omega) (by omega)) ?_
    exact Ev.bind h (Ev.const rfl)

-- HAND slices_Clone_int_int: function 65
def slices_Clone_int_int.f (l0 : List Int) : Option (List Int) := if l0.length < 17592186044416 then some l0 else none
set_option maxHeartbeats 8000000 in
set_option maxRecDepth 100000 in
theorem slices_Clone_int_int.calls (A0 : Option Addr) (c0 : Nat) (l0 : List Int) (r : List Int) (w : World) (hr0 : Kd.C (Kd.int .i64) w A0 l0.length l0) (hc0 : l0.length ≤ c0) (h : slices_Clone_int_int.f l0 = some r) :
    Calls Try.prog 65 #[.slice A0 l0.length c0] w fun e w' => ∃ v0_ : Value, e = .returned (v0_) ∧ Kd.R (Kd.int .i64) 3 w' w.heap.size (fun _ => True) v0_ r ∧ Below w.heap.size w w' := by
  unfold slices_Clone_int_int.f at h
  split at h
  · rename_i hlt
    obtain rfl := Option.some.inj h
    have LM := Aside0.mk hlt
    clear h hlt
    have he : ∀ (w : World) (A : Option Addr) (n c : Nat), (binOp .eql 22 (.slice A n c) (.slice none 0 0)).run Try.prog w = .ok (.bool A.isNone) w := fun w A n c => Go.Lib.run_eql_slice_nil w 22 3 A n c 0 0 Try.underlying22
    cases A0 with
    | none =>
      have hl : l0 = [] := by
        rcases Nat.eq_zero_or_pos l0.length with e | e
        · exact List.eq_nil_of_length_eq_zero e
        · obtain ⟨ad, he, _⟩ := hr0.2.2 e
          cases he
      subst hl
      clear hr0 hc0 LM
      have he0 : ∀ (w : World) (n c : Nat), (binOp .eql 22 (.slice none n c) (.slice none 0 0)).run Try.prog w = .ok (.bool true) w := fun w n c => he w none n c
      clear he
      go_enter Try.func65, Try.ntmps65
      go_wp2
      go_ret
      exact ⟨_, rfl, Kd.R_nil _ _ _ _ _, Below.refl _ _⟩
    | some ad =>
      have HR0 := Aside0.mk hr0
      have HC0 := Aside0.mk hc0
      clear hr0 hc0
      have he0 : ∀ (w : World) (n c : Nat), (binOp .eql 22 (.slice (some ad) n c) (.slice none 0 0)).run Try.prog w = .ok (.bool false) w := fun w n c => he w (some ad) n c
      clear he
      have HB := Aside0.mk (Below.refl w.heap.size w)
      go_enter Try.func65, Try.ntmps65
      go_wp2_with (first | ((with_reducible refine gate_dst (N := 5) rfl ?_); refine Kd.R_lit (Kd.int .i64) _ 3 ?hg (N := 5) ?hd (xs := ([] : List Int)) (inner := []) (ok := fun _ => True) (okp := fun _ => True) ?hr ?hp (fun _ hk => hk) trivial (Below.refl _ _) (Nat.le_refl _) (by simp) ?_; (case hd => rfl); (case hg => rfl); (case hr => first | (go_simp; done) | (go_simp; rfl)); (case hp => exact (Reps.none _ _)); intro v102 w3 ho4 hb hg_ hnew_; clear hg_ hnew_; have n0_ := Aside0.mk (Kd.R_lower ho4 (below_size (by repeat (first | (with_reducible first | exact HB.out | apply below_alloc | apply pw_below_drewN | apply below_drew1) | exact HB.out)))); have n1_ := Aside0.mk (below_step (by repeat (first | (with_reducible first | exact HB.out | apply below_alloc | apply pw_below_drewN | apply below_drew1) | exact HB.out)) hb); clear HB; have HO103 := n0_; have HB := n1_; clear n0_ n1_; clear hb ho4) | ((with_reducible refine gate_builtin (b := .append) (xs := #[.tmp 5, .tmp 6]) rfl ?_); at_builtin; refine Kd.R_append_rows (Kd.int .i64) (w0 := w) w.heap.size rfl (.tmp 5) (.tmp 6) 22 3 (.int .i64 0) 8 rfl Try.underlying22 info3 rfl (by decide) (by omega) v102 ([] : List Int) l0 _ _ _ (fun _ => True) (fun _ => False) rfl rfl ?aO ?aR (fun _ _ h => h) (fun _ h => h.elim) ?aF ?aB ?aS ?aL ?_; (case aR => repeat (first | exact (Kd.C_below HR0.out HB.out) | (with_reducible refine Kd.C_alloc ?_ _) | (with_reducible refine Kd.C_drewN ?_ _) | (with_reducible refine Kd.C_drew ?_))); (case aB => exact (by repeat (first | (with_reducible first | exact HB.out | apply below_alloc | apply pw_below_drewN | apply below_drew1) | exact HB.out))); (case aF => exact (fun _ _ => trivial)); (case aO => exact (by (with_reducible repeat (first | apply Kd.R_alloc | apply Kd.R_drewN | apply Kd.R_drew)); exact HO103.out)); (case aS => exact (below_size (by repeat (first | (with_reducible first | exact HB.out | apply below_alloc | apply pw_below_drewN | apply below_drew1) | exact HB.out)))); (case aL => have := LM.out; simp; omega); intro v105 w5 ho hb hg hat; have n0_ := Aside0.mk (hb); have n1_ := Aside0.mk (ho); clear HB; clear HO103; have HB := n0_; have HO106 := n1_; clear n0_ n1_; clear ho hb hg hat))
      go_ret
      exact ⟨_, rfl, by (with_reducible repeat (first | apply Kd.R_alloc | apply Kd.R_drewN | apply Kd.R_drew)); exact HO106.out, by repeat (first | (with_reducible first | exact HB.out | apply below_alloc | apply pw_below_drewN | apply below_drew1) | exact HB.out)⟩
  · cases h

-- HAND with slices.Clone[[]int,int]
theorem clone_ok {ws : List Int} (h : ws.length ≤ 1000) : slices_Clone_int_int.f ws = some ws := by
  unfold slices_Clone_int_int.f
  rw [if_pos (by omega)]

-- HAND impl_Space_words_1: function 111
/-- What is left of some items, each put at the end of a word. -/
def loopF {σ : Type} (rec_ : σ → Bool → List Int → Int → Option (σ × Bool)) (ws : List Int) (set : Int) : List Int → σ → Bool → Option (σ × Bool)
 | [], st, g => some (st, g)
 | i :: I, st, g => if g = true then (if 0 ≤ i ∧ ws.length < 17592186044416 then (rec_ st g (ws ++ [i]) (Go.bits .or .i64 set (shl .i64 1 i))).bind fun r => loopF rec_ ws set I r.1 r.2 else none) else some (st, g)
/-- A visit to all words that go on. (Fuel; what the visitor keeps; whether it goes on; a word; its set.) -/
def wordsW {σ : Type} (all : Int) (F : List Bool) (D : σ → List Int → Option (σ × Bool)) : Nat → σ → Bool → List Int → Int → Option (σ × Bool)
 | 0, _, _, _, _ => none
 | k + 1, st, g, ws, set => if set = all then D st ws else (impl_family_outer.f F set).bind fun m => (impl_items.f k m).bind fun I => loopF (fun st g ws set => wordsW all F D k st g ws set) ws set I st g
theorem loopF_mono {σ : Type} {r1 r2 : σ → Bool → List Int → Int → Option (σ × Bool)} (h : ∀ st g ws set, LeO (r1 st g ws set) (r2 st g ws set)) (ws : List Int) (set : Int) : ∀ (I : List Int) (st : σ) (g : Bool), LeO (loopF r1 ws set I st g) (loopF r2 ws set I st g)
 | [], _, _ => LeO.refl _
 | i :: I, st, g => by
  unfold loopF
  exact LeO.ite (LeO.ite (LeO.bind (h _ _ _ _) fun r => loopF_mono h ws set I r.1 r.2) (LeO.refl _)) (LeO.refl _)
theorem wordsW_mono {σ : Type} {all : Int} {F : List Bool} {D1 D2 : σ → List Int → Option (σ × Bool)} (hD : ∀ s ws, LeO (D1 s ws) (D2 s ws)) : ∀ (k : Nat) (st : σ) (g : Bool) (ws : List Int) (set : Int), LeO (wordsW all F D1 k st g ws set) (wordsW all F D2 (k + 1) st g ws set)
 | 0, _, _, _, _ => LeO.none _
 | k + 1, st, g, ws, set => by
  show LeO (if set = all then D1 st ws else (impl_family_outer.f F set).bind fun m => (impl_items.f k m).bind fun I => loopF (fun st g ws set => wordsW all F D1 k st g ws set) ws set I st g) (if set = all then D2 st ws else (impl_family_outer.f F set).bind fun m => (impl_items.f (k + 1) m).bind fun I => loopF (fun st g ws set => wordsW all F D2 (k + 1) st g ws set) ws set I st g)
  exact LeO.ite (hD _ _) (LeO.bind (LeO.refl _) fun m => LeO.bind (impl_items.mono _ k) fun I => loopF_mono (wordsW_mono hD k) _ _ I _ _)
/-- A visitor: what it keeps, what it answers. -/
structure CBok {σ : Type} (I : World → (Nat → Prop) → σ → Prop) (D : σ → List Int → Option (σ × Bool)) (fd : Nat) (cd : Array Value) (wb : World) : Prop where
 bound : ∀ W C st, I W C st → ∀ k, C k → k < W.heap.size
 stay : ∀ W W' C st, I W C st → (∀ k, k < W.heap.size → C k → W'.heap[k]? = W.heap[k]?) → W.heap.size ≤ W'.heap.size → I W' C st
 enter : ∀ args w, (callFunc fd args).run Try.prog w = .ok (.enter fd args) w
 run : ∀ W C st A c xs r, I W C st → Below wb.heap.size wb W → Kd.C (Kd.int .i64) W A xs.length xs → xs.length ≤ c → D st xs = some r → Calls Try.prog fd (#[.slice A xs.length c] ++ cd) W fun e W' => e = .returned (.bool r.2) ∧ ∃ C', I W' C' r.1 ∧ (∀ k, C' k → C k ∨ W.heap.size ≤ k) ∧ Kept W W' C ∧ Below wb.heap.size wb W'
theorem kept_blk {w w' : World} {S : Nat → Prop} {g : Nat} {o : Obj} (h : w.heap[g]? = some o) (hK : Kept w w' S) (hg : ¬ S g) : w'.heap[g]? = some o := (hK.2 g (blk_lt h) hg).trans h
/-- The variables in memory of a visit. -/
structure WdS {σ : Type} (I : World → (Nat → Prop) → σ → Prop) (wb w : World) (C : Nat → Prop) (gs gd gw gg gf gn bf : Nat) (n : Int) (A : Option Addr) (c : Nat) (l : List Int) (vd : Value) (F : List Bool) (g : Bool) (u v : Value) (ws : List Int) (st : σ) : Prop where
 bel : Below wb.heap.size wb w
 b1 : w.heap[gs]? = some (.cells #[.int .i64 n, .slice A l.length c] 28 (0, 0))
 b2 : w.heap[gd]? = some (.cells #[vd] 75 (0, 0))
 b3 : w.heap[gw]? = some (.cells #[u] 22 (0, 0))
 b4 : w.heap[gg]? = some (.cells #[.bool g] 4 (0, 0))
 b5 : w.heap[gf]? = some (.cells #[.pointer (some ⟨bf, 0, none⟩)] 105 (0, 0))
 b6 : w.heap[gn]? = some (.cells #[.func (.func 111) #[] #[.pointer (some ⟨gs, 0, none⟩), .pointer (some ⟨gd, 0, none⟩), .pointer (some ⟨gw, 0, none⟩), .pointer (some ⟨gg, 0, none⟩), .pointer (some ⟨gf, 0, none⟩), .pointer (some ⟨gn, 0, none⟩)]] 114 (0, 0))
 fam : FamAt w bf F
 row : Kd.R (Kd.int .i64) 3 w wb.heap.size (fun k => ¬ C k) v ws
 n1 : ¬ C gs
 n2 : ¬ C gd
 n3 : ¬ C gw
 n4 : ¬ C gg
 n5 : ¬ C gf
 n6 : ¬ C gn
 nf : ¬ C bf
 w3 : wb.heap.size ≤ gw
 w4 : wb.heap.size ≤ gg
 inv : I w C st
section
variable {σ : Type} {I : World → (Nat → Prop) → σ → Prop} {D : σ → List Int → Option (σ × Bool)} {fd : Nat} {cd : Array Value} {wb w w' : World} {C C' S : Nat → Prop} {gs gd gw gg gf gn bf : Nat} {n : Int} {A : Option Addr} {c : Nat} {l : List Int} {vd : Value} {F : List Bool} {g : Bool} {u v : Value} {ws : List Int} {st st' : σ}
theorem WdS.move (h : WdS I wb w C gs gd gw gg gf gn bf n A c l vd F g u v ws st) (hb : Below wb.heap.size wb w') (hK : Kept w w' S) (hS : ∀ k, S k → C k) (hC' : ∀ k, C' k → C k ∨ w.heap.size ≤ k) (hi : I w' C' st') : WdS I wb w' C' gs gd gw gg gf gn bf n A c l vd F g u v ws st' := by
 have nn : ∀ {k : Nat} {o : Obj}, w.heap[k]? = some o → ¬ C k → ¬ C' k := fun hk hn hc => by
  rcases hC' _ hc with h1 | h1
  ·
   exact hn h1
  ·
   have := blk_lt hk; omega
 have kb : ∀ {k : Nat} {o : Obj}, w.heap[k]? = some o → ¬ C k → w'.heap[k]? = some o := fun hk hn => kept_blk hk hK (fun hs => hn (hS _ hs))
 have hr := Kd.R_mono (Kd.R_bound h.row) (ok' := fun k => ¬ C k ∧ k < w.heap.size) (fun k hk => ⟨hk.1, hk.2.2.1⟩)
 exact ⟨hb, kb h.b1 h.n1, kb h.b2 h.n2, kb h.b3 h.n3, kb h.b4 h.n4, kb h.b5 h.n5, kb h.b6 h.n6, ⟨h.fam.len, kb h.fam.blk h.nf⟩, Kd.R_mono (Kd.R_step hr (fun k hk hlt => hK.2 k hlt (fun hs => hk.1 (hS _ hs)))) (fun k hk hc => by
  rcases hC' _ hc with h1 | h1
  ·
   exact hk.1 h1
  ·
   have := hk.2; omega), nn h.b1 h.n1, nn h.b2 h.n2, nn h.b3 h.n3, nn h.b4 h.n4, nn h.b5 h.n5, nn h.b6 h.n6, nn h.fam.blk h.nf, h.w3, h.w4, hi⟩
theorem WdS.below (hD : CBok I D fd cd wb) (h : WdS I wb w C gs gd gw gg gf gn bf n A c l vd F g u v ws st) (hb : Below w.heap.size w w') : WdS I wb w' C gs gd gw gg gf gn bf n A c l vd F g u v ws st :=
 h.move (S := fun _ => False) (below_step h.bel hb) (Kept.of_below hb _) (fun _ hk => hk.elim) (fun _ hk => .inl hk) (hD.stay _ _ _ _ h.inv (fun k hk _ => hb.block k hk) hb.size)
theorem WdS.drewN (hD : CBok I D fd cd wb) (h : WdS I wb w C gs gd gw gg gf gn bf n A c l vd F g u v ws st) (m : Nat) : WdS I wb (w.drewN m) C gs gd gw gg gf gn bf n A c l vd F g u v ws st := h.below hD (pw_below_drewN (Below.refl _ _) m)
theorem WdS.grown (hD : CBok I D fd cd wb) (h : WdS I wb w C gs gd gw gg gf gn bf n A c l vd F g u v ws st) {v1 : Value} {ws1 : List Int} (hb : Below wb.heap.size wb w') (hg : w.grownBy w' v.ownBlock) (ho : Kd.R (Kd.int .i64) 3 w' wb.heap.size (fun k => ¬ C k) v1 ws1) : WdS I wb w' C gs gd gw gg gf gn bf n A c l vd F g u v1 ws1 st := by
 have hf : some bf ≠ v.ownBlock := Kd.R_ne h.row h.fam.blk (by decide)
 refine ⟨hb, blk_grown h.b1 hg (Kd.R_ne h.row h.b1 (by decide)), blk_grown h.b2 hg (Kd.R_ne h.row h.b2 (by decide)), blk_grown h.b3 hg (Kd.R_ne h.row h.b3 (by decide)), blk_grown h.b4 hg (Kd.R_ne h.row h.b4 (by decide)), blk_grown h.b5 hg (Kd.R_ne h.row h.b5 (by decide)), blk_grown h.b6 hg (Kd.R_ne h.row h.b6 (by decide)), ⟨h.fam.len, blk_grown h.fam.blk hg hf⟩, ho, h.n1, h.n2, h.n3, h.n4, h.n5, h.n6, h.nf, h.w3, h.w4, ?_⟩
 exact hD.stay _ _ _ _ h.inv (fun k hk hc => hg.block k hk (fun e => h.row.1 k e.symm hc)) hg.size
theorem WdS.setW (hD : CBok I D fd cd wb) (h : WdS I wb w C gs gd gw gg gf gn bf n A c l vd F g u v ws st) (x : Value) : WdS I wb (w.setCell ⟨gw, 0, none⟩ x) C gs gd gw gg gf gn bf n A c l vd F g x v ws st :=
 ⟨h.bel.setCell h.w3 _, blk_far h.b1 (p := ⟨gw, 0, none⟩) (blk_ne h.b1 h.b3 (by decide)) _, blk_far h.b2 (p := ⟨gw, 0, none⟩) (blk_ne h.b2 h.b3 (by decide)) _, blk_put h.b3 0 x rfl, blk_far h.b4 (p := ⟨gw, 0, none⟩) (blk_ne h.b4 h.b3 (by decide)) _, blk_far h.b5 (p := ⟨gw, 0, none⟩) (blk_ne h.b5 h.b3 (by decide)) _, blk_far h.b6 (p := ⟨gw, 0, none⟩) (blk_ne h.b6 h.b3 (by decide)) _, h.fam.far (p := ⟨gw, 0, none⟩) (blk_ne h.fam.blk h.b3 (by decide)) _, Kd.R_set h.row h.b3 (by decide) 0 x, h.n1, h.n2, h.n3, h.n4, h.n5, h.n6, h.nf, h.w3, h.w4,
  hD.stay _ _ _ _ h.inv (fun k hk hc => Below.heap_setCell w ⟨gw, 0, none⟩ x k (fun e => h.n3 (show C gw from (show k = gw from e) ▸ hc))) (by rw [World.size_setCell]; exact Nat.le_refl _)⟩
theorem WdS.setG (hD : CBok I D fd cd wb) (h : WdS I wb w C gs gd gw gg gf gn bf n A c l vd F g u v ws st) (x : Bool) : WdS I wb (w.setCell ⟨gg, 0, none⟩ (.bool x)) C gs gd gw gg gf gn bf n A c l vd F x u v ws st :=
 ⟨h.bel.setCell h.w4 _, blk_far h.b1 (p := ⟨gg, 0, none⟩) (blk_ne h.b1 h.b4 (by decide)) _, blk_far h.b2 (p := ⟨gg, 0, none⟩) (blk_ne h.b2 h.b4 (by decide)) _, blk_far h.b3 (p := ⟨gg, 0, none⟩) (blk_ne h.b3 h.b4 (by decide)) _, blk_put h.b4 0 (.bool x) rfl, blk_far h.b5 (p := ⟨gg, 0, none⟩) (blk_ne h.b5 h.b4 (by decide)) _, blk_far h.b6 (p := ⟨gg, 0, none⟩) (blk_ne h.b6 h.b4 (by decide)) _, h.fam.far (p := ⟨gg, 0, none⟩) (blk_ne h.fam.blk h.b4 (by decide)) _, Kd.R_set h.row h.b4 (by decide) 0 (.bool x), h.n1, h.n2, h.n3, h.n4, h.n5, h.n6, h.nf, h.w3, h.w4,
  hD.stay _ _ _ _ h.inv (fun k hk hc => Below.heap_setCell w ⟨gg, 0, none⟩ (.bool x) k (fun e => h.n4 (show C gg from (show k = gg from e) ▸ hc))) (by rw [World.size_setCell]; exact Nat.le_refl _)⟩
theorem WdS.take (h : WdS I wb w C gs gd gw gg gf gn bf n A c l vd F g u v ws st) {v1 : Value} {ws1 : List Int} (ho : Kd.R (Kd.int .i64) 3 w wb.heap.size (fun k => ¬ C k) v1 ws1) : WdS I wb w C gs gd gw gg gf gn bf n A c l vd F g u v1 ws1 st :=
 ⟨h.bel, h.b1, h.b2, h.b3, h.b4, h.b5, h.b6, h.fam, ho, h.n1, h.n2, h.n3, h.n4, h.n5, h.n6, h.nf, h.w3, h.w4, h.inv⟩
end
set_option maxHeartbeats 4000000 in
set_option maxRecDepth 100000 in
theorem impl_Space_words_1.calls {σ : Type} (I : World → (Nat → Prop) → σ → Prop) (D : σ → List Int → Option (σ × Bool)) (fd : Nat) (cd : Array Value) (wb : World) (hD : CBok I D fd cd wb) (gs gd gw gg gf gn bf : Nat) (n : Int) (A : Option Addr) (c : Nat) (l : List Int) (F : List Bool) (all : Int) (hl : Kd.C (Kd.int .i64) wb A l.length l) (hc : l.length ≤ c) (hall : impl_Space_all.f n l = some all) :
  ∀ (k : Nat) (st : σ) (g : Bool) (ws : List Int) (set : Int) (r : σ × Bool) (C : Nat → Prop) (v : Value) (w : World) (hS : WdS I wb w C gs gd gw gg gf gn bf n A c l (.func (.func fd) #[] cd) F g v v ws st) (h : wordsW all F D k st g ws set = some r),
  Calls Try.prog 111 #[.int .i64 set, .pointer (some ⟨gs, 0, none⟩), .pointer (some ⟨gd, 0, none⟩), .pointer (some ⟨gw, 0, none⟩), .pointer (some ⟨gg, 0, none⟩), .pointer (some ⟨gf, 0, none⟩), .pointer (some ⟨gn, 0, none⟩)] w fun e w' => e = .returned (.tuple #[]) ∧ ∃ (C' : Nat → Prop) (v' : Value), WdS I wb w' C' gs gd gw gg gf gn bf n A c l (.func (.func fd) #[] cd) F r.2 v' v' ws r.1 ∧ Kept w w' (fun k => C k ∨ k = gw ∨ k = gg ∨ some k = v.ownBlock) ∧ (∀ k, C' k → C k ∨ w.heap.size ≤ k) ∧ (v'.ownBlock = v.ownBlock ∨ ∃ b, v'.ownBlock = some b ∧ w.heap.size ≤ b) := by
 have hu := Try.underlying28
 have HL := asd hl
 have HC := asd hc
 have HAL := asd hall
 have HD := asd hD
 have eg := hD.enter
 clear hl hc hall hD
 intro k
 induction k with
 | zero =>
  intro st g ws set r C v w hS h
  cases h
 | succ k ih =>
  intro st g ws set r C v w hS h
  have IH := asd ih
  have HS := asd hS
  obtain ⟨Av, cv, rfl⟩ := Kd.R_slice hS.row
  have q1 : w.cell? ⟨gs, 0, none⟩ = some (.int .i64 n) := (blk_cell hS.b1 0).trans rfl
  have q2 : w.cell? ⟨gs, 1, none⟩ = some (.slice A l.length c) := (blk_cell hS.b1 1).trans rfl
  clear ih hS
  unfold wordsW at h
  by_cases c1 : set = all
  ·
   rw [if_pos c1] at h
   have H := asd h
   have c1b : (set == all) = true := beq_iff_eq.mpr c1
   clear h c1
   go_enter Try.func111, Try.ntmps111
   go_wp2_with (first | (go_at_call 103; (with_reducible refine (impl_Space_all.calls n _ _ l all _ ?sa ?sb HAL.out).mono ?_); (case sa => exact Kd.C_below HL.out HS.out.bel); (case sb => exact HC.out); rintro e W3 ⟨rfl, hb3⟩; have HS3 := asd (HS.out.below HD.out hb3); have HB3 := asd hb3; have q4 : W3.cell? ⟨gd, 0, none⟩ = some (.func (.func fd) #[] cd) := (blk_cell HS3.out.b2 0).trans rfl; have q5 : W3.cell? ⟨gw, 0, none⟩ = some (.slice Av ws.length cv) := (blk_cell HS3.out.b3 0).trans rfl; clear q1 q2 hb3) | (go_at_fn fd; refine (HD.out.run _ C st Av cv ws r HS3.out.inv HS3.out.bel (Kd.R_reads' HS3.out.row).2.2 (Kd.R_reads' HS3.out.row).2.1 H.out).mono ?_; rintro e W4 ⟨rfl, C', hi, hC', hK, hB4⟩; have HS4 := asd (HS3.out.move hB4 hK (fun _ hk => hk) hC' hi); have HK4 := asd hK; have HC4 := asd hC'; have q6 : W4.cell? ⟨gg, 0, none⟩ = some (.bool g) := (blk_cell HS4.out.b4 0).trans rfl; have f6 := blk_frozen HS4.out.b4 0; clear hi hK hC' hB4))
   ((try simp only [Exit.inBlock, Exit.then]); first | refine bodyPost_ret (results_none rfl _ _ _) rfl ?_ | refine bodyPost_end (results_none rfl _ _ _) rfl ?_)
   refine ⟨rfl, C', _, HS4.out.setG HD.out r.2, ?_, fun k hk => ?_, .inl rfl⟩
   ·
    exact (((Kept.of_below HB3.out (fun k => C k ∨ k = gw ∨ k = gg ∨ some k = (Value.slice Av ws.length cv).ownBlock)).then_ HK4.out (fun _ hk => .inl (.inl hk))).setCell (p := ⟨gg, 0, none⟩) (.inl (.inr (.inr (.inl rfl)))) _)
   ·
    rcases HC4.out k hk with h1 | h1
    ·
     exact .inl h1
    ·
     exact .inr (Nat.le_trans HB3.out.size h1)
  ·
   rw [if_neg c1] at h
   obtain ⟨m, hm, h⟩ := Option.bind_eq_some_iff.1 h
   obtain ⟨L, hL, h⟩ := Option.bind_eq_some_iff.1 h
   have H' := asd h
   have HM := asd hm
   have HI := asd hL
   have c1b : (set == all) = false := beq_eq_false_iff_ne.mpr c1
   clear h c1 hm hL
   go_enter Try.func111, Try.ntmps111
   go_wp2_with (first | (go_at_call 103; (with_reducible refine (impl_Space_all.calls n _ _ l all _ ?sa ?sb HAL.out).mono ?_); (case sa => exact Kd.C_below HL.out HS.out.bel); (case sb => exact HC.out); rintro e W3 ⟨rfl, hb3⟩; have HS3 := asd (HS.out.below HD.out hb3); have HB3 := asd hb3; have q4 : W3.cell? ⟨gf, 0, none⟩ = some (.pointer (some ⟨bf, 0, none⟩)) := (blk_cell HS3.out.b5 0).trans rfl; clear q1 q2 hb3) | (go_at_call 110; (with_reducible refine (impl_family_outer.calls (some ⟨bf, 0, none⟩) 128 F set m _ ?sc ?sd HM.out).mono ?_); (case sc => exact (Kd.R_reads' (HS3.out.fam.own (Nat.zero_le _))).2.2); (case sd => exact (Kd.R_reads' (HS3.out.fam.own (Nat.zero_le _))).2.1); rintro e W4 ⟨rfl, ⟨nd, rfl⟩⟩; have HS4 := asd (HS3.out.drewN HD.out nd); have HB4 : Aside0 (Below w.heap.size w (World.drewN W3 nd)) := ⟨pw_below_drewN HB3.out nd⟩; generalize World.drewN W3 nd = W4 at *; clear q4) | (go_at_call 109; (with_reducible refine (impl_items.calls k m L _ HI.out).mono ?_); rintro e W5 ⟨vI, rfl, hR, hb5⟩; have HS5 := asd (HS4.out.below HD.out hb5); have HB5 := asd (below_step HB4.out hb5); obtain ⟨AI, cI, rfl⟩ := Kd.R_slice hR; have HIT := asd (Kd.R_tight rfl hR); have HIB := asd (Kd.R_base hR); clear hR hb5))
   have HNI : Aside0 (∀ k, some k = (Value.slice AI L.length cI).ownBlock → ¬ (C k ∨ k = gw ∨ k = gg ∨ some k = (Value.slice Av ws.length cv).ownBlock)) := ⟨fun k hk hh => by
    have h1 := HIB.out k hk.symm
    rcases hh with hh | hh | hh | hh
    ·
     have := HD.out.bound _ _ _ HS4.out.inv k hh; omega
    ·
     have := blk_lt HS4.out.b3; omega
    ·
     have := blk_lt HS4.out.b4; omega
    ·
     have := Kd.R_lt HS4.out.row k hh.symm; omega⟩
   clear HS3 HB3 HS4 HB4 HIB
   go_loopg [22] L.length (fun kq v22 wr => ∃ (j : Nat) (g1 : Bool) (st1 : σ) (C1 : Nat → Prop) (v1 : Value), v22 = .int .i64 j ∧ Aside0 (j ≤ L.length ∧ L.length - j ≤ kq) ∧ Aside0 (loopF (fun st g ws set => wordsW all F D k st g ws set) ws set (L.drop j) st1 g1 = some r) ∧ Aside0 (WdS I wb wr C1 gs gd gw gg gf gn bf n A c l (.func (.func fd) #[] cd) F g1 v1 v1 ws st1) ∧ Aside0 (Kept W5 wr (fun k => C k ∨ k = gw ∨ k = gg ∨ some k = (Value.slice Av ws.length cv).ownBlock)) ∧ Aside0 (∀ k, C1 k → C k ∨ W5.heap.size ≤ k) ∧ Aside0 (v1.ownBlock = (Value.slice Av ws.length cv).ownBlock ∨ ∃ b, v1.ownBlock = some b ∧ W5.heap.size ≤ b))
   case atStart => exact ⟨0, g, st, C, _, rfl, ⟨Nat.zero_le _, Nat.le_refl _⟩, ⟨H'.out⟩, HS5, ⟨Kept.refl _ _⟩, ⟨fun k hk => .inl hk⟩, ⟨.inl rfl⟩⟩
   case round =>
    clear H' HS5 HS
    obtain ⟨j, g1, st1, C1, v1, rfl, hj, HA, HS, HK, HC1, HV⟩ := hrel
    obtain ⟨hjl, hgg⟩ := hj.out
    clear hj
    obtain ⟨A1, cc1, rfl⟩ := Kd.R_slice HS.out.row
    have HIR := asd (Kd.R_reads' (Kd.R_step HIT.out (fun k hk hlt => HK.out.2 k hlt (HNI.out k hk)))).2.2
    have hmx := Kd.C_max HIR.out
    by_cases hlt : j < L.length
    ·
     have hltz : (j : Int) < (L.length : Int) := by omega
     have H := HA.out
     clear HA
     rw [List.drop_eq_getElem_cons hlt, ← rd_get hlt] at H
     obtain ⟨ad, e, hcx⟩ := Kd.at_int HIR.out (j : Int) (by omega) hltz
     cases e
     rw [Int.toNat_natCast] at hcx
     generalize rd L (j : Int) = x at *
     unfold loopF at H
     have q4 : wr.cell? ⟨gg, 0, none⟩ = some (.bool g1) := (blk_cell HS.out.b4 0).trans rfl
     cases g1 with
     | false =>
      rw [if_neg (by decide)] at H
      obtain rfl := Option.some.inj H
      clear H
      go_wp2
      ((try simp only [Exit.inBlock, Exit.then]); first | refine bodyPost_ret (results_none rfl _ _ _) rfl ?_ | refine bodyPost_end (results_none rfl _ _ _) rfl ?_)
      refine ⟨rfl, C1, _, HS.out, (Kept.of_below HB5.out _).then_ HK.out (fun _ hk => .inl hk), fun k hk => ?_, ?_⟩
      ·
       rcases HC1.out k hk with h1 | h1
       ·
        exact .inl h1
       ·
        exact .inr (Nat.le_trans HB5.out.size h1)
      ·
       rcases HV.out with h1 | ⟨b, h1, h2⟩
       ·
        exact .inl h1
       ·
        exact .inr ⟨b, h1, Nat.le_trans HB5.out.size h2⟩
     | true =>
      rw [if_pos rfl] at H
      by_cases hx : 0 ≤ x ∧ ws.length < 17592186044416
      ·
       rw [if_pos hx] at H
       obtain ⟨hx0, hwl⟩ := hx
       obtain ⟨r1, hrec, H⟩ := Option.bind_eq_some_iff.1 H
       have HREC := asd hrec
       have HH := asd H
       have HWL := asd hwl
       have hx0b : decide (0 ≤ x) = true := decide_eq_true hx0
       obtain ⟨ws2, hws2⟩ : ∃ y, y = ws ++ [x] := ⟨_, rfl⟩
       have HN : Aside0 (ws2.length = ws.length + 1) := ⟨by rw [hws2, List.length_append, List.length_singleton]⟩
       have HTK : Aside0 (ws2.take ws.length = ws) := ⟨by rw [hws2, List.take_left' rfl]⟩
       have HW2 := asd hws2
       obtain ⟨sx, hsx⟩ : ∃ y, y = shl .i64 1 x := ⟨_, rfl⟩
       have sA : IntKind.i64.wrap (1 * 2 ^ min x.toNat 64) = sx := hsx.symm
       have sB : IntKind.i64.wrap (2 ^ min x.toNat 64) = sx := by rw [← sA, Int.one_mul]
       have sC : wrap64 (1 * 2 ^ min x.toNat 64) = sx := (i64_w _).symm.trans sA
       have sD : wrap64 (2 ^ min x.toNat 64) = sx := (i64_w _).symm.trans sB
       have HREC : Aside0 (wordsW all F D k st1 true ws2 (Go.bits .or .i64 set sx) = some r1) := ⟨by rw [HW2.out, hsx]; exact HREC.out⟩
       clear hsx
       clear H hrec hwl hws2
       have q5 : wr.cell? ⟨gw, 0, none⟩ = some (.slice A1 ws.length cc1) := (blk_cell HS.out.b3 0).trans rfl
       have f5 := blk_frozen HS.out.b3 0
       go_wp2_with (first | ((with_reducible refine gate_builtin (b := .append) (xs := #[.tmp 28, .tmp 30]) rfl ?_); at_builtin; refine Kd.R_append (Kd.int .i64) (w0 := wb) wb.heap.size rfl (.tmp 28) (.tmp 30) 22 3 (.int .i64 0) 8 rfl Try.underlying22 info3 rfl (by decide) (by omega) (.slice A1 ws.length cc1) ws x [.int .i64 x] (fun k => ¬ C1 k) (fun _ => False) rfl rfl ?aP (fun _ hk => hk.elim) ?aF ?aO ?aB ?aS ?aL ?_; (case aP => exact rfl); (case aB => exact below_step HS.out.bel (by repeat (first | exact Below.refl _ _ | apply below_alloc | apply pw_below_drewN | apply below_drew1))); (case aF => exact (fun k hk hc => by have h1 := HD.out.bound _ _ _ HS.out.inv k hc; have h2 : wr.heap.size ≤ _ := (show Below wr.heap.size wr _ from by repeat (first | exact Below.refl _ _ | apply below_alloc | apply pw_below_drewN | apply below_drew1)).size; exact absurd (Nat.lt_of_lt_of_le h1 (Nat.le_trans h2 hk)) (Nat.lt_irrefl _))); (case aO => exact (upR <| HS.out.row)); (case aS => exact below_size (below_step HS.out.bel (by repeat (first | exact Below.refl _ _ | apply below_alloc | apply pw_below_drewN | apply below_drew1)))); (case aL => have := HWL.out; omega); intro v2 w12 ho hb hg hat; rw [← HW2.out] at ho; obtain ⟨A2, cc2, e2⟩ := Kd.R_slice ho; subst e2; have HB6 := asd (show Below wr.heap.size wr _ from by repeat (first | exact Below.refl _ _ | apply below_alloc | apply pw_below_drewN | apply below_drew1)); have HS2 := asd ((HS.out.below HD.out HB6.out).grown HD.out hb hg ho); have HG := asd hg; have HAT := asd hat; clear q5 f5 q4; have q5 : w12.cell? ⟨gw, 0, none⟩ = some (.slice A1 ws.length cc1) := (blk_cell HS2.out.b3 0).trans rfl; have f5 := blk_frozen HS2.out.b3 0; clear ho hb hg hat))
       have HS3 := asd (HS2.out.setW HD.out (.slice A2 ws2.length cc2))
       have HK6 := asd ((Kept.of_grown HG.out (Kept.of_below HB6.out (fun k => C1 k ∨ k = gw ∨ k = gg ∨ some k = (Value.slice A1 ws.length cc1).ownBlock)) (fun k hk => .inl (.inr (.inr (.inr hk.symm))))).setCell (p := ⟨gw, 0, none⟩) (.inl (.inr (.inl rfl))) (.slice A2 ws2.length cc2))
       have HAT : Aside0 ((Value.slice A2 ws2.length cc2).ownBlock = (Value.slice A1 ws.length cc1).ownBlock ∨ ∃ b, (Value.slice A2 ws2.length cc2).ownBlock = some b ∧ wr.heap.size ≤ b) := ⟨HAT.out.imp id (fun ⟨b, h1, h2⟩ => ⟨b, h1, Nat.le_trans HB6.out.size h2⟩)⟩
       clear HS2 HG HB6 q5 f5
       generalize World.setCell w12 ⟨gw, 0, none⟩ (.slice A2 ws2.length cc2) = W13 at *
       have q6 : W13.cell? ⟨gn, 0, none⟩ = some (.func (.func 111) #[] #[.pointer (some ⟨gs, 0, none⟩), .pointer (some ⟨gd, 0, none⟩), .pointer (some ⟨gw, 0, none⟩), .pointer (some ⟨gg, 0, none⟩), .pointer (some ⟨gf, 0, none⟩), .pointer (some ⟨gn, 0, none⟩)]) := (blk_cell HS3.out.b6 0).trans rfl
       go_still_tail 5, (by kernel_rfl)
       change wpList _ _ _ _ _ W13.drew
       have HS4 : Aside0 (WdS I wb W13.drew C1 gs gd gw gg gf gn bf n A c l (.func (.func fd) #[] cd) F true (.slice A2 ws2.length cc2) (.slice A2 ws2.length cc2) ws2 st1) := ⟨HS3.out.below HD.out (below_drew (Below.refl _ _))⟩
       have HK7 : Aside0 (Kept wr W13.drew (fun k => C1 k ∨ k = gw ∨ k = gg ∨ some k = (Value.slice A1 ws.length cc1).ownBlock)) := ⟨HK6.out.drew⟩
       clear HS3 HK6
       generalize World.drew W13 = W14 at *
       go_wp2_with (go_at_call 111; (refine (IH.out st1 true ws2 _ r1 C1 _ _ HS4.out HREC.out).mono ?_); rintro e W15 ⟨rfl, C2, v3, hS5, hK5, hC5, hv5⟩; obtain ⟨A3, cc3, e3⟩ := Kd.R_slice hS5.row; subst e3; have HS5 := asd hS5; have HK5 := asd hK5; have HC5 := asd hC5; have HV5 := asd hv5; have q7 : W15.cell? ⟨gw, 0, none⟩ = some (.slice A3 ws2.length cc3) := (blk_cell hS5.b3 0).trans rfl; have f7 := blk_frozen hS5.b3 0; have hJ : IntKind.i64.wrap ((ws2.length : Int) - 1) = (ws.length : Int) := (i64_w _).trans (by rw [wrap_in (by have := HN.out; have := HWL.out; omega) (by have := HN.out; have := HWL.out; omega)]; have := HN.out; omega); obtain ⟨i0, hi0, _, hsz, _⟩ := info_parts info3; have hcut := cut_to (P := Try.prog) 22 3 .i64 Try.underlying22 hi0 A3 ws2.length cc3 (ws.length : Int) (by omega) (by have := HN.out; omega) (Kd.R_reads' hS5.row).2.1; rw [Int.toNat_natCast] at hcut; clear hS5 hK5 hC5 hv5 hi0 hsz)
       go_roundg (L.length - (j + 1))
       case measure => omega
       case rel =>
        have hrow := Kd.R_take (m := ws.length) HS5.out.row (by have := HN.out; omega)
        rw [HTK.out] at hrow
        refine ⟨j + 1, r1.2, r1.1, C2, .slice A3 ws.length cc3, by go_num, ⟨by omega, Nat.le_refl _⟩, ⟨HH.out⟩, ⟨(HS5.out.take hrow).setW HD.out _⟩, ⟨?_⟩, ⟨fun k hk => ?_⟩, ⟨?_⟩⟩
        ·
         refine HK.out.then_ (((HK7.out.then_ HK5.out (fun k hk => ?_)).setCell (p := ⟨gw, 0, none⟩) (.inl (.inr (.inl rfl))) _)) (fun k hk => ?_)
         ·
          rcases hk with hk | hk | hk | hk
          ·
           exact .inl (.inl hk)
          ·
           exact .inl (.inr (.inl hk))
          ·
           exact .inl (.inr (.inr (.inl hk)))
          ·
           rcases HAT.out with h1 | ⟨b, h1, h2⟩
           ·
            exact .inl (.inr (.inr (.inr (hk.trans h1))))
           ·
            rw [h1] at hk
            obtain rfl := Option.some.inj hk
            exact .inr h2
         ·
          rcases hk with hk | hk | hk | hk
          ·
           rcases HC1.out k hk with h1 | h1
           ·
            exact .inl (.inl h1)
           ·
            exact .inr h1
          ·
           exact .inl (.inr (.inl hk))
          ·
           exact .inl (.inr (.inr (.inl hk)))
          ·
           rcases HV.out with h1 | ⟨b, h1, h2⟩
           ·
            exact .inl (.inr (.inr (.inr (hk.trans h1))))
           ·
            rw [h1] at hk
            obtain rfl := Option.some.inj hk
            exact .inr h2
        ·
         rcases HC5.out k hk with h1 | h1
         ·
          exact HC1.out k h1
         ·
          exact .inr (Nat.le_trans HK.out.1 (Nat.le_trans HK7.out.1 h1))
        ·
         have hown : (Value.slice A3 ws.length cc3).ownBlock = (Value.slice A3 ws2.length cc3).ownBlock := by cases A3 <;> rfl
         rw [hown]
         rcases HV5.out with h1 | ⟨b, h1, h2⟩
         ·
          rw [h1]
          rcases HAT.out with h3 | ⟨b, h3, h4⟩
          ·
           rw [h3]
           exact HV.out
          ·
           exact .inr ⟨b, h3, Nat.le_trans HK.out.1 h4⟩
         ·
          exact .inr ⟨b, h1, Nat.le_trans HK.out.1 (Nat.le_trans HK7.out.1 h2)⟩
      ·
       rw [if_neg hx] at H
       cases H
    ·
     obtain rfl : j = L.length := by omega
     have hltz : ¬ (L.length : Int) < (L.length : Int) := by omega
     have H := HA.out
     clear HA
     rw [List.drop_of_length_le (Nat.le_refl _)] at H
     unfold loopF at H
     obtain rfl := Option.some.inj H
     clear H
     go_wp2
     ((try simp only [Exit.inBlock, Exit.then]); first | refine bodyPost_ret (results_none rfl _ _ _) rfl ?_ | refine bodyPost_end (results_none rfl _ _ _) rfl ?_)
     refine ⟨rfl, C1, _, HS.out, (Kept.of_below HB5.out _).then_ HK.out (fun _ hk => .inl hk), fun k hk => ?_, ?_⟩
     ·
      rcases HC1.out k hk with h1 | h1
      ·
       exact .inl h1
      ·
       exact .inr (Nat.le_trans HB5.out.size h1)
     ·
      rcases HV.out with h1 | ⟨b, h1, h2⟩
      ·
       exact .inl h1
      ·
       exact .inr ⟨b, h1, Nat.le_trans HB5.out.size h2⟩

/-! ### impl_Space_setOf: function 112 -/
def impl_Space_setOf.l0 : Nat → List Bool → Int → List Int → Int → Int → Int → List Int → Option (Int × Bool)
 | 0, _, _, _, _, _, _, _ => none
 | k + 1, x6, x7, x12, x13, x14, x102000, x102001 => if x14 < x13 then (if 0 ≤ x14 then (if x14 < (x12.length : Int) then ((impl_within.f (rd x12 x14) 0 (wrap64 (x102000 - 1))).bind fun t106 => (if t106 = true then (if 0 ≤ (rd x12 x14) then (if (Go.bits .and .i64 (shr .i64 x7 (rd x12 x14)) 1) = 1 then (some (0, false)) else (if 0 ≤ (Go.bits .or .i64 x7 (shl .i64 1 (rd x12 x14))) then (if (Go.bits .or .i64 x7 (shl .i64 1 (rd x12 x14))) < 128 then (if (rdOf false x6 (Go.bits .or .i64 x7 (shl .i64 1 (rd x12 x14))) = true) then (impl_Space_setOf.l0 k x6 (Go.bits .or .i64 x7 (shl .i64 1 (rd x12 x14))) x12 x13 (wrap64 (x14 + 1)) x102000 x102001) else (some (0, false))) else (none)) else (none))) else (none)) else (some (0, false)))) else (none)) else (none)) else (some (x7, true))
def impl_Space_setOf.f (k : Nat) (a0_0 : Int) (l0_1 : List Int) (l1 : List Int) : Option (Int × Bool) := (impl_Space_family.f a0_0 l0_1).bind fun t102 => (impl_Space_setOf.l0 k t102 0 l1 (l1.length : Int) 0 a0_0 l0_1)
theorem impl_Space_setOf.mono_l : ∀ k, (∀ y0 y1 y2 y3 y4 y5 y6, LeO (impl_Space_setOf.l0 k y0 y1 y2 y3 y4 y5 y6) (impl_Space_setOf.l0 (k + 1) y0 y1 y2 y3 y4 y5 y6))
 | 0 => fun _ _ _ _ _ _ _ r h => by simp [impl_Space_setOf.l0] at h
 | k + 1 => by
  have ih0 := impl_Space_setOf.mono_l k
  ·
   intro y0 y1 y2 y3 y4 y5 y6
   unfold impl_Space_setOf.l0
   repeat' first
   | (with_reducible exact ih0 _ _ _ _ _ _ _)
   | (with_reducible exact LeO.refl _)
   | (with_reducible exact LeO.none _)
   | (with_reducible refine LeO.ite ?_ ?_)
   | (with_reducible refine LeO.bind ?_ (fun _ => ?_))
   | exact ih0 _ _ _ _ _ _ _
   | exact LeO.none _
   | refine LeO.ite ?_ ?_
   | refine LeO.bind ?_ (fun _ => ?_)
theorem impl_Space_setOf.mono : ∀ a0 a1 a2 k, LeO (impl_Space_setOf.f k a0 a1 a2) (impl_Space_setOf.f (k + 1) a0 a1 a2) := by
 intro a0 a1 a2 k
 have ih0 := impl_Space_setOf.mono_l k
 unfold impl_Space_setOf.f
 repeat' first
   | (with_reducible exact ih0 _ _ _ _ _ _ _)
   | (with_reducible exact LeO.refl _)
   | (with_reducible exact LeO.none _)
   | (with_reducible refine LeO.ite ?_ ?_)
   | (with_reducible refine LeO.bind ?_ (fun _ => ?_))
   | exact ih0 _ _ _ _ _ _ _
   | exact LeO.none _
   | refine LeO.ite ?_ ?_
   | refine LeO.bind ?_ (fun _ => ?_)
set_option maxHeartbeats 8000000 in
set_option maxRecDepth 100000 in
theorem impl_Space_setOf.calls (k : Nat) (a0_0 : Int) (A0_1 : Option Addr) (c0_1 : Nat) (l0_1 : List Int) (A1 : Option Addr) (c1 : Nat) (l1 : List Int) (r1 : Int) (r2 : Bool) (w : World) (hr0_1 : Kd.C (Kd.int .i64) w A0_1 l0_1.length l0_1) (hc0_1 : l0_1.length ≤ c0_1) (hr1 : Kd.C (Kd.int .i64) w A1 l1.length l1) (hc1 : l1.length ≤ c1) (h : impl_Space_setOf.f k a0_0 l0_1 l1 = some (r1, r2)) :
  Calls Try.prog 112 #[.agg #[.int .i64 a0_0, .slice A0_1 l0_1.length c0_1], .slice A1 l1.length c1] w fun e w' => e = .returned (.tuple #[.int .i64 r1, .bool r2]) ∧ Below w.heap.size w w' := by
 have hu28 := Try.underlying28
 have HR0_1 := asd hr0_1
 have HC0_1 := asd hc0_1
 clear hr0_1 hc0_1
 have HR1 := asd hr1
 have HC1 := asd hc1
 clear hr1 hc1
 have HB := asd (Below.refl w.heap.size w)
 have H : ((impl_Space_family.f a0_0 l0_1).bind fun t102 => (impl_Space_setOf.l0 k t102 0 l1 (l1.length : Int) 0 a0_0 l0_1)) = some (r1, r2) := h
 clear h
 replace H := Option.bind_eq_some_iff.mp H
 obtain ⟨t102, A30, H⟩ := H
 replace H : (impl_Space_setOf.l0 k t102 0 l1 (l1.length : Int) 0 a0_0 l0_1) = some (r1, r2) := H
 have A3 := asd A30
 clear A30
 have HLt102 := asd (impl_Space_family.len A3.out)
 have H' := asd H
 clear H
 go_enter Try.func112, Try.ntmps112
 go_wp2_with (first | ((with_reducible refine gate_dst (N := 2) rfl ?_); refine box_event ?hg (N := 2) ?hd (cs := #[.int .i64 a0_0, .slice A0_1 l0_1.length c0_1]) (t := 28) ?hr ?_; (case hd => rfl); (case hg => rfl); (case hr => first | (go_simp; done) | (go_simp; rfl)); intro gb101 hg w4 hbox hb; have n0_ := asd (below_step (by repeat (first | (with_reducible first | exact HB.out | apply below_alloc | apply pw_below_drewN | apply below_drew1) | exact HB.out)) hb); have n1_ := asd (hbox); have n2_ := asd ((by rw [hg]; exact (below_size (by repeat (first | (with_reducible first | exact HB.out | apply below_alloc | apply pw_below_drewN | apply below_drew1) | exact HB.out))) : w.heap.size ≤ gb101)); have n3_ := asd ((by rw [hg]; exact (below_size (by repeat (first | (with_reducible first | exact HB.out | apply below_alloc | apply pw_below_drewN | apply below_drew1) | exact HB.out))) : w.heap.size ≤ gb101)); clear HB; have HB := n0_; have BK101 := n1_; have GW101 := n2_; have GE101 := n3_; clear n0_ n1_ n2_ n3_; clear hb hbox hg; have hcz5_0 : w4.cell? ⟨gb101, 0, none⟩ = some (.int .i64 a0_0) := (blk_cell BK101.out 0).trans rfl; have hcz5_1 : w4.cell? ⟨gb101, 1, none⟩ = some (.slice A0_1 l0_1.length c0_1) := (blk_cell BK101.out 1).trans rfl; have hfz5_0 := blk_frozen BK101.out 0; have hfz5_1 := blk_frozen BK101.out 1) | (go_at_call 102; (with_reducible refine (impl_Space_family.calls a0_0 _ _ l0_1 t102 _ ?side1 ?side2 A3.out).mono ?_); (case side1 => repeat (first | exact (Kd.C_below HR0_1.out HB.out) | (with_reducible refine Kd.C_alloc ?_ _) | (with_reducible refine Kd.C_drewN ?_ _) | (with_reducible refine Kd.C_drew ?_))); (case side2 => exact HC0_1.out); rintro e w6 ⟨v103, rfl, ho0, hb⟩; have n0_ := asd (Kd.R_lower ho0 (below_size (by repeat (first | (with_reducible first | exact HB.out | apply below_alloc | apply pw_below_drewN | apply below_drew1 | refine below_set ?_ GE101.out) | exact HB.out)))); have n1_ := asd (blk_below (upB BK101.out) hb); have n2_ := asd (below_step (by repeat (first | (with_reducible first | exact HB.out | apply below_alloc | apply pw_below_drewN | apply below_drew1 | refine below_set ?_ GE101.out) | exact HB.out)) hb); clear BK101; clear HB; have HO104 := n0_; have BK101 := n1_; have HB := n2_; clear n0_ n1_ n2_; (try clear hb); (try clear hb2); (try clear hk); (try clear hi); (try clear ho0)))
 repeat (go_quiet (first | ((with_reducible refine gate_dst (N := 2) rfl ?_); refine box_event ?hg (N := 2) ?hd (cs := #[.int .i64 a0_0, .slice A0_1 l0_1.length c0_1]) (t := 28) ?hr ?_; (case hd => rfl); (case hg => rfl); (case hr => first | (go_simp; done) | (go_simp; rfl)); intro gb101 hg w4 hbox hb; have n0_ := asd (below_step (by repeat (first | (with_reducible first | exact HB.out | apply below_alloc | apply pw_below_drewN | apply below_drew1) | exact HB.out)) hb); have n1_ := asd (hbox); have n2_ := asd ((by rw [hg]; exact (below_size (by repeat (first | (with_reducible first | exact HB.out | apply below_alloc | apply pw_below_drewN | apply below_drew1) | exact HB.out))) : w.heap.size ≤ gb101)); have n3_ := asd ((by rw [hg]; exact (below_size (by repeat (first | (with_reducible first | exact HB.out | apply below_alloc | apply pw_below_drewN | apply below_drew1) | exact HB.out))) : w.heap.size ≤ gb101)); clear HB; have HB := n0_; have BK101 := n1_; have GW101 := n2_; have GE101 := n3_; clear n0_ n1_ n2_ n3_; clear hb hbox hg; have hcz5_0 : w4.cell? ⟨gb101, 0, none⟩ = some (.int .i64 a0_0) := (blk_cell BK101.out 0).trans rfl; have hcz5_1 : w4.cell? ⟨gb101, 1, none⟩ = some (.slice A0_1 l0_1.length c0_1) := (blk_cell BK101.out 1).trans rfl; have hfz5_0 := blk_frozen BK101.out 0; have hfz5_1 := blk_frozen BK101.out 1) | (go_at_call 102; (with_reducible refine (impl_Space_family.calls a0_0 _ _ l0_1 t102 _ ?side1 ?side2 A3.out).mono ?_); (case side1 => repeat (first | exact (Kd.C_below HR0_1.out HB.out) | (with_reducible refine Kd.C_alloc ?_ _) | (with_reducible refine Kd.C_drewN ?_ _) | (with_reducible refine Kd.C_drew ?_))); (case side2 => exact HC0_1.out); rintro e w6 ⟨v103, rfl, ho0, hb⟩; have n0_ := asd (Kd.R_lower ho0 (below_size (by repeat (first | (with_reducible first | exact HB.out | apply below_alloc | apply pw_below_drewN | apply below_drew1 | refine below_set ?_ GE101.out) | exact HB.out)))); have n1_ := asd (blk_below (upB BK101.out) hb); have n2_ := asd (below_step (by repeat (first | (with_reducible first | exact HB.out | apply below_alloc | apply pw_below_drewN | apply below_drew1 | refine below_set ?_ GE101.out) | exact HB.out)) hb); clear BK101; clear HB; have HO104 := n0_; have BK101 := n1_; have HB := n2_; clear n0_ n1_ n2_; (try clear hb); (try clear hb2); (try clear hk); (try clear hi); (try clear ho0))); try go_wp2_with (first | ((with_reducible refine gate_dst (N := 2) rfl ?_); refine box_event ?hg (N := 2) ?hd (cs := #[.int .i64 a0_0, .slice A0_1 l0_1.length c0_1]) (t := 28) ?hr ?_; (case hd => rfl); (case hg => rfl); (case hr => first | (go_simp; done) | (go_simp; rfl)); intro gb101 hg w4 hbox hb; have n0_ := asd (below_step (by repeat (first | (with_reducible first | exact HB.out | apply below_alloc | apply pw_below_drewN | apply below_drew1) | exact HB.out)) hb); have n1_ := asd (hbox); have n2_ := asd ((by rw [hg]; exact (below_size (by repeat (first | (with_reducible first | exact HB.out | apply below_alloc | apply pw_below_drewN | apply below_drew1) | exact HB.out))) : w.heap.size ≤ gb101)); have n3_ := asd ((by rw [hg]; exact (below_size (by repeat (first | (with_reducible first | exact HB.out | apply below_alloc | apply pw_below_drewN | apply below_drew1) | exact HB.out))) : w.heap.size ≤ gb101)); clear HB; have HB := n0_; have BK101 := n1_; have GW101 := n2_; have GE101 := n3_; clear n0_ n1_ n2_ n3_; clear hb hbox hg; have hcz5_0 : w4.cell? ⟨gb101, 0, none⟩ = some (.int .i64 a0_0) := (blk_cell BK101.out 0).trans rfl; have hcz5_1 : w4.cell? ⟨gb101, 1, none⟩ = some (.slice A0_1 l0_1.length c0_1) := (blk_cell BK101.out 1).trans rfl; have hfz5_0 := blk_frozen BK101.out 0; have hfz5_1 := blk_frozen BK101.out 1) | (go_at_call 102; (with_reducible refine (impl_Space_family.calls a0_0 _ _ l0_1 t102 _ ?side1 ?side2 A3.out).mono ?_); (case side1 => repeat (first | exact (Kd.C_below HR0_1.out HB.out) | (with_reducible refine Kd.C_alloc ?_ _) | (with_reducible refine Kd.C_drewN ?_ _) | (with_reducible refine Kd.C_drew ?_))); (case side2 => exact HC0_1.out); rintro e w6 ⟨v103, rfl, ho0, hb⟩; have n0_ := asd (Kd.R_lower ho0 (below_size (by repeat (first | (with_reducible first | exact HB.out | apply below_alloc | apply pw_below_drewN | apply below_drew1 | refine below_set ?_ GE101.out) | exact HB.out)))); have n1_ := asd (blk_below (upB BK101.out) hb); have n2_ := asd (below_step (by repeat (first | (with_reducible first | exact HB.out | apply below_alloc | apply pw_below_drewN | apply below_drew1 | refine below_set ?_ GE101.out) | exact HB.out)) hb); clear BK101; clear HB; have HO104 := n0_; have BK101 := n1_; have HB := n2_; clear n0_ n1_ n2_; (try clear hb); (try clear hb2); (try clear hk); (try clear hi); (try clear ho0))))
 go_loopg [7, 14] k (fun kq v7 v14 w' => ∃ (x7_1 : Int) (x14_1 : Int), v7 = .int .i64 x7_1 ∧ v14 = .int .i64 x14_1 ∧ Aside0 (impl_Space_setOf.l0 kq t102 x7_1 l1 (l1.length : Int) x14_1 a0_0 l0_1 = some (r1, r2)) ∧ Aside0 (kq ≤ k) ∧ Aside0 (Kd.R Kd.bool 126 w' w.heap.size (fun _ => True) v103 t102) ∧ Aside0 (w'.heap[gb101]? = some (.cells #[.int .i64 a0_0, (.slice A0_1 l0_1.length c0_1)] 28 (0, 0))) ∧ Aside0 (Below w.heap.size w w'))
 case atStart => exact ⟨(0), (0), (by first | rfl | (simp; done) | (simp [*]; done)), (by first | rfl | (simp; done) | (simp [*]; done)), H', ⟨Nat.le_refl _⟩, ⟨by (with_reducible repeat (first | apply Kd.R_alloc | apply Kd.R_drewN | apply Kd.R_drew)); exact HO104.out⟩, ⟨by (with_reducible repeat (first | refine blk_drewN ?_ _ | refine blk_drew ?_ | refine blk_alloc ?_ _)); exact BK101.out⟩, ⟨by repeat (first | (with_reducible first | exact HB.out | apply below_alloc | apply pw_below_drewN | apply below_drew1 | refine below_set ?_ GE101.out) | exact HB.out)⟩⟩
 case round =>
  clear H'
  try clear c1
  try clear p2
  try clear hcz5_0
  try clear hcz5_1
  try clear hfz5_0
  try clear hfz5_1
  try clear HO_6; skip
  obtain ⟨x7_1, x14_1, rfl, rfl, HA, HK1, HO_6, BK101, HB⟩ := hrel
  cases gk with
  | zero => exact absurd HA.out (by simp [impl_Space_setOf.l0])
  | succ k1 =>
   have H := HA.out
   clear HA
   simp only [impl_Space_setOf.l0] at H
   by_cases c7 : x14_1 < (l1.length : Int)
   ·
    rw [if_pos c7] at H
    have c7b0 : decide (x14_1 < (l1.length : Int)) = true := decide_eq_true c7
    clear c7
    by_cases c8 : 0 ≤ x14_1
    ·
     rw [if_pos c8] at H
     have c8b0 : decide (0 ≤ x14_1) = true := decide_eq_true c8
     clear c8
     by_cases c9 : x14_1 < (l1.length : Int)
     ·
      rw [if_pos c9] at H
      have c9b0 : decide (x14_1 < (l1.length : Int)) = true := decide_eq_true c9
      clear c9
      replace H := Option.bind_eq_some_iff.mp H
      obtain ⟨t106, A100, H⟩ := H
      replace H : (if t106 = true then (if 0 ≤ (rd l1 x14_1) then (if (Go.bits .and .i64 (shr .i64 x7_1 (rd l1 x14_1)) 1) = 1 then (some (0, false)) else (if 0 ≤ (Go.bits .or .i64 x7_1 (shl .i64 1 (rd l1 x14_1))) then (if (Go.bits .or .i64 x7_1 (shl .i64 1 (rd l1 x14_1))) < 128 then (if (rdOf false t102 (Go.bits .or .i64 x7_1 (shl .i64 1 (rd l1 x14_1))) = true) then (impl_Space_setOf.l0 k1 t102 (Go.bits .or .i64 x7_1 (shl .i64 1 (rd l1 x14_1))) l1 (l1.length : Int) (wrap64 (x14_1 + 1)) a0_0 l0_1) else (some (0, false))) else (none)) else (none))) else (none)) else (some (0, false))) = some (r1, r2) := H
      have A10 := asd A100
      clear A100
      by_cases c11 : t106 = true
      ·
       subst c11
       have H1 : (if 0 ≤ (rd l1 x14_1) then (if (Go.bits .and .i64 (shr .i64 x7_1 (rd l1 x14_1)) 1) = 1 then (some (0, false)) else (if 0 ≤ (Go.bits .or .i64 x7_1 (shl .i64 1 (rd l1 x14_1))) then (if (Go.bits .or .i64 x7_1 (shl .i64 1 (rd l1 x14_1))) < 128 then (if (rdOf false t102 (Go.bits .or .i64 x7_1 (shl .i64 1 (rd l1 x14_1))) = true) then (impl_Space_setOf.l0 k1 t102 (Go.bits .or .i64 x7_1 (shl .i64 1 (rd l1 x14_1))) l1 (l1.length : Int) (wrap64 (x14_1 + 1)) a0_0 l0_1) else (some (0, false))) else (none)) else (none))) else (none)) = some (r1, r2) := by rw [if_pos rfl] at H; exact H
       clear H
       have H := H1
       clear H1
       by_cases c12 : 0 ≤ (rd l1 x14_1)
       ·
        rw [if_pos c12] at H
        have c12b0 := eq_true c12
        have c12b1 : decide (0 ≤ (rd l1 x14_1)) = true := decide_eq_true c12
        clear c12
        obtain ⟨ji13, hji13⟩ : ∃ j_ : Int, (shr .i64 x7_1 (rd l1 x14_1)) = j_ := ⟨_, rfl⟩
        replace H : (if (Go.bits .and .i64 (ji13) 1) = 1 then (some (0, false)) else (if 0 ≤ (Go.bits .or .i64 x7_1 (shl .i64 1 (rd l1 x14_1))) then (if (Go.bits .or .i64 x7_1 (shl .i64 1 (rd l1 x14_1))) < 128 then (if (rdOf false t102 (Go.bits .or .i64 x7_1 (shl .i64 1 (rd l1 x14_1))) = true) then (impl_Space_setOf.l0 k1 t102 (Go.bits .or .i64 x7_1 (shl .i64 1 (rd l1 x14_1))) l1 (l1.length : Int) (wrap64 (x14_1 + 1)) a0_0 l0_1) else (some (0, false))) else (none)) else (none))) = some (r1, r2) := by first | (rw [hji13] at H; exact H) | (simp only [hji13] at H ⊢; exact H)
        (try rw [hji13] at A10)
        have hji13_ : (x7_1 / 2 ^ min (rd l1 x14_1).toNat 64) = ji13 := hji13
        have hji13z : (rd l1 x14_1) ≤ 64 → (x7_1 / 2 ^ (rd l1 x14_1).toNat) = ji13 := shr_small hji13
        by_cases c14 : (Go.bits .and .i64 (ji13) 1) = 1
        ·
         rw [if_pos c14] at H
         have c14b0 : ((Go.bits .and .i64 (ji13) 1) == 1) = true := beq_iff_eq.mpr c14
         have c14b1 : ((Go.bits .and .i64 (ji13) 1) != 1) = false := bne_eq_false_iff_eq.mpr c14
         clear c14
         simp only [Option.some.injEq, Prod.mk.injEq] at H
         obtain ⟨rfl, rfl⟩ := H
         have p105 : 0 ≤ (x14_1 : Int) := of_decide_eq_true (by first | (with_reducible assumption) | assumption)
         have q105 : x14_1 < (l1.length : Int) := of_decide_eq_true (by first | (with_reducible assumption) | assumption)
         obtain ⟨ad105, e105, hx105_0⟩ := Kd.at_int HR1.out x14_1 p105 q105
         cases e105
         replace hx105_0 := (HB.out.cell (World.block_lt_of_cell? w _ hx105_0)).trans hx105_0
         replace p105 := eq_true p105
         replace q105 := eq_true q105
         have hcz15_0 : wr.cell? ⟨gb101, 0, none⟩ = some (.int .i64 a0_0) := (blk_cell BK101.out 0).trans rfl
         have hcz15_1 : wr.cell? ⟨gb101, 1, none⟩ = some (.slice A0_1 l0_1.length c0_1) := (blk_cell BK101.out 1).trans rfl
         have hfz15_0 := blk_frozen BK101.out 0
         have hfz15_1 := blk_frozen BK101.out 1
         go_wp2_with (first | (go_at_call 61; (with_reducible refine (impl_within.calls (rd l1 x14_1) 0 (wrap64 (a0_0 - 1)) true _ A10.out).mono ?_); rintro e w' ⟨rfl, ⟨nd, rfl⟩⟩; (try first | exact ⟨rfl, _, World.drewN_drewN _ _ _⟩ | exact ⟨rfl, _, Eq.trans (World.drewN_drewN _ _ _) (congrArg (World.drewN _) (Nat.add_assoc _ _ _))⟩)))
         repeat (go_quiet (first | (go_at_call 61; (first | (with_reducible refine (impl_within.calls (rd l1 x14_1) 0 (wrap64 (a0_0 - 1)) true _ A10.out).mono ?_) | (with_reducible refine (impl_within.calls (rd l1 x14_1) 0 (IntKind.i64.wrap (a0_0 - 1)) true _ (by first | exact A10.out | (with_unfolding_all exact A10.out))).mono ?_)); rintro e w' ⟨rfl, ⟨nd, rfl⟩⟩; (try first | exact ⟨rfl, _, World.drewN_drewN _ _ _⟩ | exact ⟨rfl, _, Eq.trans (World.drewN_drewN _ _ _) (congrArg (World.drewN _) (Nat.add_assoc _ _ _))⟩))); try go_wp2_with (first | (go_at_call 61; (first | (with_reducible refine (impl_within.calls (rd l1 x14_1) 0 (wrap64 (a0_0 - 1)) true _ A10.out).mono ?_) | (with_reducible refine (impl_within.calls (rd l1 x14_1) 0 (IntKind.i64.wrap (a0_0 - 1)) true _ (by first | exact A10.out | (with_unfolding_all exact A10.out))).mono ?_)); rintro e w' ⟨rfl, ⟨nd, rfl⟩⟩; (try first | exact ⟨rfl, _, World.drewN_drewN _ _ _⟩ | exact ⟨rfl, _, Eq.trans (World.drewN_drewN _ _ _) (congrArg (World.drewN _) (Nat.add_assoc _ _ _))⟩))))
         go_ret2
         exact ⟨by first | rfl | (simp [errW_none, errW_some] <;> rfl) | (simp only [← hji13]; first | rfl | (simp [errW_none, errW_some] <;> rfl)) | (simp [*, errW_none, errW_some] <;> rfl), by repeat (first | (with_reducible first | exact HB.out | apply below_alloc | apply pw_below_drewN | apply below_drew1 | refine below_set ?_ GE101.out) | exact HB.out)⟩
        ·
         rw [if_neg c14] at H
         have c14b0 : ((Go.bits .and .i64 (ji13) 1) == 1) = false := beq_eq_false_iff_ne.mpr c14
         have c14b1 : ((Go.bits .and .i64 (ji13) 1) != 1) = true := bne_iff_ne.mpr c14
         have c16b0 := eq_true (of_decide_eq_true (by first | (with_reducible assumption) | assumption) : 0 ≤ (rd l1 x14_1))
         obtain ⟨ji17, hji17⟩ : ∃ j_ : Int, (shl .i64 1 (rd l1 x14_1)) = j_ := ⟨_, rfl⟩
         replace H : (if 0 ≤ (Go.bits .or .i64 x7_1 (ji17)) then (if (Go.bits .or .i64 x7_1 (ji17)) < 128 then (if (rdOf false t102 (Go.bits .or .i64 x7_1 (ji17)) = true) then (impl_Space_setOf.l0 k1 t102 (Go.bits .or .i64 x7_1 (ji17)) l1 (l1.length : Int) (wrap64 (x14_1 + 1)) a0_0 l0_1) else (some (0, false))) else (none)) else (none)) = some (r1, r2) := by first | (rw [hji17] at H; exact H) | (simp only [hji17] at H ⊢; exact H)
         (try rw [hji17] at A10)
         have hji17_ : (IntKind.i64.wrap (1 * 2 ^ min (rd l1 x14_1).toNat 64)) = ji17 := hji17
         have hji17z : (rd l1 x14_1) ≤ 64 → (IntKind.i64.wrap (1 * 2 ^ (rd l1 x14_1).toNat)) = ji17 := shl_small hji17
         have hji17u : (IntKind.i64.wrap (2 ^ min (rd l1 x14_1).toNat 64)) = ji17 := by have h_ := hji17_; rw [Int.one_mul] at h_; exact h_
         have hji17v : (rd l1 x14_1) ≤ 64 → (IntKind.i64.wrap (2 ^ (rd l1 x14_1).toNat)) = ji17 := fun hle_ => by have h_ := hji17z hle_; rw [Int.one_mul] at h_; exact h_
         have hji17y : (wrap64 (1 * 2 ^ min (rd l1 x14_1).toNat 64)) = ji17 := (i64_w _).symm.trans hji17_
         have hji17x : (rd l1 x14_1) ≤ 64 → (wrap64 (1 * 2 ^ (rd l1 x14_1).toNat)) = ji17 := fun h_ => (i64_w _).symm.trans (hji17z h_)
         by_cases c18 : 0 ≤ (Go.bits .or .i64 x7_1 (ji17))
         ·
          rw [if_pos c18] at H
          have c18b0 : decide (0 ≤ (Go.bits .or .i64 x7_1 (ji17))) = true := decide_eq_true c18
          clear c18
          by_cases c19 : (Go.bits .or .i64 x7_1 (ji17)) < 128
          ·
           rw [if_pos c19] at H
           have c19b0 : decide ((Go.bits .or .i64 x7_1 (ji17)) < 128) = true := decide_eq_true c19
           clear c19
           obtain ⟨bq20, hbq20⟩ : ∃ b_ : Bool, b_ = (rdOf false t102 (Go.bits .or .i64 x7_1 (ji17))) := ⟨_, rfl⟩
           replace H : (if (bq20 = true) then (impl_Space_setOf.l0 k1 t102 (Go.bits .or .i64 x7_1 (ji17)) l1 (l1.length : Int) (wrap64 (x14_1 + 1)) a0_0 l0_1) else (some (0, false))) = some (r1, r2) := by rw [← hbq20] at H; exact H
           have Nbq20 := asd hbq20
           clear hbq20
           by_cases c21 : (bq20 = true)
           ·
            subst c21
            have H1 : (impl_Space_setOf.l0 k1 t102 (Go.bits .or .i64 x7_1 (ji17)) l1 (l1.length : Int) (wrap64 (x14_1 + 1)) a0_0 l0_1) = some (r1, r2) := by rw [if_pos rfl] at H; exact H
            clear H
            have H := H1
            clear H1
            have c22b0 := eq_true (of_decide_eq_true (by first | (with_reducible assumption) | assumption) : 0 ≤ (rd l1 x14_1))
            have H' := asd H
            clear H
            have p105 : 0 ≤ (x14_1 : Int) := of_decide_eq_true (by first | (with_reducible assumption) | assumption)
            have q105 : x14_1 < (l1.length : Int) := of_decide_eq_true (by first | (with_reducible assumption) | assumption)
            obtain ⟨ad105, e105, hx105_0⟩ := Kd.at_int HR1.out x14_1 p105 q105
            cases e105
            replace hx105_0 := (HB.out.cell (World.block_lt_of_cell? w _ hx105_0)).trans hx105_0
            replace p105 := eq_true p105
            replace q105 := eq_true q105
            have hcz23_0 : wr.cell? ⟨gb101, 0, none⟩ = some (.int .i64 a0_0) := (blk_cell BK101.out 0).trans rfl
            have hcz23_1 : wr.cell? ⟨gb101, 1, none⟩ = some (.slice A0_1 l0_1.length c0_1) := (blk_cell BK101.out 1).trans rfl
            have hfz23_0 := blk_frozen BK101.out 0
            have hfz23_1 := blk_frozen BK101.out 1
            go_wp2_with (first | (go_at_call 61; (with_reducible refine (impl_within.calls (rd l1 x14_1) 0 (wrap64 (a0_0 - 1)) true _ A10.out).mono ?_); rintro e w' ⟨rfl, ⟨nd, rfl⟩⟩; (try first | exact ⟨rfl, _, World.drewN_drewN _ _ _⟩ | exact ⟨rfl, _, Eq.trans (World.drewN_drewN _ _ _) (congrArg (World.drewN _) (Nat.add_assoc _ _ _))⟩); obtain ⟨Ao24, co24, eo24⟩ := Kd.R_slice HO_6.out; subst eo24; (try simp only [ptrOf_slice]); have p107 : 0 ≤ ((Go.bits .or .i64 x7_1 (ji17)) : Int) := of_decide_eq_true (by first | (with_reducible assumption) | assumption); have q107 : (Go.bits .or .i64 x7_1 (ji17)) < (t102.length : Int) := (by have h_ : ((Go.bits .or .i64 x7_1 (ji17)) : Int) < (128 : Int) := of_decide_eq_true (by first | (with_reducible assumption) | assumption); (try have e_ := (Kd.R_reads' HO_6.out).1); (try have e0_ := HLt102.out); omega); have ql107 : (((Go.bits .or .i64 x7_1 (ji17)) : Int) < (128 : Int)) = True := eq_true (of_decide_eq_true (by first | (with_reducible assumption) | assumption)); obtain ⟨ad107, e107, hx107_0⟩ := Kd.at_bool (Kd.R_reads' HO_6.out).2.2 (Go.bits .or .i64 x7_1 (ji17)) p107 q107; (try rw [← Nbq20.out] at hx107_0); cases e107; replace p107 := eq_true p107; replace q107 := eq_true q107))
            try (obtain ⟨Ao24, co24, eo24⟩ := Kd.R_slice HO_6.out; subst eo24; (try simp only [ptrOf_slice]); have p107 : 0 ≤ ((Go.bits .or .i64 x7_1 (ji17)) : Int) := of_decide_eq_true (by first | (with_reducible assumption) | assumption); have q107 : (Go.bits .or .i64 x7_1 (ji17)) < (t102.length : Int) := (by have h_ : ((Go.bits .or .i64 x7_1 (ji17)) : Int) < (128 : Int) := of_decide_eq_true (by first | (with_reducible assumption) | assumption); (try have e_ := (Kd.R_reads' HO_6.out).1); (try have e0_ := HLt102.out); omega); have ql107 : (((Go.bits .or .i64 x7_1 (ji17)) : Int) < (128 : Int)) = True := eq_true (of_decide_eq_true (by first | (with_reducible assumption) | assumption)); obtain ⟨ad107, e107, hx107_0⟩ := Kd.at_bool (Kd.R_reads' HO_6.out).2.2 (Go.bits .or .i64 x7_1 (ji17)) p107 q107; (try rw [← Nbq20.out] at hx107_0); cases e107; replace p107 := eq_true p107; replace q107 := eq_true q107)
            repeat (go_quiet (first | (go_at_call 61; (first | (with_reducible refine (impl_within.calls (rd l1 x14_1) 0 (wrap64 (a0_0 - 1)) true _ A10.out).mono ?_) | (with_reducible refine (impl_within.calls (rd l1 x14_1) 0 (IntKind.i64.wrap (a0_0 - 1)) true _ (by first | exact A10.out | (with_unfolding_all exact A10.out))).mono ?_)); rintro e w' ⟨rfl, ⟨nd, rfl⟩⟩; (try first | exact ⟨rfl, _, World.drewN_drewN _ _ _⟩ | exact ⟨rfl, _, Eq.trans (World.drewN_drewN _ _ _) (congrArg (World.drewN _) (Nat.add_assoc _ _ _))⟩) <;> (obtain ⟨Ao24, co24, eo24⟩ := Kd.R_slice HO_6.out; subst eo24; (try simp only [ptrOf_slice]); have p107 : 0 ≤ ((Go.bits .or .i64 x7_1 (ji17)) : Int) := of_decide_eq_true (by first | (with_reducible assumption) | assumption); have q107 : (Go.bits .or .i64 x7_1 (ji17)) < (t102.length : Int) := (by have h_ : ((Go.bits .or .i64 x7_1 (ji17)) : Int) < (128 : Int) := of_decide_eq_true (by first | (with_reducible assumption) | assumption); (try have e_ := (Kd.R_reads' HO_6.out).1); (try have e0_ := HLt102.out); omega); have ql107 : (((Go.bits .or .i64 x7_1 (ji17)) : Int) < (128 : Int)) = True := eq_true (of_decide_eq_true (by first | (with_reducible assumption) | assumption)); obtain ⟨ad107, e107, hx107_0⟩ := Kd.at_bool (Kd.R_reads' HO_6.out).2.2 (Go.bits .or .i64 x7_1 (ji17)) p107 q107; (try rw [← Nbq20.out] at hx107_0); cases e107; replace p107 := eq_true p107; replace q107 := eq_true q107))); try go_wp2_with (first | (go_at_call 61; (first | (with_reducible refine (impl_within.calls (rd l1 x14_1) 0 (wrap64 (a0_0 - 1)) true _ A10.out).mono ?_) | (with_reducible refine (impl_within.calls (rd l1 x14_1) 0 (IntKind.i64.wrap (a0_0 - 1)) true _ (by first | exact A10.out | (with_unfolding_all exact A10.out))).mono ?_)); rintro e w' ⟨rfl, ⟨nd, rfl⟩⟩; (try first | exact ⟨rfl, _, World.drewN_drewN _ _ _⟩ | exact ⟨rfl, _, Eq.trans (World.drewN_drewN _ _ _) (congrArg (World.drewN _) (Nat.add_assoc _ _ _))⟩) <;> (obtain ⟨Ao24, co24, eo24⟩ := Kd.R_slice HO_6.out; subst eo24; (try simp only [ptrOf_slice]); have p107 : 0 ≤ ((Go.bits .or .i64 x7_1 (ji17)) : Int) := of_decide_eq_true (by first | (with_reducible assumption) | assumption); have q107 : (Go.bits .or .i64 x7_1 (ji17)) < (t102.length : Int) := (by have h_ : ((Go.bits .or .i64 x7_1 (ji17)) : Int) < (128 : Int) := of_decide_eq_true (by first | (with_reducible assumption) | assumption); (try have e_ := (Kd.R_reads' HO_6.out).1); (try have e0_ := HLt102.out); omega); have ql107 : (((Go.bits .or .i64 x7_1 (ji17)) : Int) < (128 : Int)) = True := eq_true (of_decide_eq_true (by first | (with_reducible assumption) | assumption)); obtain ⟨ad107, e107, hx107_0⟩ := Kd.at_bool (Kd.R_reads' HO_6.out).2.2 (Go.bits .or .i64 x7_1 (ji17)) p107 q107; (try rw [← Nbq20.out] at hx107_0); cases e107; replace p107 := eq_true p107; replace q107 := eq_true q107))))
            go_roundg k1
            case measure => have := HK1.out; omega
            case rel => exact ⟨(Go.bits .or .i64 x7_1 (ji17)), (wrap64 (x14_1 + 1)), (by first | rfl | (simp; done) | (simp only [← hji17] <;> (first | rfl | simp)) | (simp [*]; done)), (by first | rfl | (simp; done) | (simp [*]; done)), H', ⟨by have := HK1.out; omega⟩, ⟨by (with_reducible repeat (first | apply Kd.R_alloc | apply Kd.R_drewN | apply Kd.R_drew)); exact HO_6.out⟩, ⟨by (with_reducible repeat (first | refine blk_drewN ?_ _ | refine blk_drew ?_ | refine blk_alloc ?_ _)); exact BK101.out⟩, ⟨by repeat (first | (with_reducible first | exact HB.out | apply below_alloc | apply pw_below_drewN | apply below_drew1 | refine below_set ?_ GE101.out) | exact HB.out)⟩⟩
           ·
            replace c21 := Bool.eq_false_iff.mpr c21
            subst c21
            have H1 : (some (0, false)) = some (r1, r2) := by rw [if_neg (show ¬ (false = true) by decide)] at H; exact H
            clear H
            have H := H1
            clear H1
            simp only [Option.some.injEq, Prod.mk.injEq] at H
            obtain ⟨rfl, rfl⟩ := H
            have p105 : 0 ≤ (x14_1 : Int) := of_decide_eq_true (by first | (with_reducible assumption) | assumption)
            have q105 : x14_1 < (l1.length : Int) := of_decide_eq_true (by first | (with_reducible assumption) | assumption)
            obtain ⟨ad105, e105, hx105_0⟩ := Kd.at_int HR1.out x14_1 p105 q105
            cases e105
            replace hx105_0 := (HB.out.cell (World.block_lt_of_cell? w _ hx105_0)).trans hx105_0
            replace p105 := eq_true p105
            replace q105 := eq_true q105
            have hcz25_0 : wr.cell? ⟨gb101, 0, none⟩ = some (.int .i64 a0_0) := (blk_cell BK101.out 0).trans rfl
            have hcz25_1 : wr.cell? ⟨gb101, 1, none⟩ = some (.slice A0_1 l0_1.length c0_1) := (blk_cell BK101.out 1).trans rfl
            have hfz25_0 := blk_frozen BK101.out 0
            have hfz25_1 := blk_frozen BK101.out 1
            go_wp2_with (first | (go_at_call 61; (with_reducible refine (impl_within.calls (rd l1 x14_1) 0 (wrap64 (a0_0 - 1)) true _ A10.out).mono ?_); rintro e w' ⟨rfl, ⟨nd, rfl⟩⟩; (try first | exact ⟨rfl, _, World.drewN_drewN _ _ _⟩ | exact ⟨rfl, _, Eq.trans (World.drewN_drewN _ _ _) (congrArg (World.drewN _) (Nat.add_assoc _ _ _))⟩); obtain ⟨Ao26, co26, eo26⟩ := Kd.R_slice HO_6.out; subst eo26; (try simp only [ptrOf_slice]); have p107 : 0 ≤ ((Go.bits .or .i64 x7_1 (ji17)) : Int) := of_decide_eq_true (by first | (with_reducible assumption) | assumption); have q107 : (Go.bits .or .i64 x7_1 (ji17)) < (t102.length : Int) := (by have h_ : ((Go.bits .or .i64 x7_1 (ji17)) : Int) < (128 : Int) := of_decide_eq_true (by first | (with_reducible assumption) | assumption); (try have e_ := (Kd.R_reads' HO_6.out).1); (try have e0_ := HLt102.out); omega); have ql107 : (((Go.bits .or .i64 x7_1 (ji17)) : Int) < (128 : Int)) = True := eq_true (of_decide_eq_true (by first | (with_reducible assumption) | assumption)); obtain ⟨ad107, e107, hx107_0⟩ := Kd.at_bool (Kd.R_reads' HO_6.out).2.2 (Go.bits .or .i64 x7_1 (ji17)) p107 q107; (try rw [← Nbq20.out] at hx107_0); cases e107; replace p107 := eq_true p107; replace q107 := eq_true q107))
            try (obtain ⟨Ao26, co26, eo26⟩ := Kd.R_slice HO_6.out; subst eo26; (try simp only [ptrOf_slice]); have p107 : 0 ≤ ((Go.bits .or .i64 x7_1 (ji17)) : Int) := of_decide_eq_true (by first | (with_reducible assumption) | assumption); have q107 : (Go.bits .or .i64 x7_1 (ji17)) < (t102.length : Int) := (by have h_ : ((Go.bits .or .i64 x7_1 (ji17)) : Int) < (128 : Int) := of_decide_eq_true (by first | (with_reducible assumption) | assumption); (try have e_ := (Kd.R_reads' HO_6.out).1); (try have e0_ := HLt102.out); omega); have ql107 : (((Go.bits .or .i64 x7_1 (ji17)) : Int) < (128 : Int)) = True := eq_true (of_decide_eq_true (by first | (with_reducible assumption) | assumption)); obtain ⟨ad107, e107, hx107_0⟩ := Kd.at_bool (Kd.R_reads' HO_6.out).2.2 (Go.bits .or .i64 x7_1 (ji17)) p107 q107; (try rw [← Nbq20.out] at hx107_0); cases e107; replace p107 := eq_true p107; replace q107 := eq_true q107)
            repeat (go_quiet (first | (go_at_call 61; (first | (with_reducible refine (impl_within.calls (rd l1 x14_1) 0 (wrap64 (a0_0 - 1)) true _ A10.out).mono ?_) | (with_reducible refine (impl_within.calls (rd l1 x14_1) 0 (IntKind.i64.wrap (a0_0 - 1)) true _ (by first | exact A10.out | (with_unfolding_all exact A10.out))).mono ?_)); rintro e w' ⟨rfl, ⟨nd, rfl⟩⟩; (try first | exact ⟨rfl, _, World.drewN_drewN _ _ _⟩ | exact ⟨rfl, _, Eq.trans (World.drewN_drewN _ _ _) (congrArg (World.drewN _) (Nat.add_assoc _ _ _))⟩) <;> (obtain ⟨Ao26, co26, eo26⟩ := Kd.R_slice HO_6.out; subst eo26; (try simp only [ptrOf_slice]); have p107 : 0 ≤ ((Go.bits .or .i64 x7_1 (ji17)) : Int) := of_decide_eq_true (by first | (with_reducible assumption) | assumption); have q107 : (Go.bits .or .i64 x7_1 (ji17)) < (t102.length : Int) := (by have h_ : ((Go.bits .or .i64 x7_1 (ji17)) : Int) < (128 : Int) := of_decide_eq_true (by first | (with_reducible assumption) | assumption); (try have e_ := (Kd.R_reads' HO_6.out).1); (try have e0_ := HLt102.out); omega); have ql107 : (((Go.bits .or .i64 x7_1 (ji17)) : Int) < (128 : Int)) = True := eq_true (of_decide_eq_true (by first | (with_reducible assumption) | assumption)); obtain ⟨ad107, e107, hx107_0⟩ := Kd.at_bool (Kd.R_reads' HO_6.out).2.2 (Go.bits .or .i64 x7_1 (ji17)) p107 q107; (try rw [← Nbq20.out] at hx107_0); cases e107; replace p107 := eq_true p107; replace q107 := eq_true q107))); try go_wp2_with (first | (go_at_call 61; (first | (with_reducible refine (impl_within.calls (rd l1 x14_1) 0 (wrap64 (a0_0 - 1)) true _ A10.out).mono ?_) | (with_reducible refine (impl_within.calls (rd l1 x14_1) 0 (IntKind.i64.wrap (a0_0 - 1)) true _ (by first | exact A10.out | (with_unfolding_all exact A10.out))).mono ?_)); rintro e w' ⟨rfl, ⟨nd, rfl⟩⟩; (try first | exact ⟨rfl, _, World.drewN_drewN _ _ _⟩ | exact ⟨rfl, _, Eq.trans (World.drewN_drewN _ _ _) (congrArg (World.drewN _) (Nat.add_assoc _ _ _))⟩) <;> (obtain ⟨Ao26, co26, eo26⟩ := Kd.R_slice HO_6.out; subst eo26; (try simp only [ptrOf_slice]); have p107 : 0 ≤ ((Go.bits .or .i64 x7_1 (ji17)) : Int) := of_decide_eq_true (by first | (with_reducible assumption) | assumption); have q107 : (Go.bits .or .i64 x7_1 (ji17)) < (t102.length : Int) := (by have h_ : ((Go.bits .or .i64 x7_1 (ji17)) : Int) < (128 : Int) := of_decide_eq_true (by first | (with_reducible assumption) | assumption); (try have e_ := (Kd.R_reads' HO_6.out).1); (try have e0_ := HLt102.out); omega); have ql107 : (((Go.bits .or .i64 x7_1 (ji17)) : Int) < (128 : Int)) = True := eq_true (of_decide_eq_true (by first | (with_reducible assumption) | assumption)); obtain ⟨ad107, e107, hx107_0⟩ := Kd.at_bool (Kd.R_reads' HO_6.out).2.2 (Go.bits .or .i64 x7_1 (ji17)) p107 q107; (try rw [← Nbq20.out] at hx107_0); cases e107; replace p107 := eq_true p107; replace q107 := eq_true q107))))
            go_ret2
            exact ⟨by first | rfl | (simp [errW_none, errW_some] <;> rfl) | (simp only [← hji13, ← hji17]; first | rfl | (simp [errW_none, errW_some] <;> rfl)) | (simp [*, errW_none, errW_some] <;> rfl), by repeat (first | (with_reducible first | exact HB.out | apply below_alloc | apply pw_below_drewN | apply below_drew1 | refine below_set ?_ GE101.out) | exact HB.out)⟩
          ·
           rw [if_neg c19] at H
           exact absurd H (by simp)
         ·
          rw [if_neg c18] at H
          exact absurd H (by simp)
       ·
        rw [if_neg c12] at H
        exact absurd H (by simp)
      ·
       replace c11 := Bool.eq_false_iff.mpr c11
       subst c11
       have H1 : (some (0, false)) = some (r1, r2) := by rw [if_neg (show ¬ (false = true) by decide)] at H; exact H
       clear H
       have H := H1
       clear H1
       simp only [Option.some.injEq, Prod.mk.injEq] at H
       obtain ⟨rfl, rfl⟩ := H
       have p105 : 0 ≤ (x14_1 : Int) := of_decide_eq_true (by first | (with_reducible assumption) | assumption)
       have q105 : x14_1 < (l1.length : Int) := of_decide_eq_true (by first | (with_reducible assumption) | assumption)
       obtain ⟨ad105, e105, hx105_0⟩ := Kd.at_int HR1.out x14_1 p105 q105
       cases e105
       replace hx105_0 := (HB.out.cell (World.block_lt_of_cell? w _ hx105_0)).trans hx105_0
       replace p105 := eq_true p105
       replace q105 := eq_true q105
       have hcz27_0 : wr.cell? ⟨gb101, 0, none⟩ = some (.int .i64 a0_0) := (blk_cell BK101.out 0).trans rfl
       have hcz27_1 : wr.cell? ⟨gb101, 1, none⟩ = some (.slice A0_1 l0_1.length c0_1) := (blk_cell BK101.out 1).trans rfl
       have hfz27_0 := blk_frozen BK101.out 0
       have hfz27_1 := blk_frozen BK101.out 1
       go_wp2_with (first | (go_at_call 61; (with_reducible refine (impl_within.calls (rd l1 x14_1) 0 (wrap64 (a0_0 - 1)) false _ A10.out).mono ?_); rintro e w' ⟨rfl, ⟨nd, rfl⟩⟩; (try first | exact ⟨rfl, _, World.drewN_drewN _ _ _⟩ | exact ⟨rfl, _, Eq.trans (World.drewN_drewN _ _ _) (congrArg (World.drewN _) (Nat.add_assoc _ _ _))⟩)))
       repeat (go_quiet (first | (go_at_call 61; (first | (with_reducible refine (impl_within.calls (rd l1 x14_1) 0 (wrap64 (a0_0 - 1)) false _ A10.out).mono ?_) | (with_reducible refine (impl_within.calls (rd l1 x14_1) 0 (IntKind.i64.wrap (a0_0 - 1)) false _ (by first | exact A10.out | (with_unfolding_all exact A10.out))).mono ?_)); rintro e w' ⟨rfl, ⟨nd, rfl⟩⟩; (try first | exact ⟨rfl, _, World.drewN_drewN _ _ _⟩ | exact ⟨rfl, _, Eq.trans (World.drewN_drewN _ _ _) (congrArg (World.drewN _) (Nat.add_assoc _ _ _))⟩))); try go_wp2_with (first | (go_at_call 61; (first | (with_reducible refine (impl_within.calls (rd l1 x14_1) 0 (wrap64 (a0_0 - 1)) false _ A10.out).mono ?_) | (with_reducible refine (impl_within.calls (rd l1 x14_1) 0 (IntKind.i64.wrap (a0_0 - 1)) false _ (by first | exact A10.out | (with_unfolding_all exact A10.out))).mono ?_)); rintro e w' ⟨rfl, ⟨nd, rfl⟩⟩; (try first | exact ⟨rfl, _, World.drewN_drewN _ _ _⟩ | exact ⟨rfl, _, Eq.trans (World.drewN_drewN _ _ _) (congrArg (World.drewN _) (Nat.add_assoc _ _ _))⟩))))
       go_ret2
       exact ⟨by first | rfl | (simp [errW_none, errW_some] <;> rfl) | (simp [*, errW_none, errW_some] <;> rfl), by repeat (first | (with_reducible first | exact HB.out | apply below_alloc | apply pw_below_drewN | apply below_drew1 | refine below_set ?_ GE101.out) | exact HB.out)⟩
     ·
      rw [if_neg c9] at H
      exact absurd H (by simp)
    ·
     rw [if_neg c8] at H
     exact absurd H (by simp)
   ·
    rw [if_neg c7] at H
    have c7b0 : decide (x14_1 < (l1.length : Int)) = false := decide_eq_false c7
    clear c7
    simp only [Option.some.injEq, Prod.mk.injEq] at H
    obtain ⟨rfl, rfl⟩ := H
    go_wp2
    repeat (go_quiet (fail); try go_wp2)
    go_ret2
    exact ⟨by first | rfl | (simp [errW_none, errW_some] <;> rfl) | (simp [*, errW_none, errW_some] <;> rfl), by repeat (first | (with_reducible first | exact HB.out | apply below_alloc | apply pw_below_drewN | apply below_drew1 | refine below_set ?_ GE101.out) | exact HB.out)⟩

-- HAND impl_Space_words: function 63
/-- A visit to all full words. -/
def impl_Space_words.run {σ : Type} (k : Nat) (n : Int) (l : List Int) (D : σ → List Int → Option (σ × Bool)) (st : σ) : Option σ :=
 (impl_Space_all.f n l).bind fun all => (impl_Space_family.f n l).bind fun F => (slices_Clone_int_int.f []).bind fun ws => (impl_Space_setOf.f k n l []).bind fun so => (wordsW all F D k st true ws so.1).bind fun r => some r.1
theorem impl_Space_words.run_mono {σ : Type} {D1 D2 : σ → List Int → Option (σ × Bool)} (hD : ∀ s ws, LeO (D1 s ws) (D2 s ws)) (k : Nat) (n : Int) (l : List Int) (st : σ) : LeO (impl_Space_words.run k n l D1 st) (impl_Space_words.run (k + 1) n l D2 st) := by
 unfold impl_Space_words.run
 exact LeO.bind (LeO.refl _) fun all => LeO.bind (LeO.refl _) fun F => LeO.bind (LeO.refl _) fun ws => LeO.bind (impl_Space_setOf.mono _ _ _ k) fun so => LeO.bind (wordsW_mono hD k _ _ _ _) fun r => LeO.refl _
theorem famf_of {n : Int} {l : List Int} {F : List Bool} (h : impl_Space_family.f n l = some F) : (∀ x ∈ l, 0 ≤ x ∧ x < 128) ∧ F = famOf l := by
 unfold impl_Space_family.f at h
 split at h
 ·
  rename_i hh
  refine ⟨fun x hx => ?_, (Option.some.inj h).symm⟩
  have h2 := List.all_eq_true.1 hh x hx
  rw [Bool.and_eq_true, decide_eq_true_eq, decide_eq_true_eq] at h2
  exact h2
 ·
  cases h
theorem four_new (W : World) (o1 o2 o3 o4 : Obj) : ((((W.alloc o1).alloc o2).alloc o3).alloc o4).heap[W.heap.size]? = some o1 ∧ ((((W.alloc o1).alloc o2).alloc o3).alloc o4).heap[W.heap.size + 1]? = some o2 ∧ ((((W.alloc o1).alloc o2).alloc o3).alloc o4).heap[W.heap.size + 1 + 1]? = some o3 ∧ ((((W.alloc o1).alloc o2).alloc o3).alloc o4).heap[W.heap.size + 1 + 1 + 1]? = some o4 ∧ Below W.heap.size W ((((W.alloc o1).alloc o2).alloc o3).alloc o4) := by
 have h1 := blk_new W o1
 have h2 := blk_new (W.alloc o1) o2
 have h3 := blk_new ((W.alloc o1).alloc o2) o3
 have h4 := blk_new (((W.alloc o1).alloc o2).alloc o3) o4
 rw [World.size_alloc] at h2
 rw [World.size_alloc, World.size_alloc] at h3
 rw [World.size_alloc, World.size_alloc, World.size_alloc] at h4
 exact ⟨blk_alloc (blk_alloc (blk_alloc h1 _) _) _, blk_alloc (blk_alloc h2 _) _, blk_alloc h3 _, h4, below_alloc (below_alloc (below_alloc (below_alloc (Below.refl _ _) _) _) _) _⟩
/-- Ahead of a visit. -/
theorem words_start {σ : Type} {I : World → (Nat → Prop) → σ → Prop} {D : σ → List Int → Option (σ × Bool)} {fd : Nat} {cd : Array Value} {wb : World} (hD : CBok I D fd cd wb) {n : Int} {A : Option Addr} {c : Nat} {l : List Int} {st : σ} {C : Nat → Prop} {w W4 : World} {gs gd bf c4 b0 : Nat} {A4 : Option Addr} {ws : List Int} {F : List Bool} (hb : Below wb.heap.size wb w) (hi : I w C st) (hb4 : Below w.heap.size w W4) (b1 : W4.heap[gs]? = some (.cells #[.int .i64 n, .slice A l.length c] 28 (0, 0))) (b2 : W4.heap[gd]? = some (.cells #[.func (.func fd) #[] cd] 75 (0, 0))) (h1 : w.heap.size ≤ gs) (h2 : w.heap.size ≤ gd) (h3 : w.heap.size ≤ bf) (h4 : w.heap.size ≤ b0) (hF : FamAt W4 bf F) (hR : Kd.R (Kd.int .i64) 3 W4 b0 (fun _ => True) (.slice A4 ws.length c4) ws) :
  WdS I wb ((((W4.alloc (.cells #[.pointer (some ⟨bf, 0, none⟩)] 105)).alloc (.cells #[.slice A4 ws.length c4] 22)).alloc (.cells #[.bool true] 4)).alloc (.cells #[.func (.func 111) #[] #[.pointer (some ⟨gs, 0, none⟩), .pointer (some ⟨gd, 0, none⟩), .pointer (some ⟨W4.heap.size + 1, 0, none⟩), .pointer (some ⟨W4.heap.size + 1 + 1, 0, none⟩), .pointer (some ⟨W4.heap.size, 0, none⟩), .pointer (some ⟨W4.heap.size + 1 + 1 + 1, 0, none⟩)]] 114)) C gs gd (W4.heap.size + 1) (W4.heap.size + 1 + 1) W4.heap.size (W4.heap.size + 1 + 1 + 1) bf n A c l (.func (.func fd) #[] cd) F true (.slice A4 ws.length c4) (.slice A4 ws.length c4) ws st ∧ Below W4.heap.size W4 ((((W4.alloc (.cells #[.pointer (some ⟨bf, 0, none⟩)] 105)).alloc (.cells #[.slice A4 ws.length c4] 22)).alloc (.cells #[.bool true] 4)).alloc (.cells #[.func (.func 111) #[] #[.pointer (some ⟨gs, 0, none⟩), .pointer (some ⟨gd, 0, none⟩), .pointer (some ⟨W4.heap.size + 1, 0, none⟩), .pointer (some ⟨W4.heap.size + 1 + 1, 0, none⟩), .pointer (some ⟨W4.heap.size, 0, none⟩), .pointer (some ⟨W4.heap.size + 1 + 1 + 1, 0, none⟩)]] 114)) := by
 obtain ⟨n1, n2, n3, n4, hX⟩ := four_new W4 (.cells #[.pointer (some ⟨bf, 0, none⟩)] 105) (.cells #[.slice A4 ws.length c4] 22) (.cells #[.bool true] 4) (.cells #[.func (.func 111) #[] #[.pointer (some ⟨gs, 0, none⟩), .pointer (some ⟨gd, 0, none⟩), .pointer (some ⟨W4.heap.size + 1, 0, none⟩), .pointer (some ⟨W4.heap.size + 1 + 1, 0, none⟩), .pointer (some ⟨W4.heap.size, 0, none⟩), .pointer (some ⟨W4.heap.size + 1 + 1 + 1, 0, none⟩)]] 114)
 have hs := hb4.size
 have hbs := hb.size
 have hn : ∀ {k : Nat}, w.heap.size ≤ k → ¬ C k := fun hk hc => by
  have := hD.bound _ _ _ hi _ hc
  omega
 have hbX : Below w.heap.size w ((((W4.alloc (.cells #[.pointer (some ⟨bf, 0, none⟩)] 105)).alloc (.cells #[.slice A4 ws.length c4] 22)).alloc (.cells #[.bool true] 4)).alloc (.cells #[.func (.func 111) #[] #[.pointer (some ⟨gs, 0, none⟩), .pointer (some ⟨gd, 0, none⟩), .pointer (some ⟨W4.heap.size + 1, 0, none⟩), .pointer (some ⟨W4.heap.size + 1 + 1, 0, none⟩), .pointer (some ⟨W4.heap.size, 0, none⟩), .pointer (some ⟨W4.heap.size + 1 + 1 + 1, 0, none⟩)]] 114)) := below_step hb4 hX
 refine ⟨⟨below_step hb hbX, blk_below b1 hX, blk_below b2 hX, n2, n3, n1, n4, hF.below hX, ?_, hn h1, hn h2, hn (by omega), hn (by omega), hn (by omega), hn (by omega), hn h3, by omega, by omega, hD.stay _ _ _ _ hi (fun k hk _ => hbX.block k hk) hbX.size⟩, hX⟩
 exact Kd.R_below (Kd.R_lower (Kd.R_mono (Kd.R_bound hR) (fun k hk => hn (Nat.le_trans h4 hk.2.1))) (Nat.le_trans hbs h4)) hX
set_option maxHeartbeats 4000000 in
set_option maxRecDepth 100000 in
theorem impl_Space_words.calls {σ : Type} (I : World → (Nat → Prop) → σ → Prop) (D : σ → List Int → Option (σ × Bool)) (fd : Nat) (cd : Array Value) (wb : World) (hD : CBok I D fd cd wb) (n : Int) (A : Option Addr) (c : Nat) (l : List Int) (k : Nat) (st st' : σ) (C : Nat → Prop) (w : World) (hl : Kd.C (Kd.int .i64) wb A l.length l) (hc : l.length ≤ c) (hb : Below wb.heap.size wb w) (hi : I w C st) (h : impl_Space_words.run k n l D st = some st') :
  Calls Try.prog 63 #[.agg #[.int .i64 n, .slice A l.length c], .slice none 0 0, .func (.func fd) #[] cd] w fun e w' => e = .returned (.tuple #[]) ∧ ∃ C', I w' C' st' ∧ (∀ k, C' k → C k ∨ w.heap.size ≤ k) ∧ Kept w w' C ∧ Below wb.heap.size wb w' := by
 have hu := Try.underlying28
 unfold impl_Space_words.run at h
 obtain ⟨all, hall, h⟩ := Option.bind_eq_some_iff.1 h
 obtain ⟨F, hF, h⟩ := Option.bind_eq_some_iff.1 h
 obtain ⟨ws, hws, h⟩ := Option.bind_eq_some_iff.1 h
 obtain ⟨⟨so, sb⟩, hso, h⟩ := Option.bind_eq_some_iff.1 h
 obtain ⟨r, hr, h⟩ := Option.bind_eq_some_iff.1 h
 obtain rfl := Option.some.inj h
 obtain ⟨hM, rfl⟩ := famf_of hF
 have HL := asd hl
 have HC := asd hc
 have HB := asd hb
 have HI := asd hi
 have HD := asd hD
 have HALL := asd hall
 have HM := asd hM
 have HWS := asd hws
 have HSO := asd hso
 have HR := asd hr
 clear hl hc hb hi hD hall hF hws hso hr h hM
 go_enter Try.func63, Try.ntmps63
 have HB0 := asd (Below.refl w.heap.size w)
 go_wp2_with (first | ((with_reducible refine gate_dst (N := 3) rfl ?_); refine box_event ?hg (N := 3) ?hd (cs := #[.int .i64 n, .slice A l.length c]) (t := 28) ?hr ?_; (case hd => rfl); (case hg => rfl); (case hr => first | (go_simp; done) | (go_simp; rfl)); intro gs gse W1 gsb W1b; have HB1 := asd (below_step (by repeat (first | exact HB0.out | apply pw_below_drewN | apply below_drew1 | apply below_alloc)) W1b); have BK1 := asd gsb; have GE1 := asd ((by rw [gse]; exact below_size (by repeat (first | exact HB0.out | apply pw_below_drewN | apply below_drew1 | apply below_alloc))) : w.heap.size ≤ gs); skip; clear W1b gsb gse) | ((with_reducible refine gate_dst (N := 5) rfl ?_); refine box_event ?hg (N := 5) ?hd (cs := #[.func (.func fd) #[] cd]) (t := 75) ?hr ?_; (case hd => rfl); (case hg => rfl); (case hr => first | (go_simp; done) | (go_simp; rfl)); intro gd gde W2 gdb W2b; have HB2 := asd (below_step (by repeat (first | exact HB1.out | apply pw_below_drewN | apply below_drew1 | apply below_alloc)) W2b); have BK2 := asd gdb; have GE2 := asd ((by rw [gde]; exact below_size (by repeat (first | exact HB1.out | apply pw_below_drewN | apply below_drew1 | apply below_alloc))) : w.heap.size ≤ gd); have BK12 := asd (blk_below BK1.out W2b); have NE2 : Aside0 (gs ≠ gd) := ⟨by have := blk_lt BK1.out; omega⟩; have q1 : W2.cell? ⟨gs, 0, none⟩ = some (.int .i64 n) := (blk_cell BK12.out 0).trans rfl; have q2 : W2.cell? ⟨gs, 1, none⟩ = some (.slice A l.length c) := (blk_cell BK12.out 1).trans rfl; clear W2b gdb gde) | (go_at_call 102; (with_reducible refine (impl_Space_family.walk n A c l _ ?sa ?sb HM.out).mono ?_); (case sa => exact Kd.C_below HL.out (below_step HB.out HB2.out)); (case sb => exact HC.out); rintro e W3 ⟨bf, rfl, hf, hfb, hb3⟩; have HF3 := asd hf; have FB3 := asd hfb; have HB3 := asd (below_step HB2.out hb3); have BK13 := asd (blk_below BK12.out hb3); have BK23 := asd (blk_below BK2.out hb3); clear hf hfb hb3 q1 q2) | (go_at_call 65; (refine (slices_Clone_int_int.calls none 0 [] ws _ ?sc ?sd HWS.out).mono ?_); (case sc => exact (Kd.R_reads' (Kd.R_nil (Kd.int .i64) 3 _ 0 (fun _ => True))).2.2); (case sd => exact Nat.le_refl _); rintro e W4 ⟨v4, rfl, hR4, hb4⟩; obtain ⟨A4, c4, e4⟩ := Kd.R_slice hR4; subst e4; have HR4 := asd hR4; have HF4 := asd (HF3.out.below hb4); have FB4 := asd (Nat.le_trans HB2.out.size FB3.out); have HB4 := asd (below_step HB3.out hb4); have BK14 := asd (blk_below BK13.out hb4); have BK24 := asd (blk_below BK23.out hb4); have hR4k := asd hR4; obtain ⟨hS5, hX5⟩ := words_start HD.out HB.out HI.out (below_step HB3.out hb4) (blk_below BK13.out hb4) (blk_below BK23.out hb4) GE1.out GE2.out (Nat.le_trans HB2.out.size FB3.out) HB3.out.size (HF3.out.below hb4) hR4; have HS5 := asd hS5; have HX5 := asd hX5; have q1 : (((((W4.alloc (.cells #[.pointer (some ⟨bf, 0, none⟩)] 105)).alloc (.cells #[.slice A4 ws.length c4] 22)).alloc (.cells #[.bool true] 4)).alloc (.cells #[.func (.func 111) #[] #[.pointer (some ⟨gs, 0, none⟩), .pointer (some ⟨gd, 0, none⟩), .pointer (some ⟨W4.heap.size + 1, 0, none⟩), .pointer (some ⟨W4.heap.size + 1 + 1, 0, none⟩), .pointer (some ⟨W4.heap.size, 0, none⟩), .pointer (some ⟨W4.heap.size + 1 + 1 + 1, 0, none⟩)]] 114))).cell? ⟨gs, 0, none⟩ = some (.int .i64 n) := (blk_cell hS5.b1 0).trans rfl; have q2 : (((((W4.alloc (.cells #[.pointer (some ⟨bf, 0, none⟩)] 105)).alloc (.cells #[.slice A4 ws.length c4] 22)).alloc (.cells #[.bool true] 4)).alloc (.cells #[.func (.func 111) #[] #[.pointer (some ⟨gs, 0, none⟩), .pointer (some ⟨gd, 0, none⟩), .pointer (some ⟨W4.heap.size + 1, 0, none⟩), .pointer (some ⟨W4.heap.size + 1 + 1, 0, none⟩), .pointer (some ⟨W4.heap.size, 0, none⟩), .pointer (some ⟨W4.heap.size + 1 + 1 + 1, 0, none⟩)]] 114))).cell? ⟨gs, 1, none⟩ = some (.slice A l.length c) := (blk_cell hS5.b1 1).trans rfl; clear hR4 hb4 hS5 hX5) | (go_at_call 112; (refine (impl_Space_setOf.calls k n A c l none 0 [] so sb _ ?se ?sf ?sg ?sh HSO.out).mono ?_); (case se => exact Kd.C_below HL.out HS5.out.bel); (case sf => exact HC.out); (case sg => exact (Kd.R_reads' (Kd.R_nil (Kd.int .i64) 3 _ 0 (fun _ => True))).2.2); (case sh => exact Nat.le_refl _); rintro e W6 ⟨rfl, hb6⟩; have HS6 := asd (HS5.out.below HD.out hb6); have HB6 := asd (below_step (below_step HB4.out HX5.out) hb6); have q9 : W6.cell? ⟨W4.heap.size + 1 + 1 + 1, 0, none⟩ = some (.func (.func 111) #[] #[.pointer (some ⟨gs, 0, none⟩), .pointer (some ⟨gd, 0, none⟩), .pointer (some ⟨W4.heap.size + 1, 0, none⟩), .pointer (some ⟨W4.heap.size + 1 + 1, 0, none⟩), .pointer (some ⟨W4.heap.size, 0, none⟩), .pointer (some ⟨W4.heap.size + 1 + 1 + 1, 0, none⟩)]) := (blk_cell HS6.out.b6 0).trans rfl; have GG : Aside0 (w.heap.size ≤ W4.heap.size) := ⟨HB4.out.size⟩; clear hb6 q1 q2) | (go_at_call 111; (refine (impl_Space_words_1.calls I D fd cd wb HD.out gs gd _ _ _ _ bf n A c l (famOf l) all HL.out HC.out HALL.out k st true ws so r C _ _ HS6.out HR.out).mono ?_); rintro e W7 ⟨rfl, C', v', hS7, hK7, hC7, hv7⟩; have HS7 := asd hS7; have HK7 := asd hK7; have HC7 := asd hC7; have HRB := asd (Kd.R_base hR4k.out); clear hS7 hK7 hC7 hv7))
 ((try simp only [Exit.inBlock, Exit.then]); first | refine bodyPost_ret (results_none rfl _ _ _) rfl ?_ | refine bodyPost_end (results_none rfl _ _ _) rfl ?_)
 refine ⟨rfl, C', HS7.out.inv, fun k hk => ?_, ?_, HS7.out.bel⟩
 ·
  rcases HC7.out k hk with h1 | h1
  ·
   exact .inl h1
  ·
   exact .inr (Nat.le_trans HB6.out.size h1)
 ·
  refine (Kept.of_below HB6.out C).then_ HK7.out (fun k hk => ?_)
  have hgg := GG.out
  rcases hk with hk | hk | hk | hk
  ·
   exact .inl hk
  ·
   exact .inr (by omega)
  ·
   exact .inr (by omega)
  ·
   exact .inr (Nat.le_trans HB3.out.size (HRB.out k hk.symm))

-- HAND with (impl.Space).words+(impl.Space).words$1+(*impl.family).outer+impl.items
theorem ww_fold {n : Int} {l : List Int} (hS : isSpaceB n l = true) {σ : Type} (D : σ → List Int → Option (σ × Bool)) : ∀ (d m x : Nat) (ws : List Int) (st : σ) (r : σ × Bool), m + d = n.toNat → GInv n.toNat (famOf l) x m → ws.length = m → foldS D (allW (famOf l) d x ws) st true = some r → Ev (fun k => wordsW (2 ^ n.toNat - 1) (famOf l) D k st true ws x) r
  | 0, m, x, ws, st, r, hd, hG, hw, h => by
    obtain ⟨n1, n7, _⟩ := isSpaceB_parts hS
    have hall : (x : Int) = 2 ^ n.toNat - 1 := all_nat.2 ((hG.full (by omega)).2 (by omega))
    refine Ev.succ (fun k => by rw [wordsW, if_pos hall]) ?_
    refine Ev.const ?_
    have h : (D st ws).bind (fun r => some (r.1, r.2)) = some r := h
    obtain ⟨a, h1, h2⟩ := Option.bind_eq_some_iff.1 h
    rw [h1]
    exact h2
  | d + 1, m, x, ws, st, r, hd, hG, hw, h => by
    obtain ⟨n1, n7, _⟩ := isSpaceB_parts hS
    have hx128 := hG.x128 (n := n.toNat) (by omega)
    have hall : ¬ (x : Int) = 2 ^ n.toNat - 1 := fun e => by
      have := (hG.full (by omega)).1 (all_nat.1 e)
      omega
    refine Ev.succ (fun k => by rw [wordsW, if_neg hall]) ?_
    refine Ev.bindc (outer_f (famOf l) (famOf_length l) (x : Int) (by omega) (by omega)) ?_
    rw [Int.toNat_natCast]
    have ho : outerF (famOf l) x < 128 := maskOf_lt _
    refine Ev.bind (itemsE (x := ((outerF (famOf l) x : Nat) : Int)) (by omega) (by omega)) ?_
    have loop : ∀ (I : List Nat) (st : σ) (g : Bool) (r : σ × Bool), (∀ i ∈ I, (outerF (famOf l) x).testBit i = true) → foldS D (I.flatMap fun (i : Nat) => allW (famOf l) d (x ||| 2 ^ i) (ws ++ [(i : Int)])) st g = some r → Ev (fun k => loopF (fun st g ws set => wordsW (2 ^ n.toNat - 1) (famOf l) D k st g ws set) ws x (I.map fun (j : Nat) => (j : Int)) st g) r := by
      intro I
      induction I with
      | nil =>
        intro st g r _ h
        exact Ev.const h
      | cons i I ih =>
        intro st g r hI h
        cases g with
        | false =>
          rw [foldS_false] at h
          exact Ev.const h
        | true =>
          rw [List.flatMap_cons, foldS_append] at h
          obtain ⟨r1, h1, h2⟩ := Option.bind_eq_some_iff.1 h
          obtain ⟨hin, hxi, hG2⟩ := outer_next hS hG (hI i List.mem_cons_self)
          have h2i : 2 ^ i < 128 := two_lt128 (by omega)
          have hbits : Go.bits .or .i64 (x : Int) (shl .i64 1 (i : Int)) = ((x ||| 2 ^ i : Nat) : Int) := by rw [shl_one i (by omega), bits_or x (2 ^ i) (by omega) (by omega)]
          have hrec := ww_fold hS D d (m + 1) (x ||| 2 ^ i) (ws ++ [(i : Int)]) st r1 (by omega) hG2 (by rw [List.length_append, List.length_singleton, hw]) h1
          have hn := ih r1.1 r1.2 r (fun j hj => hI j (List.mem_cons_of_mem _ hj)) h2
          refine Ev.to (fun k => by rw [List.map_cons, loopF, if_pos rfl, if_pos ⟨by omega, by omega⟩, hbits]) ?_
          exact Ev.bind hrec hn
    exact loop (itemsN (outerF (famOf l) x)) st true r (fun i hi => itemsN_bit hi) h

-- HAND impl_AllWords_1: function 67
theorem info_rows : (Try.prog.info? 22).map (fun i => (i.zero, i.size, i.bytes)) = some (some (.slice none 0 0), 1, 24) := by kernel_rfl
/-- What the visitor keeps: all words so far. -/
def allD (s : List (List Int)) (ws : List Int) : Option (List (List Int) × Bool) := (slices_Clone_int_int.f ws).bind fun c => if s.length < 5864062014805 then some (s ++ [c], true) else none
structure RowsI (go : Nat) (wb W : World) (C : Nat → Prop) (s : List (List Int)) (v : Value) : Prop where
  own : C go
  bound : ∀ k, C k → k < W.heap.size
  b1 : W.heap[go]? = some (.cells #[v] 40 (0, 0))
  rows : Kd.S (Kd.slice 3 (Kd.int .i64)) 22 W wb.heap.size (fun k => C k ∧ k ≠ go) v s
  wo : wb.heap.size ≤ go
def RowsS (go : Nat) (wb W : World) (C : Nat → Prop) (s : List (List Int)) : Prop := ∃ v, RowsI go wb W C s v
theorem RowsI.stay {go : Nat} {wb W W' : World} {C : Nat → Prop} {s : List (List Int)} {v : Value} (h : RowsI go wb W C s v) (he : ∀ k, k < W.heap.size → C k → W'.heap[k]? = W.heap[k]?) (hs : W.heap.size ≤ W'.heap.size) : RowsI go wb W' C s v :=
  ⟨h.own, fun k hk => Nat.lt_of_lt_of_le (h.bound k hk) hs, (he go (blk_lt h.b1) h.own).trans h.b1, Kd.S_step h.rows (fun k hk hlt => he k hlt hk.1), h.wo⟩
theorem RowsI.below {go : Nat} {wb W W' : World} {C : Nat → Prop} {s : List (List Int)} {v : Value} (h : RowsI go wb W C s v) (hb : Below W.heap.size W W') : RowsI go wb W' C s v := h.stay (fun k hk _ => hb.block k hk) hb.size
set_option maxHeartbeats 4000000 in
set_option maxRecDepth 100000 in
theorem impl_AllWords_1.calls (go : Nat) (wb : World) (W : World) (C : Nat → Prop) (s : List (List Int)) (Aw : Option Addr) (cw : Nat) (xs : List Int) (r : List (List Int) × Bool) (hI : RowsS go wb W C s) (hb : Below wb.heap.size wb W) (hx : Kd.C (Kd.int .i64) W Aw xs.length xs) (hcx : xs.length ≤ cw) (h : allD s xs = some r) :
    Calls Try.prog 67 #[.slice Aw xs.length cw, .pointer (some ⟨go, 0, none⟩)] W fun e W' => e = .returned (.bool r.2) ∧ ∃ C', RowsS go wb W' C' r.1 ∧ (∀ k, C' k → C k ∨ W.heap.size ≤ k) ∧ Kept W W' C ∧ Below wb.heap.size wb W' := by
  obtain ⟨cl, hcl, h⟩ := Option.bind_eq_some_iff.1 h
  split at h
  · rename_i hlen
    obtain rfl := Option.some.inj h
    obtain ⟨v, hI⟩ := hI
    have HI := Aside0.mk hI
    have HB := Aside0.mk hb
    have HX := Aside0.mk hx
    have HCX := Aside0.mk hcx
    have HCL := Aside0.mk hcl
    have HLEN := Aside0.mk hlen
    have q1 : W.cell? ⟨go, 0, none⟩ = some v := (blk_cell hI.b1 0).trans rfl
    clear hI hb hx hcx hcl h hlen
    go_enter Try.func67, Try.ntmps67
    go_wp2
    have HWS : Aside0 (wb.heap.size ≤ W.heap.size) := ⟨HB.out.size⟩
    go_region_law (first | (go_simp; go_at_call 65; (refine (slices_Clone_int_int.calls Aw cw xs cl _ ?sa ?sb HCL.out).mono ?_); (case sa => exact Kd.C_drew HX.out); (case sb => exact HCX.out); rintro e W3 ⟨v3, rfl, hR3, hb3⟩; obtain ⟨A3, c3, e3⟩ := Kd.R_slice hR3; subst e3; have HR3 : Aside0 (Kd.R (Kd.int .i64) 3 W3 W.heap.size (fun _ => True) (.slice A3 cl.length c3) cl) := ⟨hR3⟩; have HB3 : Aside0 (Below W.heap.size W W3) := ⟨below_since1 hb3⟩; have HI3 := Aside0.mk (HI.out.below HB3.out); have q3 : W3.cell? ⟨go, 0, none⟩ = some v := (blk_cell HI3.out.b1 0).trans rfl; have q4 : (W3.alloc (.cells #[.slice A3 cl.length c3] 22)).cell? ⟨go, 0, none⟩ = some v := (blk_cell (blk_alloc HI3.out.b1 _) 0).trans rfl; clear hR3 hb3) | (refine Kd.S_append_step (Kd.slice 3 (Kd.int .i64)) (w0 := wb) wb.heap.size rfl (.tmp 4) (.tmp 7) 40 22 (.slice none 0 0) 24 rfl Try.underlying40 info_rows rfl (by decide) (by omega) v s cl [.slice A3 cl.length c3] (fun k => (C k ∧ k ≠ go) ∨ W.heap.size ≤ k) (fun k => some k = (Value.slice A3 cl.length c3).ownBlock) (by simp [Act.eval, Act.put]) (by simp [Act.eval, Act.put]) ?aP ?aK ?aF ?aO ?aB ?aS ?aL ?_; (case aP => exact Kd.M_row (Kd.R_mono (Kd.R_tight rfl (Kd.R_lower HR3.out HWS.out)) (fun _ h_ => h_))); (case aK => exact fun k hk => ⟨.inr (Kd.R_base HR3.out k hk.symm), fun e => absurd (Kd.S_lt HI.out.rows k e.symm) (Nat.not_lt.2 (Kd.R_base HR3.out k hk.symm))⟩); (case aF => exact fun k hk => .inr (Nat.le_trans HB3.out.size hk)); (case aO => exact Kd.S_mono (Kd.S_below (Kd.S_mono (ok' := fun k => (C k ∧ k ≠ go) ∧ k < W.heap.size) (Kd.S_bound HI.out.rows) (fun k hk => ⟨hk.1, hk.2.2.1⟩)) HB3.out) (fun k hk => ⟨.inl hk.1, fun e => absurd hk.2 (Nat.not_lt.2 (Kd.R_base HR3.out k e.symm))⟩)); (case aB => exact below_step HB.out HB3.out); (case aS => exact Nat.le_trans HWS.out HB3.out.size); (case aL => have := HLEN.out; omega); intro v1 w1 ho hb1 hg hat; obtain ⟨A1, c1, e1⟩ := Kd.S_slice ho; rw [List.length_append, List.length_singleton] at e1; subst e1; have HO := Aside0.mk ho; have HB1 := Aside0.mk hb1; have HG := Aside0.mk hg; have HB14 := Aside0.mk (blk_grown HI3.out.b1 hg (Kd.S_ne HI3.out.rows HI3.out.b1 (by decide))); have q5 : w1.cell? ⟨go, 0, none⟩ = some v := (blk_cell HB14.out 0).trans rfl; have f5 := blk_frozen HB14.out 0; clear ho hb1 hg hat))
    all_goals
      go_wp2
      go_ret
      have hs1 := HB3.out.size
      have hs2 := HG.out.size
      have hgo := HI.out.bound go HI.out.own
      refine ⟨rfl, fun k => C k ∨ (W.heap.size ≤ k ∧ k < w1.heap.size), ⟨_, .inl HI.out.own, fun k hk => ?_, blk_put HB14.out 0 _ rfl, Kd.S_set (Kd.S_mono (Kd.S_bound HO.out) (fun k hk => ?_)) HB14.out (by decide) 0 _, HI.out.wo⟩, fun k hk => hk.imp id (fun h => h.1), ?_, below_set HB1.out HI.out.wo⟩
      · rw [World.size_setCell]
        rcases hk with hk | hk
        · have := HI.out.bound k hk
          omega
        · exact hk.2
      · rcases hk.1 with h1 | h1
        · exact ⟨.inl h1.1, h1.2⟩
        · exact ⟨.inr ⟨h1, hk.2.2.1⟩, by omega⟩
      · exact (Kept.of_grown HG.out (Kept.of_below HB3.out C) (fun k hk => .inl ((Kd.S_R HI.out.rows).1 k hk).1)).setCell (p := ⟨go, 0, none⟩) (.inl HI.out.own) _
  · cases h
theorem impl_AllWords_1.cb (go : Nat) (wb : World) : CBok (RowsS go wb) allD 67 #[.pointer (some ⟨go, 0, none⟩)] wb where
  bound W C st h k hk := by
    obtain ⟨v, h⟩ := h
    exact h.bound k hk
  stay W W' C st h he hs := by
    obtain ⟨v, h⟩ := h
    exact ⟨v, h.stay he hs⟩
  enter := enters_of Try.func67 (by kernel_rfl) rfl
  run W C st Aw cw xs r hI hb hx hcx h := impl_AllWords_1.calls go wb W C st Aw cw xs r hI hb hx hcx h

-- HAND impl_AllWords: function 27
def impl_AllWords.f (k : Nat) (a0_0 : Int) (l0_1 : List Int) : Option (List (List Int) × Bool) := (impl_IsSpace.f a0_0 l0_1).bind fun b => if b = true then ((impl_Space_ways.f k a0_0 l0_1 0).bind fun m => if m > 200 then some ([], false) else ((impl_Space_words.run k a0_0 l0_1 allD []).bind fun s => some (s, true))) else some ([], false)
theorem impl_AllWords.mono (y0 : Int) (y1 : List Int) (k : Nat) : LeO (impl_AllWords.f k y0 y1) (impl_AllWords.f (k + 1) y0 y1) :=
 LeO.bind (LeO.refl _) fun b => LeO.ite (LeO.bind (impl_Space_ways.mono _ _ _ k) fun m => LeO.ite (LeO.refl _) (LeO.bind (impl_Space_words.run_mono (fun s ws => LeO.refl _) k _ _ _) fun s => LeO.refl _)) (LeO.refl _)
set_option maxHeartbeats 4000000 in
set_option maxRecDepth 100000 in
theorem impl_AllWords.calls (k : Nat) (a0_0 : Int) (A0_1 : Option Addr) (c0_1 : Nat) (l0_1 : List Int) (r1 : List (List Int)) (r2 : Bool) (w : World) (hr0_1 : Kd.C (Kd.int .i64) w A0_1 l0_1.length l0_1) (hc0_1 : l0_1.length ≤ c0_1) (h : impl_AllWords.f k a0_0 l0_1 = some (r1, r2)) :
  Calls Try.prog 27 #[.agg #[.int .i64 a0_0, .slice A0_1 l0_1.length c0_1]] w fun e w' => ∃ v0_ : Value, e = .returned (.tuple #[v0_, .bool r2]) ∧ Kd.S (Kd.slice 3 (Kd.int .i64)) 22 w' w.heap.size (fun _ => True) v0_ r1 ∧ Below w.heap.size w w' := by
 have hu := Try.underlying28
 obtain ⟨b, hb, h⟩ := Option.bind_eq_some_iff.1 h
 have HR := asd hr0_1
 have HC := asd hc0_1
 have HT := asd hb
 have HB0 := asd (Below.refl w.heap.size w)
 clear hr0_1 hc0_1 hb
 cases b with
 | false =>
  rw [if_neg (by decide)] at h
  obtain ⟨rfl, rfl⟩ : [] = r1 ∧ false = r2 := by simpa using h
  clear h
  go_enter Try.func27, Try.ntmps27
  go_wp2_with (first | ((with_reducible refine gate_dst (N := 1) rfl ?_); refine box_event ?hg (N := 1) ?hd (cs := #[.int .i64 a0_0, .slice A0_1 l0_1.length c0_1]) (t := 28) ?hr ?_; (case hd => rfl); (case hg => rfl); (case hr => first | (go_simp; done) | (go_simp; rfl)); intro gs gse W1 gsb W1b; have HB1 := asd (below_step (by repeat (first | exact HB0.out | apply pw_below_drewN | apply below_drew1 | apply below_alloc)) W1b); have BK1 := asd gsb; have GE1 := asd ((by rw [gse]; exact below_size (by repeat (first | exact HB0.out | apply pw_below_drewN | apply below_drew1 | apply below_alloc))) : w.heap.size ≤ gs); have q1 : W1.cell? ⟨gs, 0, none⟩ = some (.int .i64 a0_0) := (blk_cell BK1.out 0).trans rfl; have q2 : W1.cell? ⟨gs, 1, none⟩ = some (.slice A0_1 l0_1.length c0_1) := (blk_cell BK1.out 1).trans rfl; clear W1b gsb gse) | (go_at_call 47; (with_reducible refine (impl_IsSpace.calls a0_0 _ _ l0_1 false _ ?sa ?sb HT.out).mono ?_); (case sa => exact Kd.C_below HR.out HB1.out); (case sb => exact HC.out); rintro e W3 ⟨rfl, hb3⟩; have HB3 := asd (below_step HB1.out hb3); clear hb3))
  go_ret2
  exact ⟨_, rfl, Kd.S_nil _ _ _ _ _, HB3.out⟩
 | true =>
  rw [if_pos rfl] at h
  obtain ⟨m, hm, h⟩ := Option.bind_eq_some_iff.1 h
  have HM := asd hm
  clear hm
  by_cases hgt : m > 200
  ·
   rw [if_pos hgt] at h
   obtain ⟨rfl, rfl⟩ : [] = r1 ∧ false = r2 := by simpa using h
   have hgb : decide (200 < m) = true := decide_eq_true hgt
   clear h hgt
   go_enter Try.func27, Try.ntmps27
   go_wp2_with (first | ((with_reducible refine gate_dst (N := 1) rfl ?_); refine box_event ?hg (N := 1) ?hd (cs := #[.int .i64 a0_0, .slice A0_1 l0_1.length c0_1]) (t := 28) ?hr ?_; (case hd => rfl); (case hg => rfl); (case hr => first | (go_simp; done) | (go_simp; rfl)); intro gs gse W1 gsb W1b; have HB1 := asd (below_step (by repeat (first | exact HB0.out | apply pw_below_drewN | apply below_drew1 | apply below_alloc)) W1b); have BK1 := asd gsb; have GE1 := asd ((by rw [gse]; exact below_size (by repeat (first | exact HB0.out | apply pw_below_drewN | apply below_drew1 | apply below_alloc))) : w.heap.size ≤ gs); have q1 : W1.cell? ⟨gs, 0, none⟩ = some (.int .i64 a0_0) := (blk_cell BK1.out 0).trans rfl; have q2 : W1.cell? ⟨gs, 1, none⟩ = some (.slice A0_1 l0_1.length c0_1) := (blk_cell BK1.out 1).trans rfl; clear W1b gsb gse) | (go_at_call 47; (with_reducible refine (impl_IsSpace.calls a0_0 _ _ l0_1 true _ ?sa ?sb HT.out).mono ?_); (case sa => exact Kd.C_below HR.out HB1.out); (case sb => exact HC.out); rintro e W3 ⟨rfl, hb3⟩; have HB3 := asd (below_step HB1.out hb3); have BK3 := asd (blk_below BK1.out hb3); have p1 : W3.cell? ⟨gs, 0, none⟩ = some (.int .i64 a0_0) := (blk_cell BK3.out 0).trans rfl; have p2 : W3.cell? ⟨gs, 1, none⟩ = some (.slice A0_1 l0_1.length c0_1) := (blk_cell BK3.out 1).trans rfl; clear hb3) | (go_at_call 62; (with_reducible refine (impl_Space_ways.calls k a0_0 _ _ l0_1 0 m _ ?sa ?sb HM.out).mono ?_); (case sa => exact Kd.C_below HR.out HB3.out); (case sb => exact HC.out); rintro e W4 ⟨rfl, hb4⟩; have HB4 := asd (below_step HB3.out hb4); clear hb4))
   go_ret2
   exact ⟨_, rfl, Kd.S_nil _ _ _ _ _, HB4.out⟩
  ·
   rw [if_neg hgt] at h
   obtain ⟨out, hrun, h⟩ := Option.bind_eq_some_iff.1 h
   obtain ⟨rfl, rfl⟩ : out = r1 ∧ true = r2 := by simpa using h
   have hgb : decide (200 < m) = false := decide_eq_false hgt
   have HRUN := asd hrun
   clear h hgt hrun
   go_enter Try.func27, Try.ntmps27
   go_wp2_with (first | ((with_reducible refine gate_dst (N := 1) rfl ?_); refine box_event ?hg (N := 1) ?hd (cs := #[.int .i64 a0_0, .slice A0_1 l0_1.length c0_1]) (t := 28) ?hr ?_; (case hd => rfl); (case hg => rfl); (case hr => first | (go_simp; done) | (go_simp; rfl)); intro gs gse W1 gsb W1b; have HB1 := asd (below_step (by repeat (first | exact HB0.out | apply pw_below_drewN | apply below_drew1 | apply below_alloc)) W1b); have BK1 := asd gsb; have GE1 := asd ((by rw [gse]; exact below_size (by repeat (first | exact HB0.out | apply pw_below_drewN | apply below_drew1 | apply below_alloc))) : w.heap.size ≤ gs); have q1 : W1.cell? ⟨gs, 0, none⟩ = some (.int .i64 a0_0) := (blk_cell BK1.out 0).trans rfl; have q2 : W1.cell? ⟨gs, 1, none⟩ = some (.slice A0_1 l0_1.length c0_1) := (blk_cell BK1.out 1).trans rfl; clear W1b gsb gse) | (go_at_call 47; (with_reducible refine (impl_IsSpace.calls a0_0 _ _ l0_1 true _ ?sa ?sb HT.out).mono ?_); (case sa => exact Kd.C_below HR.out HB1.out); (case sb => exact HC.out); rintro e W3 ⟨rfl, hb3⟩; have HB3 := asd (below_step HB1.out hb3); have BK3 := asd (blk_below BK1.out hb3); have p1 : W3.cell? ⟨gs, 0, none⟩ = some (.int .i64 a0_0) := (blk_cell BK3.out 0).trans rfl; have p2 : W3.cell? ⟨gs, 1, none⟩ = some (.slice A0_1 l0_1.length c0_1) := (blk_cell BK3.out 1).trans rfl; clear hb3) | (go_at_call 62; (with_reducible refine (impl_Space_ways.calls k a0_0 _ _ l0_1 0 m _ ?sa ?sb HM.out).mono ?_); (case sa => exact Kd.C_below HR.out HB3.out); (case sb => exact HC.out); rintro e W4 ⟨rfl, hb4⟩; have HB4 := asd (below_step HB3.out hb4); have BK4 := asd (blk_below BK3.out hb4); clear hb4 q1 q2 p1 p2) | ((with_reducible refine gate_dst (N := 13) rfl ?_); refine Kd.S_lit (Kd.slice 3 (Kd.int .i64)) _ 22 ?hg (N := 13) ?hd (xs := ([] : List (List Int))) (inner := []) (ok := fun _ => True) (okp := fun _ => True) ?hr ?hp (fun _ hk => hk) trivial (Below.refl _ _) (Nat.le_refl _) (by simp) ?_; (case hd => rfl); (case hg => rfl); (case hr => first | (go_simp; done) | (go_simp; rfl)); (case hp => exact (Reps.none _ _)); intro v5 W5 hR5 hb5 hg5 hn5; obtain ⟨A5, c5, e5⟩ := Kd.S_slice hR5; rw [List.length_nil] at e5; subst e5; have HB5 := asd (below_step HB4.out hb5); have HX := asd (below_alloc (Below.refl W5.heap.size W5) (.cells #[.slice A5 0 c5] 40)); have HBX := asd (below_step HB5.out HX.out); have HN := asd (blk_new W5 (.cells #[.slice A5 0 c5] 40)); have HROW := asd (Kd.S_lower (Kd.S_mono (ok' := fun k => (k = W5.heap.size ∨ (W4.heap.size ≤ k ∧ k < W5.heap.size)) ∧ k ≠ W5.heap.size) (Kd.S_bound hR5) (fun k hk => ⟨.inr ⟨hk.2.1, hk.2.2.1⟩, Nat.ne_of_lt hk.2.2.1⟩)) HB4.out.size); have p1 : (W5.alloc (.cells #[.slice A5 0 c5] 40)).cell? ⟨gs, 0, none⟩ = some (.int .i64 a0_0) := (blk_cell (blk_below (blk_below BK4.out hb5) HX.out) 0).trans rfl; have p2 : (W5.alloc (.cells #[.slice A5 0 c5] 40)).cell? ⟨gs, 1, none⟩ = some (.slice A0_1 l0_1.length c0_1) := (blk_cell (blk_below (blk_below BK4.out hb5) HX.out) 1).trans rfl; clear hR5 hb5 hg5 hn5) | (go_at_call 63; (refine (impl_Space_words.calls (RowsS W5.heap.size w) allD _ _ w (impl_AllWords_1.cb W5.heap.size w) a0_0 A0_1 c0_1 l0_1 k [] out (fun k => k = W5.heap.size ∨ (W4.heap.size ≤ k ∧ k < W5.heap.size)) _ HR.out HC.out HBX.out ⟨_, .inl rfl, fun k hk => by rw [World.size_alloc]; rcases hk with hk | hk <;> omega, HN.out, Kd.S_below HROW.out HX.out, HB5.out.size⟩ HRUN.out).mono ?_); rintro e W6 ⟨rfl, C', ⟨v6, hI6⟩, hC', hK, hB6⟩; have HB6 := asd hB6; have HI6 := asd hI6; have z6 : W6.cell? ⟨W5.heap.size, 0, none⟩ = some v6 := (blk_cell hI6.b1 0).trans rfl; clear hI6 hC' hK hB6 p1 p2))
   go_ret2
   exact ⟨v6, rfl, Kd.S_mono HI6.out.rows (fun _ _ => trivial), HB6.out⟩

/-! ### laws_eqIntSS: function 28 -/
def laws_eqIntSS.l0 : Nat → List (List Int) → List (List Int) → Int → Option (Bool)
 | 0, _, _, _ => none
 | k + 1, x0, x1, x5 => if x5 < (x0.length : Int) then (if 0 ≤ x5 then (if x5 < (x1.length : Int) then ((laws_eqIntS.f k (rd_L9 x0 x5) (rd_L9 x1 x5)).bind fun t103 => (if t103 = true then (laws_eqIntSS.l0 k x0 x1 (wrap64 (x5 + 1))) else (some false))) else (none)) else (none)) else (some true)
def laws_eqIntSS.f (k : Nat) (l0 : List (List Int)) (l1 : List (List Int)) : Option (Bool) := if (l0.length : Int) = (l1.length : Int) then (laws_eqIntSS.l0 k l0 l1 0) else (some false)
theorem laws_eqIntSS.mono_l : ∀ k, (∀ y0 y1 y2, LeO (laws_eqIntSS.l0 k y0 y1 y2) (laws_eqIntSS.l0 (k + 1) y0 y1 y2))
 | 0 => fun _ _ _ r h => by simp [laws_eqIntSS.l0] at h
 | k + 1 => by
  have ih0 := laws_eqIntSS.mono_l k
  ·
   intro y0 y1 y2
   unfold laws_eqIntSS.l0
   repeat' first
   | (with_reducible exact ih0 _ _ _)
   | (with_reducible exact laws_eqIntS.mono _ _ _)
   | (with_reducible exact LeO.refl _)
   | (with_reducible exact LeO.none _)
   | (with_reducible refine LeO.ite ?_ ?_)
   | (with_reducible refine LeO.bind ?_ (fun _ => ?_))
   | exact ih0 _ _ _
   | exact laws_eqIntS.mono _ _ _
   | exact LeO.none _
   | refine LeO.ite ?_ ?_
   | refine LeO.bind ?_ (fun _ => ?_)
theorem laws_eqIntSS.mono : ∀ a0 a1 k, LeO (laws_eqIntSS.f k a0 a1) (laws_eqIntSS.f (k + 1) a0 a1) := by
 intro a0 a1 k
 have ih0 := laws_eqIntSS.mono_l k
 unfold laws_eqIntSS.f
 repeat' first
   | (with_reducible exact ih0 _ _ _)
   | (with_reducible exact laws_eqIntS.mono _ _ _)
   | (with_reducible exact LeO.refl _)
   | (with_reducible exact LeO.none _)
   | (with_reducible refine LeO.ite ?_ ?_)
   | (with_reducible refine LeO.bind ?_ (fun _ => ?_))
   | exact ih0 _ _ _
   | exact laws_eqIntS.mono _ _ _
   | exact LeO.none _
   | refine LeO.ite ?_ ?_
   | refine LeO.bind ?_ (fun _ => ?_)
set_option maxHeartbeats 8000000 in
set_option maxRecDepth 100000 in
theorem laws_eqIntSS.calls (k : Nat) (A0 : Option Addr) (c0 : Nat) (l0 : List (List Int)) (A1 : Option Addr) (c1 : Nat) (l1 : List (List Int)) (r : Bool) (w : World) (hr0 : Kd.C (Kd.slice 3 (Kd.int .i64)) w A0 l0.length l0) (hc0 : l0.length ≤ c0) (hr1 : Kd.C (Kd.slice 3 (Kd.int .i64)) w A1 l1.length l1) (hc1 : l1.length ≤ c1) (h : laws_eqIntSS.f k l0 l1 = some r) :
  Calls Try.prog 28 #[.slice A0 l0.length c0, .slice A1 l1.length c1] w fun e w' => e = .returned (.bool r) ∧ Drawn0 w w' := by
 have HR0 := asd hr0
 have HC0 := asd hc0
 clear hr0 hc0
 have HR1 := asd hr1
 have HC1 := asd hc1
 clear hr1 hc1
 have H : (if (l0.length : Int) = (l1.length : Int) then (laws_eqIntSS.l0 k l0 l1 0) else (some false)) = some r := h
 clear h
 by_cases c3 : (l0.length : Int) = (l1.length : Int)
 ·
  rw [if_pos c3] at H
  have c3b0 : ((l0.length : Int) == (l1.length : Int)) = true := beq_iff_eq.mpr c3
  have c3b1 : ((l0.length : Int) != (l1.length : Int)) = false := bne_eq_false_iff_eq.mpr c3
  have c3b2 : (l0.length == l1.length) = true := by first | simpa using c3 | (simp at c3 ⊢; omega)
  clear c3
  have H' := asd H
  clear H
  go_enter Try.func28, Try.ntmps28
  go_wp2
  repeat (go_quiet (fail); try go_wp2)
  go_loopg [5] k (fun kq v5 w' => ∃ (x5_1 : Int), v5 = .int .i64 x5_1 ∧ Aside0 (laws_eqIntSS.l0 kq l0 l1 x5_1 = some r) ∧ Aside0 (kq ≤ k) ∧ Drawn0 w w')
  case atStart => exact ⟨(0), (by first | rfl | (simp; done) | (simp [*]; done)), H', ⟨Nat.le_refl _⟩, by repeat (first | exact Drawn0.refl _ | apply Drawn0.step)⟩
  case round =>
   clear H'
   try clear c1
   try clear c2
   try clear p2
   try clear c3
   try clear c3b0
   try clear c3b1
   try clear c3b2
   skip
   obtain ⟨x5_1, rfl, HA, HK1, ⟨m1, rfl⟩⟩ := hrel
   cases gk with
   | zero => exact absurd HA.out (by simp [laws_eqIntSS.l0])
   | succ k1 =>
    have H := HA.out
    clear HA
    simp only [laws_eqIntSS.l0] at H
    by_cases c4 : x5_1 < (l0.length : Int)
    ·
     rw [if_pos c4] at H
     have c4b0 : decide (x5_1 < (l0.length : Int)) = true := decide_eq_true c4
     clear c4
     by_cases c5 : 0 ≤ x5_1
     ·
      rw [if_pos c5] at H
      have c5b0 : decide (0 ≤ x5_1) = true := decide_eq_true c5
      clear c5
      by_cases c6 : x5_1 < (l1.length : Int)
      ·
       rw [if_pos c6] at H
       have c6b0 : decide (x5_1 < (l1.length : Int)) = true := decide_eq_true c6
       clear c6
       replace H := Option.bind_eq_some_iff.mp H
       obtain ⟨t103, A70, H⟩ := H
       replace H : (if t103 = true then (laws_eqIntSS.l0 k1 l0 l1 (wrap64 (x5_1 + 1))) else (some false)) = some r := H
       have A7 := asd A70
       clear A70
       by_cases c8 : t103 = true
       ·
        subst c8
        have H1 : (laws_eqIntSS.l0 k1 l0 l1 (wrap64 (x5_1 + 1))) = some r := by rw [if_pos rfl] at H; exact H
        clear H
        have H := H1
        clear H1
        have H' := asd H
        clear H
        have p101 : 0 ≤ (x5_1 : Int) := of_decide_eq_true (by first | (with_reducible assumption) | assumption)
        have q101 : x5_1 < (l0.length : Int) := of_decide_eq_true (by first | (with_reducible assumption) | assumption)
        obtain ⟨ad101, A101_0, c101_0, e101, hx101_0, hl101_0, hi101_0⟩ := at_L9 HR0.out x5_1 p101 q101
        cases e101
        have HR101_0 := asd hi101_0
        have HC101_0 := asd hl101_0
        clear hi101_0 hl101_0
        replace p101 := eq_true p101
        replace q101 := eq_true q101
        have p102 : 0 ≤ (x5_1 : Int) := of_decide_eq_true (by first | (with_reducible assumption) | assumption)
        have q102 : x5_1 < (l1.length : Int) := of_decide_eq_true (by first | (with_reducible assumption) | assumption)
        obtain ⟨ad102, A102_0, c102_0, e102, hx102_0, hl102_0, hi102_0⟩ := at_L9 HR1.out x5_1 p102 q102
        cases e102
        have HR102_0 := asd hi102_0
        have HC102_0 := asd hl102_0
        clear hi102_0 hl102_0
        replace p102 := eq_true p102
        replace q102 := eq_true q102
        go_wp2_with (first | (go_at_call 22; (with_reducible refine (laws_eqIntS.calls k1 _ _ (rd_L9 l0 x5_1) _ _ (rd_L9 l1 x5_1) true _ ?side1 ?side2 ?side3 ?side4 A7.out).mono ?_); (case side1 => repeat (first | exact HR101_0.out | (with_reducible refine Kd.C_alloc ?_ _) | (with_reducible refine Kd.C_drewN ?_ _) | (with_reducible refine Kd.C_drew ?_))); (case side2 => exact HC101_0.out); (case side3 => repeat (first | exact HR102_0.out | (with_reducible refine Kd.C_alloc ?_ _) | (with_reducible refine Kd.C_drewN ?_ _) | (with_reducible refine Kd.C_drew ?_))); (case side4 => exact HC102_0.out); rintro e w' ⟨rfl, ⟨nd, rfl⟩⟩; (try first | exact ⟨rfl, _, World.drewN_drewN _ _ _⟩ | exact ⟨rfl, _, Eq.trans (World.drewN_drewN _ _ _) (congrArg (World.drewN _) (Nat.add_assoc _ _ _))⟩)))
        repeat (go_quiet (first | (go_at_call 22; (with_reducible refine (laws_eqIntS.calls k1 _ _ (rd_L9 l0 x5_1) _ _ (rd_L9 l1 x5_1) true _ ?side1 ?side2 ?side3 ?side4 A7.out).mono ?_); (case side1 => repeat (first | exact HR101_0.out | (with_reducible refine Kd.C_alloc ?_ _) | (with_reducible refine Kd.C_drewN ?_ _) | (with_reducible refine Kd.C_drew ?_))); (case side2 => exact HC101_0.out); (case side3 => repeat (first | exact HR102_0.out | (with_reducible refine Kd.C_alloc ?_ _) | (with_reducible refine Kd.C_drewN ?_ _) | (with_reducible refine Kd.C_drew ?_))); (case side4 => exact HC102_0.out); rintro e w' ⟨rfl, ⟨nd, rfl⟩⟩; (try first | exact ⟨rfl, _, World.drewN_drewN _ _ _⟩ | exact ⟨rfl, _, Eq.trans (World.drewN_drewN _ _ _) (congrArg (World.drewN _) (Nat.add_assoc _ _ _))⟩))); try go_wp2_with (first | (go_at_call 22; (with_reducible refine (laws_eqIntS.calls k1 _ _ (rd_L9 l0 x5_1) _ _ (rd_L9 l1 x5_1) true _ ?side1 ?side2 ?side3 ?side4 A7.out).mono ?_); (case side1 => repeat (first | exact HR101_0.out | (with_reducible refine Kd.C_alloc ?_ _) | (with_reducible refine Kd.C_drewN ?_ _) | (with_reducible refine Kd.C_drew ?_))); (case side2 => exact HC101_0.out); (case side3 => repeat (first | exact HR102_0.out | (with_reducible refine Kd.C_alloc ?_ _) | (with_reducible refine Kd.C_drewN ?_ _) | (with_reducible refine Kd.C_drew ?_))); (case side4 => exact HC102_0.out); rintro e w' ⟨rfl, ⟨nd, rfl⟩⟩; (try first | exact ⟨rfl, _, World.drewN_drewN _ _ _⟩ | exact ⟨rfl, _, Eq.trans (World.drewN_drewN _ _ _) (congrArg (World.drewN _) (Nat.add_assoc _ _ _))⟩))))
        go_roundg k1
        case measure => have := HK1.out; omega
        case rel => exact ⟨(wrap64 (x5_1 + 1)), (by first | rfl | (simp; done) | (simp [*]; done)), H', ⟨by have := HK1.out; omega⟩, by repeat (first | exact Drawn0.refl _ | apply Drawn0.step)⟩
       ·
        replace c8 := Bool.eq_false_iff.mpr c8
        subst c8
        have H1 : (some false) = some r := by rw [if_neg (show ¬ (false = true) by decide)] at H; exact H
        clear H
        have H := H1
        clear H1
        obtain rfl := Option.some.inj H
        have p101 : 0 ≤ (x5_1 : Int) := of_decide_eq_true (by first | (with_reducible assumption) | assumption)
        have q101 : x5_1 < (l0.length : Int) := of_decide_eq_true (by first | (with_reducible assumption) | assumption)
        obtain ⟨ad101, A101_0, c101_0, e101, hx101_0, hl101_0, hi101_0⟩ := at_L9 HR0.out x5_1 p101 q101
        cases e101
        have HR101_0 := asd hi101_0
        have HC101_0 := asd hl101_0
        clear hi101_0 hl101_0
        replace p101 := eq_true p101
        replace q101 := eq_true q101
        have p102 : 0 ≤ (x5_1 : Int) := of_decide_eq_true (by first | (with_reducible assumption) | assumption)
        have q102 : x5_1 < (l1.length : Int) := of_decide_eq_true (by first | (with_reducible assumption) | assumption)
        obtain ⟨ad102, A102_0, c102_0, e102, hx102_0, hl102_0, hi102_0⟩ := at_L9 HR1.out x5_1 p102 q102
        cases e102
        have HR102_0 := asd hi102_0
        have HC102_0 := asd hl102_0
        clear hi102_0 hl102_0
        replace p102 := eq_true p102
        replace q102 := eq_true q102
        go_wp2_with (first | (go_at_call 22; (with_reducible refine (laws_eqIntS.calls k1 _ _ (rd_L9 l0 x5_1) _ _ (rd_L9 l1 x5_1) false _ ?side1 ?side2 ?side3 ?side4 A7.out).mono ?_); (case side1 => repeat (first | exact HR101_0.out | (with_reducible refine Kd.C_alloc ?_ _) | (with_reducible refine Kd.C_drewN ?_ _) | (with_reducible refine Kd.C_drew ?_))); (case side2 => exact HC101_0.out); (case side3 => repeat (first | exact HR102_0.out | (with_reducible refine Kd.C_alloc ?_ _) | (with_reducible refine Kd.C_drewN ?_ _) | (with_reducible refine Kd.C_drew ?_))); (case side4 => exact HC102_0.out); rintro e w' ⟨rfl, ⟨nd, rfl⟩⟩; (try first | exact ⟨rfl, _, World.drewN_drewN _ _ _⟩ | exact ⟨rfl, _, Eq.trans (World.drewN_drewN _ _ _) (congrArg (World.drewN _) (Nat.add_assoc _ _ _))⟩)))
        repeat (go_quiet (first | (go_at_call 22; (with_reducible refine (laws_eqIntS.calls k1 _ _ (rd_L9 l0 x5_1) _ _ (rd_L9 l1 x5_1) false _ ?side1 ?side2 ?side3 ?side4 A7.out).mono ?_); (case side1 => repeat (first | exact HR101_0.out | (with_reducible refine Kd.C_alloc ?_ _) | (with_reducible refine Kd.C_drewN ?_ _) | (with_reducible refine Kd.C_drew ?_))); (case side2 => exact HC101_0.out); (case side3 => repeat (first | exact HR102_0.out | (with_reducible refine Kd.C_alloc ?_ _) | (with_reducible refine Kd.C_drewN ?_ _) | (with_reducible refine Kd.C_drew ?_))); (case side4 => exact HC102_0.out); rintro e w' ⟨rfl, ⟨nd, rfl⟩⟩; (try first | exact ⟨rfl, _, World.drewN_drewN _ _ _⟩ | exact ⟨rfl, _, Eq.trans (World.drewN_drewN _ _ _) (congrArg (World.drewN _) (Nat.add_assoc _ _ _))⟩))); try go_wp2_with (first | (go_at_call 22; (with_reducible refine (laws_eqIntS.calls k1 _ _ (rd_L9 l0 x5_1) _ _ (rd_L9 l1 x5_1) false _ ?side1 ?side2 ?side3 ?side4 A7.out).mono ?_); (case side1 => repeat (first | exact HR101_0.out | (with_reducible refine Kd.C_alloc ?_ _) | (with_reducible refine Kd.C_drewN ?_ _) | (with_reducible refine Kd.C_drew ?_))); (case side2 => exact HC101_0.out); (case side3 => repeat (first | exact HR102_0.out | (with_reducible refine Kd.C_alloc ?_ _) | (with_reducible refine Kd.C_drewN ?_ _) | (with_reducible refine Kd.C_drew ?_))); (case side4 => exact HC102_0.out); rintro e w' ⟨rfl, ⟨nd, rfl⟩⟩; (try first | exact ⟨rfl, _, World.drewN_drewN _ _ _⟩ | exact ⟨rfl, _, Eq.trans (World.drewN_drewN _ _ _) (congrArg (World.drewN _) (Nat.add_assoc _ _ _))⟩))))
        go_ret
        exact ⟨by first | rfl | (simp; done) | (simp [*]; done), by repeat (first | exact Drawn0.refl _ | apply Drawn0.step)⟩
      ·
       rw [if_neg c6] at H
       exact absurd H (by simp)
     ·
      rw [if_neg c5] at H
      exact absurd H (by simp)
    ·
     rw [if_neg c4] at H
     have c4b0 : decide (x5_1 < (l0.length : Int)) = false := decide_eq_false c4
     clear c4
     obtain rfl := Option.some.inj H
     go_wp2
     repeat (go_quiet (fail); try go_wp2)
     go_ret
     exact ⟨by first | rfl | (simp; done) | (simp [*]; done), by repeat (first | exact Drawn0.refl _ | apply Drawn0.step)⟩
 ·
  rw [if_neg c3] at H
  have c3b0 : ((l0.length : Int) == (l1.length : Int)) = false := beq_eq_false_iff_ne.mpr c3
  have c3b1 : ((l0.length : Int) != (l1.length : Int)) = true := bne_iff_ne.mpr c3
  have c3b2 : (l0.length == l1.length) = false := by first | simpa using c3 | (simp at c3 ⊢; omega)
  obtain rfl := Option.some.inj H
  go_enter Try.func28, Try.ntmps28
  go_wp2
  repeat (go_quiet (fail); try go_wp2)
  go_ret
  exact ⟨by first | rfl | (simp; done) | (simp [*]; done), by repeat (first | exact Drawn0.refl _ | apply Drawn0.step)⟩

-- HAND with laws.eqIntSS+laws.eqIntS
theorem eqIntSS_loop (ws : List (List Int)) (hl : ws.length ≤ 1048576) (hw : ∀ w ∈ ws, w.length ≤ 35184372088832) : ∀ (d i : Nat), ws.length - i = d → i ≤ ws.length → Ev (fun k => laws_eqIntSS.l0 k ws ws i) true := by
  intro d
  induction d with
  | zero =>
    intro i hd hi
    exact Ev.succ (fun k => by simp only [laws_eqIntSS.l0]; rw [if_neg (by omega)]) (Ev.const rfl)
  | succ d ih =>
    intro i hd hi
    have hil : i < ws.length := by omega
    have hrd : rd_L9 ws (i : Int) = ws[i] := by
      show ws.getD ((i : Int)).toNat [] = _
      rw [Int.toNat_natCast]
      simp [List.getD, hil]
    have hn := ih (i + 1) (by omega) (by omega)
    push_cast at hn
    have := hw _ (List.getElem_mem hil)
    refine Ev.succ (fun k => by simp only [laws_eqIntSS.l0]; rw [if_pos (by omega), if_pos (by omega), if_pos (by omega), hrd]) ?_
    refine Ev.bind (eqIntS_refl ws[i] (by omega)) ?_
    exact Ev.to (fun k => by rw [if_pos rfl, wrap_succ (by omega) (by omega)]) hn
theorem eqIntSS_refl (ws : List (List Int)) (hl : ws.length ≤ 1048576) (hw : ∀ w ∈ ws, w.length ≤ 35184372088832) : Ev (fun k => laws_eqIntSS.f k ws ws) true := by
  refine Ev.to (fun k => by unfold laws_eqIntSS.f; rw [if_pos rfl]) ?_
  exact eqIntSS_loop ws hl hw ws.length 0 (by omega) (by omega)

-- HAND laws_markIntSS: function 29
/-- The rows when i of them are marked. -/
def markTo : Int → List (List Int) → Nat → List (List Int)
  | _, ls, 0 => ls
  | _, [], _ + 1 => []
  | a, x :: r, i + 1 => numsFrom a x.length :: markTo (a + x.length) r i
def totTo : List (List Int) → Nat → Int
  | _, 0 => 0
  | [], _ + 1 => 0
  | x :: r, i + 1 => x.length + totTo r i
theorem markTo_len : ∀ (ls : List (List Int)) (a : Int) (i : Nat), (markTo a ls i).length = ls.length
  | ls, a, 0 => by unfold markTo; rfl
  | [], a, i + 1 => rfl
  | x :: r, a, i + 1 => by
    show (numsFrom a x.length :: markTo (a + x.length) r i).length = _
    rw [List.length_cons, markTo_len r, List.length_cons]
theorem markTo_get : ∀ (ls : List (List Int)) (a : Int) (i : Nat), (markTo a ls i).getD i [] = ls.getD i []
  | ls, a, 0 => by unfold markTo; rfl
  | [], a, i + 1 => rfl
  | x :: r, a, i + 1 => by
    show (numsFrom a x.length :: markTo (a + x.length) r i).getD (i + 1) [] = (x :: r).getD (i + 1) []
    rw [List.getD_cons_succ, List.getD_cons_succ]
    exact markTo_get r _ i
theorem markTo_set : ∀ (ls : List (List Int)) (a : Int) (i : Nat), i < ls.length → (markTo a ls i).set i (numsFrom (a + totTo ls i) (ls.getD i []).length) = markTo a ls (i + 1)
  | [], a, i, h => absurd h (Nat.not_lt_zero _)
  | x :: r, a, 0, _ => by
    show (x :: r).set 0 (numsFrom (a + 0) x.length) = numsFrom a x.length :: markTo (a + x.length) r 0
    rw [Int.add_zero, List.set_cons_zero]
    unfold markTo
    rfl
  | x :: r, a, i + 1, h => by
    show (numsFrom a x.length :: markTo (a + x.length) r i).set (i + 1) (numsFrom (a + (x.length + totTo r i)) ((x :: r).getD (i + 1) []).length) = numsFrom a x.length :: markTo (a + x.length) r (i + 1)
    rw [List.set_cons_succ, List.getD_cons_succ, ← Int.add_assoc, markTo_set r _ i (by simpa using h)]
theorem totTo_succ : ∀ (ls : List (List Int)) (i : Nat), i < ls.length → totTo ls (i + 1) = totTo ls i + ((ls.getD i []).length : Int)
  | [], i, h => absurd h (Nat.not_lt_zero _)
  | x :: r, 0, _ => by
    show (x.length : Int) + totTo r 0 = 0 + (x.length : Int)
    unfold totTo
    omega
  | x :: r, i + 1, h => by
    show (x.length : Int) + totTo r (i + 1) = x.length + totTo r i + _
    rw [totTo_succ r i (by simpa using h), List.getD_cons_succ, Int.add_assoc]
theorem totTo_le : ∀ (ls : List (List Int)), (∀ x ∈ ls, x.length ≤ 1048576) → ∀ i : Nat, 0 ≤ totTo ls i ∧ totTo ls i ≤ 1048576 * (i : Int)
  | ls, _, 0 => ⟨by unfold totTo; omega, by unfold totTo; omega⟩
  | [], _, i + 1 => ⟨by show (0 : Int) ≤ 0; omega, by show (0 : Int) ≤ _; omega⟩
  | x :: r, h, i + 1 => by
    have h1 := totTo_le r (fun y hy => h y (List.mem_cons_of_mem _ hy)) i
    have h2 := h x List.mem_cons_self
    show 0 ≤ (x.length : Int) + totTo r i ∧ (x.length : Int) + totTo r i ≤ _
    push_cast
    omega
theorem rowAt_le {ls : List (List Int)} (h : ∀ x ∈ ls, x.length ≤ 1048576) (i : Nat) : (ls.getD i []).length ≤ 1048576 := by
  rw [List.getD_eq_getElem?_getD]
  by_cases hi : i < ls.length
  · rw [List.getElem?_eq_getElem hi]
    exact h _ (List.getElem_mem hi)
  · rw [List.getElem?_eq_none (by omega)]
    exact Nat.zero_le _
set_option maxHeartbeats 1000000 in
set_option maxRecDepth 100000 in
theorem laws_markIntSS.calls (P : Nat → Prop) (u : Value) (ls : List (List Int)) (a : Int) (w0 w : World) (hB : Below w0.heap.size w0 w) (ho : Kd.S (Kd.slice 3 (Kd.int .i64)) 22 w w0.heap.size P u ls) (ha : 0 ≤ a) (ha2 : a ≤ 1048577) (hn : ls.length ≤ 1048576) (hw : ∀ x ∈ ls, x.length ≤ 1048576) :
    Calls Try.prog 29 #[u, .int .i64 a] w fun e w' => e = .returned (.int .i64 (a + totTo ls ls.length)) ∧ Kd.S (Kd.slice 3 (Kd.int .i64)) 22 w' w0.heap.size P u (markTo a ls ls.length) ∧ Below w0.heap.size w0 w' ∧ Kept w w' P := by
  obtain ⟨A, c, rfl⟩ := Kd.S_slice ho
  have HO := Aside0.mk ho
  have HB0 := Aside0.mk hB
  have HWL := Aside0.mk hw
  clear ho hB hw
  go_enter Try.func29, Try.ntmps29
  go_wp2
  go_loopw [1, 5] (fun v1 v5 wr => ∃ i : Nat, Aside0 (i ≤ ls.length) ∧ v1 = .int .i64 (a + totTo ls i) ∧ v5 = .int .i64 i ∧ Aside0 (Kd.S (Kd.slice 3 (Kd.int .i64)) 22 wr w0.heap.size P (.slice A ls.length c) (markTo a ls i)) ∧ Aside0 (Below w0.heap.size w0 wr) ∧ Aside0 (Kept w wr P)) (fun _ v5 _ => ls.length - (intOf v5).toNat)
  case atStart => exact ⟨0, ⟨Nat.zero_le _⟩, by unfold totTo; rw [Int.add_zero], rfl, ⟨by unfold markTo; exact HO.out⟩, HB0, ⟨Kept.refl _ _⟩⟩
  case round =>
    obtain ⟨i, hi, rfl, rfl, HS, HB, HK⟩ := hrel
    by_cases hlt : i < ls.length
    · have HTS := Aside0.mk (totTo_succ ls i hlt)
      have HMS := Aside0.mk (markTo_set ls a i hlt)
      obtain ⟨g, cap, e, _, _, _⟩ := Kd.S_form HS.out (by rw [markTo_len]; omega)
      rw [markTo_len] at e
      cases e
      obtain ⟨oki, cc, hcl, hM, hcells, hsub, hH⟩ := Kd.S_lend HS.out [] (i : Int) (by omega) (by omega)
      obtain ⟨v, rfl, hR⟩ := hM
      rw [Int.toNat_natCast, markTo_get] at hR
      have hcell0 := hcells 0 v rfl
      have hcell : wr.cell? ⟨g, i, none⟩ = some v := by simpa [Kd.slice] using hcell0
      have hle := totTo_le ls HWL.out i
      have hrl := rowAt_le HWL.out i
      have hin : (i : Int) ≤ 1048576 := by omega
      obtain ⟨kk, hk⟩ := markIntS_ok (ls.getD i []) (a + totTo ls i) (by omega) (by omega)
      have HCALL := Aside0.mk (laws_markIntS.calls kk oki v (ls.getD i []) (a + totTo ls i) _ _ w0 wr HB.out hR (hk kk (Nat.le_refl _)))
      have HR := Aside0.mk hR
      have HH := Aside0.mk hH
      have HSUB := Aside0.mk hsub
      have hT := hle
      clear hR hH hsub hcells hcell0 hcl hk hle hrl hin
      have hb0 : 0 ≤ a + totTo ls i := by omega
      clear hT
      generalize ls.getD i [] = xs at *
      obtain ⟨t, ht⟩ : ∃ t, t = a + totTo ls i := ⟨_, rfl⟩
      have HT := Aside0.mk ht
      rw [← ht] at HCALL hb0 ⊢
      clear ht
      obtain ⟨A2, c2, e2⟩ := Kd.R_slice HR.out
      subst e2
      go_wp2_with (go_at_call 24; refine HCALL.out.mono ?_; rintro e w' ⟨rfl, hR2, hB2, hK2⟩; have HR2 := Aside0.mk hR2; have HB2 := Aside0.mk hB2; have HK2 := Aside0.mk hK2; clear hR2 hB2 hK2)
      go_roundw
      case rel =>
        refine ⟨i + 1, ⟨by omega⟩, by rw [HTS.out, ← Int.add_assoc, ← HT.out], by go_num, ⟨?_⟩, HB2, ⟨HK.out.then_ HK2.out (fun k hk => .inl (HSUB.out k hk).1)⟩⟩
        have hb := Kd.H_back (x' := numsFrom t xs.length) (okp := fun k => some k = (Value.slice A2 xs.length c2).ownBlock) (Kd.H_kept HH.out HK2.out (fun k _ hn2 hs => hn2 hs)) ⟨_, rfl, Kd.R_tight rfl HR2.out⟩ (fun k hk => HR.out.1 k hk.symm)
        rw [Int.toNat_natCast, HT.out, HMS.out] at hb
        exact hb
      case measure => simp [intOf]; omega
    · obtain rfl : i = ls.length := by have := hi.out; omega
      go_wp2
      go_ret
      exact ⟨rfl, HS.out, HB.out, HK.out⟩

end Go.Proofs.Ytkepeflplmkcmaa.Q
