/- Contracts of functions that the laws reach: a call returns what the plain Lean function of the same name tells. Conditions: those of each theorem. Made by gen.py, a program of this session, over the print of the translation. -/
import Derived.Test.YtkepeflplmkcmaaPx0
import Derived.Test.YtkepeflplmkcmaaPx1
import Derived.Test.YtkepeflplmkcmaaPx2
import Derived.Test.YtkepeflplmkcmaaPx8
import Derived.Test.YtkepeflplmkcmaaPx9
import Derived.Shelf.Abstract
namespace Go.Proofs.Ytkepeflplmkcmaa.Q
open Go.RowKit Go.Proofs.YtkepeflplmkcmaaW.PrintWords Go.Proofs.YtkepeflplmkcmaaW.PrintLast Go.Proofs.YtkepeflplmkcmaaW.PrintMore
attribute [local go_sem] max2_int min2_int max_two min_two max_three min_three max_four min_four   -- for this text's walks alone
set_option linter.unusedVariables false
set_option linter.unusedSimpArgs false

-- HAND slices_DeleteFunc_int_int: function 80
/-- Of the first j entries those that are kept. -/
def keepF (p : Int → Bool) (l : List Int) (j : Nat) : List Int := (l.take j).filter fun x => !p x
/-- The row when j entries have been looked at. -/
def keepL (p : Int → Bool) (l : List Int) (j : Nat) : List Int := keepF p l j ++ l.drop (keepF p l j).length
theorem keepF_succ (p : Int → Bool) (l : List Int) {j : Nat} (h : j < l.length) : keepF p l (j + 1) = keepF p l j ++ (if p (l.getD j 0) = true then [] else [l.getD j 0]) := by
 unfold keepF
 rw [List.take_add_one, List.getElem?_eq_getElem h, List.filter_append, List.getD_eq_getElem?_getD, List.getElem?_eq_getElem h]
 congr 1
 simp only [Option.toList_some, Option.getD_some]
 by_cases hq : p l[j] = true <;> simp [hq]
theorem keepF_len (p : Int → Bool) (l : List Int) (j : Nat) (h : j ≤ l.length) : (keepF p l j).length ≤ j := by
 unfold keepF
 exact Nat.le_trans (List.length_filter_le _ _) (by rw [List.length_take]; omega)
theorem keepL_len (p : Int → Bool) (l : List Int) (j : Nat) (h : j ≤ l.length) : (keepL p l j).length = l.length := by
 have := keepF_len p l j h
 unfold keepL
 rw [List.length_append, List.length_drop]
 omega
theorem keepL_high (p : Int → Bool) (l : List Int) (j : Nat) (h : j < l.length) : (keepL p l j).getD j 0 = l.getD j 0 := by
 have := keepF_len p l j (by omega)
 unfold keepL
 rw [List.getD_eq_getElem?_getD, List.getD_eq_getElem?_getD, List.getElem?_append_right this, List.getElem?_drop, Nat.add_sub_cancel' this]
theorem keepL_keep (p : Int → Bool) (l : List Int) (j : Nat) (h : j < l.length) (hp : p (l.getD j 0) = false) : keepL p l (j + 1) = (keepL p l j).set (keepF p l j).length (l.getD j 0) := by
 have hl := keepF_len p l j (by omega)
 have hs := keepF_succ p l h
 rw [if_neg (by rw [hp]; decide)] at hs
 unfold keepL
 rw [hs, List.set_append_right _ _ (Nat.le_refl _), Nat.sub_self, List.length_append, List.length_singleton, List.append_assoc]
 congr 1
 rw [← List.getElem_cons_drop (show (keepF p l j).length < l.length by omega)]
 rfl
theorem keepL_skip (p : Int → Bool) (l : List Int) (j : Nat) (h : j < l.length) (hp : p (l.getD j 0) = true) : keepF p l (j + 1) = keepF p l j := by
 have hs := keepF_succ p l h
 rw [if_pos hp, List.append_nil] at hs
 exact hs
theorem keepF_pre (p : Int → Bool) (l : List Int) (j : Nat) (h : j ≤ l.length) (hp : ∀ k, k < j → p (l.getD k 0) = false) : keepF p l j = l.take j := by
 unfold keepF
 rw [List.filter_eq_self]
 intro x hx
 obtain ⟨k, hk, rfl⟩ := List.mem_iff_getElem.1 hx
 rw [List.length_take] at hk
 rw [List.getElem_take]
 have := hp k (by omega)
 rw [List.getD_eq_getElem?_getD, List.getElem?_eq_getElem (by omega)] at this
 rw [show p l[k] = false from this]
 rfl
theorem keepL_pre (p : Int → Bool) (l : List Int) (j : Nat) (h : j ≤ l.length) (hp : ∀ k, k < j → p (l.getD k 0) = false) : keepL p l j = l := by
 unfold keepL
 rw [keepF_pre p l j h hp, List.length_take, Nat.min_eq_left h, List.take_append_drop]
theorem idxG_cases (p : Int → Bool) (l : List Int) : (idxG p l = -1 ∧ ∀ k, k < l.length → p (l.getD k 0) = false) ∨ ∃ k : Nat, k < l.length ∧ idxG p l = (k : Int) ∧ p (l.getD k 0) = true ∧ ∀ j, j < k → p (l.getD j 0) = false := by
 unfold idxG
 cases h : l.findIdx? p with
 | none =>
  refine .inl ⟨rfl, fun k hk => ?_⟩
  rw [List.findIdx?_eq_none_iff] at h
  rw [List.getD_eq_getElem?_getD, List.getElem?_eq_getElem hk]
  exact h _ (List.getElem_mem hk)
 | some k =>
  rw [List.findIdx?_eq_some_iff_getElem] at h
  obtain ⟨hk, h1, h2⟩ := h
  refine .inr ⟨k, hk, rfl, by rw [List.getD_eq_getElem?_getD, List.getElem?_eq_getElem hk]; exact h1, fun j hj => ?_⟩
  have := h2 j hj
  rw [List.getD_eq_getElem?_getD, List.getElem?_eq_getElem (by omega)]
  simpa using this
theorem kept_setCells {w : World} {S : Nat → Prop} {b : Nat} (hb : S b ∨ w.heap.size ≤ b) : ∀ (vs : List Value) (o : Nat) (W : World), Kept w W S → Kept w (W.setCells b o vs) S
 | [], _, _, h => h
 | v :: vs, o, W, h => kept_setCells hb vs (o + 1) _ (h.setCell hb v)
theorem below_setCells {w : World} {B b : Nat} (hb : B ≤ b) : ∀ (vs : List Value) (o : Nat) (W : World), Below B w W → Below B w (W.setCells b o vs)
 | [], _, _, h => h
 | v :: vs, o, W, h => below_setCells hb vs (o + 1) _ (h.setCell hb _)
theorem R_setCells {e base g n cap : Nat} {ok : Nat → Prop} : ∀ (m o : Nat) (xs : List Int) (W : World), Kd.R (Kd.int .i64) e W base ok (.slice (some ⟨g, 0, none⟩) n cap) xs → ∃ ys, Kd.R (Kd.int .i64) e (W.setCells g o (List.replicate m (.int .i64 0))) base ok (.slice (some ⟨g, 0, none⟩) n cap) ys ∧ ys.length = xs.length ∧ ∀ i, i ≤ o → ys.take i = xs.take i
 | 0, o, xs, W, h => ⟨xs, h, rfl, fun _ _ => rfl⟩
 | m + 1, o, xs, W, h => by
  have h1 := Kd.R_putn h (o : Int) 0
  rw [Int.toNat_natCast] at h1
  obtain ⟨ys, hy, hl, ht⟩ := R_setCells m (o + 1) _ _ h1
  exact ⟨ys, hy, by rw [hl, List.length_set], fun i hi => by rw [ht i (by omega), List.take_set_of_le hi]⟩
/-- A predicate's value, whatever the row of the call's own holds meanwhile. -/
def PredOwn (g : Nat) (lb : Array Value) (p : Int → Bool) (l : List Int) (w : World) (S : Nat → Prop) : Prop :=
 ∀ (W : World) (x : Int), x ∈ l → Kept w W S → Calls Try.prog g (#[.int .i64 x] ++ lb) W fun e w' => e = .returned (.bool (p x)) ∧ Below W.heap.size W w'
set_option maxHeartbeats 8000000 in
set_option maxRecDepth 100000 in
theorem slices_DeleteFunc_int_int.calls (g : Nat) (lb : Array Value) (eg : ∀ args w, (callFunc g args).run Try.prog w = .ok (.enter g args) w) (p : Int → Bool) (P0_ : Nat → Prop) (u : Value) (l : List Int) (w0 w : World) (hB : Below w0.heap.size w0 w) (ho : Kd.R (Kd.int .i64) 3 w w0.heap.size P0_ u l) (hp : PredOwn g lb p l w P0_) :
  Calls Try.prog 80 #[u, .func (.func g) #[] lb] w fun e w' => ∃ v0_ : Value, e = .returned v0_ ∧ Kd.R (Kd.int .i64) 3 w' w0.heap.size P0_ v0_ (l.filter fun x => !p x) ∧ Below w0.heap.size w0 w' ∧ Kept w w' P0_ := by
 have hu := Try.underlying22
 obtain ⟨A, c, rfl, hlc, hr⟩ := Kd.R_reads ho
 have hm := Kd.C_max hr
 have HI := asd (slices_IndexFunc_int_int.calls g lb eg p A c l w hr hlc (fun W x hx hbW => hp W x hx (Kept.of_below hbW P0_)))
 have HP := asd hp
 have HO := asd ho
 have HB0 := asd hB
 clear hp ho hr hB
 rcases idxG_cases p l with ⟨e1, hall⟩ | ⟨k0, hk0, e1, ht, hpre⟩
 ·
  have HF : Aside0 ((l.filter fun x => !p x) = l) := ⟨by
   have := keepF_pre p l l.length (Nat.le_refl _) hall
   unfold keepF at this
   rwa [List.take_length] at this⟩
  rw [e1] at HI
  clear hall e1
  go_enter Try.func80, Try.ntmps80
  go_wp2_with (go_at_call 123; refine HI.out.mono ?_; rintro e w' ⟨rfl, hb'⟩)
  go_ret
  exact ⟨_, rfl, by rw [HF.out]; exact Kd.R_below HO.out hb', below_step HB0.out hb', Kept.of_below hb' P0_⟩
 ·
  rw [e1] at HI
  obtain ⟨b, cb, eb, gb, gl, cl, HG⟩ := Kd.R_form HO.out (by omega)
  cases eb
  have HS := asd (HO.out.1 b rfl)
  have HGE := asd gb
  have HT := asd ht
  have HPRE := asd hpre
  clear ht hpre e1 gb gl cl HG
  have hne1 : ((k0 : Int) == -1) = false := beq_eq_false_iff_ne.2 (by omega)
  go_enter Try.func80, Try.ntmps80
  go_wp2_with (go_at_call 123; refine HI.out.mono ?_; rintro e w' ⟨rfl, hb'⟩; have HB' := asd hb'; clear hb')
  go_loopg [5, 6, 7] l.length (fun gg s5 s6 _ wr => ∃ (j : Nat), s5 = .int .i64 ((keepF p l j).length : Nat) ∧ s6 = .int .i64 j ∧ Aside0 (j ≤ l.length ∧ l.length - j ≤ gg ∧ (keepF p l j).length < j) ∧ Aside0 (Kd.R (Kd.int .i64) 3 wr w0.heap.size P0_ (.slice (some ⟨b, 0, none⟩) l.length c) (keepL p l j)) ∧ Aside0 (Below w0.heap.size w0 wr) ∧ Aside0 (Kept w wr P0_))
  case atStart =>
   have hF := keepF_pre p l k0 (by omega) HPRE.out
   have hF1 := keepL_skip p l k0 hk0 HT.out
   have hlen : (keepF p l (k0 + 1)).length = k0 := by rw [hF1, hF, List.length_take]; omega
   refine ⟨k0 + 1, by rw [hlen], by go_num, ⟨by omega, by omega, by omega⟩, ⟨?_⟩, ⟨below_step HB0.out HB'.out⟩, ⟨Kept.of_below HB'.out P0_⟩⟩
   have : keepL p l (k0 + 1) = l := by
    have := keepL_pre p l k0 (by omega) HPRE.out
    unfold keepL at this ⊢
    rwa [hF1]
   rw [this]
   exact Kd.R_below HO.out HB'.out
  case round =>
   obtain ⟨j, rfl, rfl, hj, HR, HB, HK⟩ := hrel
   obtain ⟨hjl, hgg, hij⟩ := hj.out
   have HL := asd (keepL_len p l j hjl)
   by_cases hlt : j < l.length
   ·
    have hltz : (j : Int) < (l.length : Int) := by omega
    have HX := asd (keepL_high p l j hlt)
    obtain ⟨cj, _⟩ := Kd.R_celln 0 HR.out (j : Int) (by omega) (by omega)
    obtain ⟨ci, fi⟩ := Kd.R_celln 0 HR.out ((keepF p l j).length : Int) (by omega) (by omega)
    rw [Int.toNat_natCast] at cj ci fi
    rw [show rdOf 0 (keepL p l j) (j : Int) = l.getD j 0 from HX.out] at cj
    have HCALL := asd (HP.out wr (l.getD j 0) (by rw [List.getD_eq_getElem?_getD, List.getElem?_eq_getElem hlt]; exact List.getElem_mem hlt) HK.out)
    have HKEEP := asd (keepL_keep p l j hlt)
    have HSKIP := asd (keepL_skip p l j hlt)
    have HSUCC := asd (keepF_succ p l hlt)
    generalize l.getD j 0 = x at *
    cases hq : p x with
    | true =>
     have HQ := asd (HSKIP.out hq)
     rw [hq] at HCALL
     clear hq
     go_wp2_with (go_at_fn g; refine HCALL.out.mono ?_; rintro e w' ⟨rfl, hb'⟩; have HB1 := asd hb'; clear hb')
     go_roundg (l.length - (j + 1))
     case measure => omega
     case rel =>
      refine ⟨j + 1, by rw [HQ.out], by go_num, ⟨by omega, Nat.le_refl _, by rw [HQ.out]; omega⟩, ⟨?_⟩, ⟨below_step HB.out HB1.out⟩, ⟨HK.out.below HB1.out⟩⟩
      have : keepL p l (j + 1) = keepL p l j := by unfold keepL; rw [HQ.out]
      rw [this]
      exact Kd.R_below HR.out HB1.out
    | false =>
     have HQ := asd (HKEEP.out hq)
     have HN : Aside0 ((keepF p l (j + 1)).length = (keepF p l j).length + 1) := ⟨by rw [HSUCC.out, hq]; simp⟩
     rw [hq] at HCALL
     clear hq
     go_wp2_with (go_at_fn g; refine HCALL.out.mono ?_; rintro e w' ⟨rfl, hb'⟩; have HB1 := asd hb'; clear ci fi; obtain ⟨ci, fi⟩ := Kd.R_celln 0 (Kd.R_below HR.out hb') ((keepF p l j).length : Int) (by omega) (by omega); rw [Int.toNat_natCast] at ci fi; clear hb')
     go_roundg (l.length - (j + 1))
     case measure => omega
     case rel =>
      have HR1 := Kd.R_putn (Kd.R_below HR.out HB1.out) ((keepF p l j).length : Int) x
      rw [Int.toNat_natCast, ← HQ.out] at HR1
      exact ⟨j + 1, by rw [HN.out]; go_num, by go_num, ⟨by omega, Nat.le_refl _, by rw [HN.out]; omega⟩, ⟨HR1⟩, ⟨below_set (below_step HB.out HB1.out) HGE.out⟩, ⟨(HK.out.below HB1.out).setCell (.inl HS.out) _⟩⟩
   ·
    obtain rfl : j = l.length := by omega
    have hltz : ¬ (l.length : Int) < (l.length : Int) := by omega
    have HEND : Aside0 (keepF p l l.length = l.filter fun x => !p x) := ⟨by unfold keepF; rw [List.take_length]⟩
    have hcl : ∀ ty, (Builtin.clear_ #[22] ty #[.slice (some ⟨b, (keepF p l l.length).length, none⟩) (l.length - (keepF p l l.length).length) (c - (keepF p l l.length).length)]).run Try.prog wr = .ok (.tuple #[]) (wr.setCells b (keepF p l l.length).length (List.replicate (l.length - (keepF p l l.length).length) (.int .i64 0))) := by
     intro ty
     refine Go.Lib.run_clear_slice wr _ 3 ty _ hu (fun _ => rfl) rfl rfl b _ _ _ (by omega) (fun t ht => ?_) (fun t ht => ?_)
     ·
      have h1 := (Kd.R_celln 0 HR.out (((keepF p l l.length).length + t : Nat) : Int) (by omega) (by omega)).1
      rw [Int.toNat_natCast] at h1
      rw [h1]
      rfl
     ·
      have h1 := (Kd.R_celln 0 HR.out (((keepF p l l.length).length + t : Nat) : Int) (by omega) (by omega)).2
      rw [Int.toNat_natCast] at h1
      exact h1
    have HR2 := asd (R_setCells (l.length - (keepF p l l.length).length) (keepF p l l.length).length (keepL p l l.length) wr HR.out)
    have HTK : Aside0 ((keepL p l l.length).take (keepF p l l.length).length = l.filter fun x => !p x) := ⟨by unfold keepL; rw [List.take_left', HEND.out]; rfl⟩
    have HBS := asd (below_setCells HGE.out (List.replicate (l.length - (keepF p l l.length).length) (.int .i64 0)) (keepF p l l.length).length wr HB.out)
    have HKS := asd (kept_setCells (.inl HS.out) (List.replicate (l.length - (keepF p l l.length).length) (.int .i64 0)) (keepF p l l.length).length wr HK.out)
    have HFL : Aside0 ((keepF p l l.length).length = (l.filter fun x => !p x).length) := ⟨by rw [HEND.out]⟩
    generalize (keepF p l l.length).length = i at *
    go_wp2
    go_ret
    obtain ⟨ys, hys, hyl, hyt⟩ := HR2.out
    have hT := Kd.R_take hys (m := i) (by rw [hyl, HL.out]; omega)
    rw [hyt i (Nat.le_refl _), HTK.out] at hT
    exact ⟨_, rfl, hT, HBS.out, HKS.out⟩

-- HAND impl_GreatestAntichain_1: function 81
/-- Is one of two sets a part of the other? -/
def nearB (x y : Int) : Bool := partV x y || partV y x
/-- Of some sets those that are no part of one, nor have it. -/
def impl_GA_del.f (x : Int) (l : List Int) : Option (List Int) := some (l.filter fun y => !nearB x y)
set_option maxHeartbeats 8000000 in
set_option maxRecDepth 100000 in
theorem impl_GreatestAntichain_1.calls (g0 : Nat) (x y : Int) (w : World) (hb0 : w.heap[g0]? = some (.cells #[.int .i64 x] 3 (0, 0))) :
    Calls Try.prog 81 #[.int .i64 y, .pointer (some ⟨g0, 0, none⟩)] w fun e w' => e = .returned (.bool (nearB x y)) ∧ Below w.heap.size w w' := by
  have q0 : w.cell? ⟨g0, 0, none⟩ = some (.int .i64 x) := (blk_cell hb0 0).trans rfl
  clear hb0
  have HK : Aside0 (∀ w', Below w.heap.size w w' → Aside0 (Below w.heap.size w w') ∧ w'.cell? ⟨g0, 0, none⟩ = some (.int .i64 x)) := ⟨fun w' hb => ⟨⟨hb⟩, pw_cell_below hb q0⟩⟩
  have HP1 : Aside0 (impl_part.f x y = some (partV x y)) := ⟨rfl⟩
  have HP2 : Aside0 (impl_part.f y x = some (partV y x)) := ⟨rfl⟩
  unfold nearB
  go_enter Try.func81, Try.ntmps81
  cases hp : partV x y with
  | true =>
    rw [hp] at HP1
    go_wp2_with (first | (go_at_call 82; (with_reducible refine (impl_part.calls x y true _ HP1.out).mono ?_); rintro e w' ⟨rfl, ⟨nd, rfl⟩⟩; (try first | exact ⟨rfl, _, World.drewN_drewN _ _ _⟩ | exact ⟨rfl, _, Eq.trans (World.drewN_drewN _ _ _) (congrArg (World.drewN _) (Nat.add_assoc _ _ _))⟩)))
    go_ret
    exact ⟨rfl, by repeat (first | exact Below.refl _ _ | apply pw_below_drewN | apply below_drew1)⟩
  | false =>
    rw [hp] at HP1
    go_wp2_with (first | (first | (go_at_call 82; (with_reducible refine (impl_part.calls x y false _ HP1.out).mono ?_); rintro e w' ⟨rfl, ⟨nd, rfl⟩⟩; (try first | exact ⟨rfl, _, World.drewN_drewN _ _ _⟩ | exact ⟨rfl, _, Eq.trans (World.drewN_drewN _ _ _) (congrArg (World.drewN _) (Nat.add_assoc _ _ _))⟩))) | (first | (go_at_call 82; (with_reducible refine (impl_part.calls y x _ _ HP2.out).mono ?_); rintro e w' ⟨rfl, ⟨nd, rfl⟩⟩; (try first | exact ⟨rfl, _, World.drewN_drewN _ _ _⟩ | exact ⟨rfl, _, Eq.trans (World.drewN_drewN _ _ _) (congrArg (World.drewN _) (Nat.add_assoc _ _ _))⟩))))
    go_ret
    exact ⟨rfl, by repeat (first | exact Below.refl _ _ | apply pw_below_drewN | apply below_drew1)⟩
theorem impl_GA_del.calls {g0 : Nat} (x : Int) (P3_ : Nat → Prop) (u9000_ : Value) (l : List Int) (r : List Int) (w0 w : World) (hB : Below w0.heap.size w0 w) (hb0 : ∀ W_, Kept w W_ (fun k_ => P3_ k_) → W_.heap[g0]? = some (.cells #[.int .i64 x] 3 (0, 0))) (ho : Kd.R (Kd.int .i64) 3 w w0.heap.size P3_ u9000_ l) (h : impl_GA_del.f x l = some r) :
    Calls Try.prog 80 #[u9000_, .func (.func 81) #[] #[.pointer (some ⟨g0, 0, none⟩)]] w fun e w' => ∃ v0_ : Value, e = .returned (v0_) ∧ Kd.R (Kd.int .i64) 3 w' w0.heap.size (fun k_ => (P3_ k_ ∨ w.heap.size ≤ k_)) v0_ r ∧ Below w0.heap.size w0 w' ∧ Kept w w' (fun k_ => P3_ k_) := by
  obtain rfl := Option.some.inj h
  refine (slices_DeleteFunc_int_int.calls 81 _ (enters_of Try.func81 (by kernel_rfl) rfl) (nearB x) P3_ u9000_ l w0 w hB ho ?_).mono ?_
  · intro W y hy hk
    exact impl_GreatestAntichain_1.calls g0 x y W (hb0 W hk)
  · rintro e w' ⟨v0, he, hR, hb, hkk⟩
    exact ⟨v0, he, Kd.R_mono hR (fun k_ hk_ => .inl hk_), hb, hkk⟩

-- HAND with impl.GreatestAntichain$1+impl.followers$1+impl.part+impl.followers+impl.width+spec.cnMatch
/-- None has another one. -/
def AntiL (A : List Int) : Prop := A.Pairwise fun x y => nearB x y = false
theorem partV_iff {x y : Int} (hx : 0 ≤ x ∧ x < 128) (hy : 0 ≤ y ∧ y < 128) : partV x y = true ↔ Sub x.toNat y.toNat := by
 obtain ⟨a, ha⟩ := Int.eq_ofNat_of_zero_le hx.1
 obtain ⟨b, hb⟩ := Int.eq_ofNat_of_zero_le hy.1
 subst ha
 subst hb
 unfold partV
 rw [beq_iff_eq, bits_nd a b (by omega) (by omega)]
 constructor
 ·
  intro h
  exact sub_of_nd (by exact_mod_cast h)
 ·
  intro h
  have := nd_of_sub h
  exact_mod_cast this
theorem partV_trans {x y z : Int} (hx : 0 ≤ x ∧ x < 128) (hy : 0 ≤ y ∧ y < 128) (hz : 0 ≤ z ∧ z < 128) (h1 : partV x y = true) (h2 : partV y z = true) : partV x z = true := (partV_iff hx hz).2 fun i hi => (partV_iff hy hz).1 h2 i ((partV_iff hx hy).1 h1 i hi)
/-- The beginning of a chain. -/
def rootB (b : List Int) : Nat → Nat → Nat
 | 0, x => x
 | f + 1, x => if rd b (x : Int) < 0 then x else rootB b f (rd b (x : Int)).toNat
/-- Along a chain. -/
inductive Along (o : List Int) (n : Nat) (i : Nat) : Nat → Prop
 | refl : Along o n i i
 | step {k j : Nat} (h : Along o n i k) (hk : k < n) (hj : j < n) (e : rd o (k : Int) = (j : Int)) : Along o n i j
theorem Along.head {o : List Int} {n i j : Nat} (h : Along o n i j) : i = j ∨ ∃ q : Nat, rd o (i : Int) = (q : Int) ∧ Along o n q j := by
 induction h with
 | refl => exact .inl rfl
 | step h hk hj e ih =>
  rcases ih with rfl | ⟨q, hq, hA⟩
  ·
   exact .inr ⟨_, e, .refl⟩
  ·
   exact .inr ⟨q, hq, hA.step hk hj e⟩
section
variable {s b o : List Int} (hP : Pair s.length b o) (hM : ∀ x ∈ s, 0 ≤ x ∧ x < 128)
include hP
theorem pred_lt {x : Nat} (hx : x < s.length) (h0 : 0 ≤ rd b (x : Int)) : ∃ q : Nat, q < x ∧ rd b (x : Int) = (q : Int) ∧ rd o (q : Int) = (x : Int) := by
 obtain ⟨q, hq, e⟩ := nat_of h0 (hP.rb x hx).2
 have h1 := (hP.bo x q hx hq).1 e
 have h2 := hP.up q hq (by rw [h1]; omega)
 exact ⟨q, by omega, e, h1⟩
theorem root_fuel : ∀ (f x g : Nat), x < s.length → x ≤ f → x ≤ g → rootB b f x = rootB b g x
 | 0, x, 0, _, _, _ => rfl
 | 0, x, g + 1, hx, hf, hg => by
  obtain rfl : x = 0 := by omega
  show 0 = if rd b ((0 : Nat) : Int) < 0 then 0 else _
  by_cases h0 : rd b ((0 : Nat) : Int) < 0
  ·
   rw [if_pos h0]
  ·
   obtain ⟨q, hq, _⟩ := pred_lt hP hx (by omega)
   omega
 | f + 1, x, 0, hx, hf, hg => by
  obtain rfl : x = 0 := by omega
  show (if rd b ((0 : Nat) : Int) < 0 then 0 else _) = 0
  by_cases h0 : rd b ((0 : Nat) : Int) < 0
  ·
   rw [if_pos h0]
  ·
   obtain ⟨q, hq, _⟩ := pred_lt hP hx (by omega)
   omega
 | f + 1, x, g + 1, hx, hf, hg => by
  show (if rd b (x : Int) < 0 then x else _) = if rd b (x : Int) < 0 then x else _
  by_cases h0 : rd b (x : Int) < 0
  ·
   rw [if_pos h0, if_pos h0]
  ·
   obtain ⟨q, hq, e, _⟩ := pred_lt hP hx (by omega)
   rw [if_neg h0, if_neg h0, e, Int.toNat_natCast]
   exact root_fuel f q g (by omega) (by omega) (by omega)
theorem root_neg : ∀ (f x : Nat), x < s.length → x ≤ f → rootB b (f + 1) x < s.length ∧ rd b ((rootB b (f + 1) x : Nat) : Int) < 0
 | f, x, hx, hf => by
  show (if rd b (x : Int) < 0 then x else rootB b f (rd b (x : Int)).toNat) < s.length ∧ rd b (((if rd b (x : Int) < 0 then x else rootB b f (rd b (x : Int)).toNat) : Nat) : Int) < 0
  by_cases h0 : rd b (x : Int) < 0
  ·
   rw [if_pos h0]
   exact ⟨hx, h0⟩
  ·
   obtain ⟨q, hq, e, _⟩ := pred_lt hP hx (by omega)
   rw [if_neg h0, e, Int.toNat_natCast]
   match f, hf with
   | 0, hf => omega
   | f + 1, hf => exact root_neg f q (by omega) (by omega)
theorem root_along : ∀ (m i j : Nat), i + j ≤ m → i < s.length → j < s.length → rootB b s.length i = rootB b s.length j → Along o s.length i j ∨ Along o s.length j i := by
 intro m
 have hroot : ∀ x : Nat, x < s.length → rootB b s.length x = if rd b (x : Int) < 0 then x else rootB b s.length (rd b (x : Int)).toNat := by
  intro x hx
  rw [root_fuel hP s.length x (s.length + 1) hx (by omega) (by omega)]
  rfl
 induction m with
 | zero =>
  intro i j hm hi hj _
  obtain rfl : i = j := by omega
  exact .inl .refl
 | succ m ih =>
  intro i j hm hi hj he
  by_cases hj0 : rd b (j : Int) < 0
  ·
   by_cases hi0 : rd b (i : Int) < 0
   ·
    rw [hroot i hi, hroot j hj, if_pos hi0, if_pos hj0] at he
    rw [he]
    exact .inl .refl
   ·
    obtain ⟨q, hq, e, eo⟩ := pred_lt hP hi (by omega)
    rw [hroot i hi, if_neg hi0, e, Int.toNat_natCast] at he
    rcases ih q j (by omega) (by omega) hj he with h | h
    ·
     rcases h.head with rfl | ⟨z, hz, hA⟩
     ·
      exact .inr (Along.refl.step (by omega) hi eo)
     ·
      rw [eo] at hz
      obtain rfl : i = z := by omega
      exact .inl hA
    ·
     exact .inr (h.step (by omega) hi eo)
  ·
   obtain ⟨q, hq, e, eo⟩ := pred_lt hP hj (by omega)
   rw [hroot j hj, if_neg hj0, e, Int.toNat_natCast] at he
   rcases ih i q (by omega) hi (by omega) he with h | h
   ·
    exact .inl (h.step (by omega) hj eo)
   ·
    rcases h.head with rfl | ⟨z, hz, hA⟩
    ·
     exact .inl (Along.refl.step (by omega) hj eo)
    ·
     rw [eo] at hz
     obtain rfl : j = z := by omega
     exact .inr hA
include hM
theorem along_part (hU : UpP s o) {i j : Nat} (h : Along o s.length i j) (hi : i < s.length) : j < s.length ∧ (i = j ∨ partV (rd s (i : Int)) (rd s (j : Int)) = true) := by
 induction h with
 | refl => exact ⟨hi, .inl rfl⟩
 | @step k j h hk hj e ih =>
  have hp := hU k (by rw [hP.lo]; exact hk) (by rw [e]; omega)
  rw [e] at hp
  refine ⟨hj, .inr ?_⟩
  rcases ih.2 with rfl | h2
  ·
   exact hp
  ·
   exact partV_trans (hM _ (rd_mem (by omega) (by omega))) (hM _ (rd_mem (by omega) (by omega))) (hM _ (rd_mem (by omega) (by omega))) h2 hp
/-- No antichain has more than there are chains. -/
theorem anti_le (hU : UpP s o) {A : List Int} (hs : A.Sublist s) (hA : AntiL A) : A.length ≤ b.countP fun x => decide (x < 0) := by
 obtain ⟨I, hI, rfl⟩ := sub_range hs
 have hIr : ∀ x ∈ I, x < s.length := fun x hx => List.mem_range.1 (hI.subset hx)
 have hIn : I.Nodup := hI.nodup List.nodup_range
 have hIs : I.Pairwise (· < ·) := List.Pairwise.sublist hI List.pairwise_lt_range
 have hAn : I.Pairwise fun i j => nearB (rd s ((i : Nat) : Int)) (rd s ((j : Nat) : Int)) = false := List.pairwise_map.1 hA
 rw [List.length_map, cntR_neg, hP.lb]
 have e0 : I.length = (I.map (rootB b s.length)).length := (List.length_map _).symm
 rw [e0]
 unfold cntR
 refine nodup_sub_len _ _ ?_ ?_
 ·
  rw [List.Nodup, List.pairwise_map]
  refine List.Pairwise.imp_of_mem ?_ (hIs.and hAn)
  rintro i j hi hj ⟨hij, hn⟩ e
  unfold nearB at hn
  rw [Bool.or_eq_false_iff] at hn
  rcases root_along hP (i + j) i j (Nat.le_refl _) (hIr i hi) (hIr j hj) e with h | h
  ·
   rcases (along_part hP hM hU h (hIr i hi)).2 with h2 | h2
   ·
    omega
   ·
    rw [hn.1] at h2; cases h2
  ·
   rcases (along_part hP hM hU h (hIr j hj)).2 with h2 | h2
   ·
    omega
   ·
    rw [hn.2] at h2; cases h2
 ·
  intro x hx
  obtain ⟨i, hi, rfl⟩ := List.mem_map.1 hx
  have hil := hIr i hi
  have h1 := root_neg hP s.length i hil (by omega)
  rw [← root_fuel hP s.length i (s.length + 1) hil (by omega) (by omega)] at h1
  exact List.mem_filter.2 ⟨List.mem_range.2 h1.1, decide_eq_true h1.2⟩
omit hM
open Classical in
/-- Some antichain has as many as there are chains. -/
theorem anti_ge (hup : ∀ x y : Nat, x < s.length → y < s.length → x ≠ y → partV (rd s x) (rd s y) = true → x < y) (hT : InvT s o s.length) : ∃ A : List Int, A.Sublist s ∧ AntiL A ∧ (b.countP fun x => decide (x < 0)) ≤ A.length := by
 obtain ⟨T, hC, hF⟩ := hT
 -- those reached: without one ahead, or behind one that is told
 let R : Nat → Bool := fun x => decide (rd b (x : Int) < 0) || decide (0 ≤ rd b (x : Int) ∧ T (rd b (x : Int)))
 let U : Nat → Bool := fun x => decide (T (x : Int))
 let sel : Nat → Bool := fun x => R x && !U x
 have hN : ∀ x : Nat, x < s.length → R x = true → ∀ z : Int, 0 ≤ z → z < s.length → z ≠ (x : Int) → partV (rd s z) (rd s (x : Int)) = true → T z := by
  intro x hx hR z hz hzl hne hp
  rcases Bool.or_eq_true_iff.1 hR with h | h
  ·
   have h0 : rd b (x : Int) < 0 := of_decide_eq_true h
   refine hF x (by omega) (by omega) ?_ z hz hzl hne hp
   rintro ⟨y, hy, hyl, e⟩
   have h1 := (hP.bo x y.toNat hx (by omega)).2 (by rw [show ((y.toNat : Nat) : Int) = y by omega]; exact e)
   omega
  ·
   obtain ⟨h0, hTb⟩ := of_decide_eq_true h
   obtain ⟨q, hq, e⟩ := nat_of h0 (hP.rb x hx).2
   rw [e] at hTb
   have h1 := (hP.bo x q hx hq).1 e
   have h2 := (hC q (by omega) (by omega) hTb).2
   rw [h1] at h2
   exact h2 z hz hzl hne hp
 refine ⟨((List.range s.length).filter sel).map fun i => rd s ((i : Nat) : Int), range_sub, ?_, ?_⟩
 ·
  unfold AntiL
  rw [List.pairwise_map]
  refine List.Pairwise.imp_of_mem ?_ (List.Pairwise.filter sel List.pairwise_lt_range)
  intro i j hi hj hij
  obtain ⟨i1, i2⟩ := List.mem_filter.1 hi
  obtain ⟨j1, j2⟩ := List.mem_filter.1 hj
  have i1 := List.mem_range.1 i1
  have j1 := List.mem_range.1 j1
  obtain ⟨i3, i4⟩ := Bool.and_eq_true_iff.1 i2
  obtain ⟨j3, j4⟩ := Bool.and_eq_true_iff.1 j2
  unfold nearB
  rw [Bool.or_eq_false_iff]
  constructor
  ·
   cases e : partV (rd s (i : Int)) (rd s (j : Int)) with
   | false => rfl
   | true =>
    have := hN j j1 j3 i (by omega) (by omega) (by omega) e
    have h4 : U i = true := decide_eq_true this
    rw [h4] at i4
    cases i4
  ·
   cases e : partV (rd s (j : Int)) (rd s (i : Int)) with
   | false => rfl
   | true =>
    have := hup j i j1 i1 (by omega) e
    omega
 ·
  rw [List.length_map, cntR_neg, hP.lb]
  show _ ≤ cntR s.length sel
  have h1 := cntR_split s.length R U
  have h2 := cntR_split s.length R (fun x => decide (rd b (x : Int) < 0))
  have h3 : cntR s.length (fun x => R x && U x) ≤ cntR s.length U := cntR_inj id (fun x hx h => ⟨hx, (Bool.and_eq_true_iff.1 h).2⟩) (fun _ _ _ _ _ _ e => e)
  have h4 : cntR s.length (fun x => decide (rd b (x : Int) < 0)) ≤ cntR s.length (fun x => R x && decide (rd b (x : Int) < 0)) := cntR_inj id (fun x hx h => ⟨hx, by
   show (R x && decide (rd b (x : Int) < 0)) = true
   rw [h, Bool.and_true]
   exact Bool.or_eq_true_iff.2 (.inl h)⟩) (fun _ _ _ _ _ _ e => e)
  have h5 : cntR s.length U ≤ cntR s.length (fun x => R x && !decide (rd b (x : Int) < 0)) := cntR_inj (fun u => (rd o (u : Int)).toNat) (fun x hx h => by
   have hTx : T (x : Int) := of_decide_eq_true h
   have h0 := (hC x (by omega) (by omega) hTx).1
   obtain ⟨q, hq, e⟩ := nat_of h0 (hP.ro x hx).2
   have hb := (hP.bo q x hq hx).2 e
   show (rd o (x : Int)).toNat < _ ∧ (R (rd o (x : Int)).toNat && !decide (rd b (((rd o (x : Int)).toNat : Nat) : Int) < 0)) = true
   rw [e, Int.toNat_natCast]
   refine ⟨hq, Bool.and_eq_true_iff.2 ⟨Bool.or_eq_true_iff.2 (.inr (decide_eq_true ⟨by rw [hb]; omega, by rw [hb]; exact hTx⟩)), ?_⟩⟩
   rw [hb, decide_eq_false (by omega)]
   rfl) (fun x y hx hy h1 h2 e => by
   have hTx : T (x : Int) := of_decide_eq_true h1
   have hTy : T (y : Int) := of_decide_eq_true h2
   obtain ⟨q, hq, e1⟩ := nat_of (hC x (by omega) (by omega) hTx).1 (hP.ro x hx).2
   obtain ⟨q2, hq2, e2⟩ := nat_of (hC y (by omega) (by omega) hTy).1 (hP.ro y hy).2
   have e : (rd o (x : Int)).toNat = (rd o (y : Int)).toNat := e
   rw [e1, e2, Int.toNat_natCast, Int.toNat_natCast] at e
   subst e
   have hb1 := (hP.bo q x hq hx).2 e1
   have hb2 := (hP.bo q y hq hy).2 e2
   omega)
  have h6 : cntR s.length sel = cntR s.length (fun x => R x && !U x) := rfl
  omega
end
/-- The width of some sets is the greatest number of an antichain. -/
theorem width_dil {s : List Int} (hr : Rise s) (hM : ∀ x ∈ s, 0 ≤ x ∧ x < 128) : ∃ w : Nat, Ev (fun k => impl_width.f k s) (w : Int) ∧ (∃ A : List Int, A.Sublist s ∧ AntiL A ∧ A.length = w) ∧ ∀ A : List Int, A.Sublist s → AntiL A → A.length ≤ w := by
 have hl := rise_nodup_len hr hM
 have hup := parts_up hr hM
 obtain ⟨b, o, ho, hb, hP, hc⟩ := match_ok (s := s) (by omega) hup
 have hU := followers_part ho
 have e1 := cnt_neg b
 have e2 := cnt_neg o
 rw [hP.lb] at e1
 rw [hP.lo] at e2
 have hbo : (b.countP fun x => decide (x < 0)) = o.countP fun x => decide (x < 0) := by omega
 refine ⟨o.countP fun x => decide (x < 0), width_ok ho (by rw [hP.lo]; omega), ?_, fun A hA1 hA2 => ?_⟩
 ·
  obtain ⟨A, h1, h2, h3⟩ := anti_ge hP hup (followers_inv ho)
  have h4 := anti_le hP hM hU h1 h2
  exact ⟨A, h1, h2, by omega⟩
 ·
  rw [← hbo]
  exact anti_le hP hM hU hA1 hA2

-- HAND with impl.GreatestAntichain$1+impl.followers$1+impl.part+spec.cnAntichain
theorem nearB_iff {x y : Int} (hx : 0 ≤ x ∧ x < 128) (hy : 0 ≤ y ∧ y < 128) : nearB x y = true ↔ nd x.toNat y.toNat = 0 ∨ nd y.toNat x.toNat = 0 := by
  unfold nearB
  rw [Bool.or_eq_true, partV_iff hx hy, partV_iff hy hx]
  exact ⟨fun h => h.imp nd_of_sub nd_of_sub, fun h => h.imp sub_of_nd sub_of_nd⟩
theorem rd_left {A : List Int} {x : Int} {m : Nat} (h : m < A.length) : rd (A ++ [x]) (m : Int) = rd A (m : Int) := by
  rw [rd_get (by rw [List.length_append]; omega), rd_get h, List.getElem_append_left h]
theorem anti_snoc {A : List Int} {x : Int} (hA : ∀ y ∈ A, 0 ≤ y ∧ y < 128) (hx : 0 ≤ x ∧ x < 128) (H : antiOut A 0 A = true) : antiOut (A ++ [x]) 0 (A ++ [x]) = A.all fun a => !nearB a x := by
  have hlast : rd (A ++ [x]) (A.length : Int) = x := rd_append A [] x
  rw [antiOut_iff] at H
  rw [Bool.eq_iff_iff, antiOut_iff, List.all_eq_true]
  rw [List.length_append, List.length_singleton]
  constructor
  · intro h a ha
    obtain ⟨q, hq, rfl⟩ := List.mem_iff_getElem.1 ha
    have h1 := h q (by omega) A.length (by omega)
    have h2 := h A.length (by omega) q (by omega)
    rw [hlast, rd_left hq, rd_get hq] at h1 h2
    rw [Bool.not_eq_true', ← Bool.not_eq_true, nearB_iff (hA _ ha) hx]
    rintro (h3 | h3)
    · rcases h1 with h1 | h1
      · omega
      · exact h1 h3
    · rcases h2 with h2 | h2
      · omega
      · exact h2 h3
  · intro h m hm q hq
    have hn : ∀ p : Nat, p < A.length → nd (rd A (p : Int)).toNat x.toNat ≠ 0 ∧ nd x.toNat (rd A (p : Int)).toNat ≠ 0 := by
      intro p hp
      have h1 := h _ (rd_mem (l := A) (i := (p : Int)) (by omega) (by omega))
      rw [Bool.not_eq_true', ← Bool.not_eq_true, nearB_iff (hA _ (rd_mem (by omega) (by omega))) hx] at h1
      exact ⟨fun e => h1 (.inl e), fun e => h1 (.inr e)⟩
    by_cases hm1 : m < A.length
    · rw [rd_left hm1]
      by_cases hq1 : q < A.length
      · rw [rd_left hq1]
        exact H m hm1 q hq1
      · obtain rfl : q = A.length := by omega
        rw [hlast]
        exact .inr (hn m hm1).1
    · obtain rfl : m = A.length := by omega
      rw [hlast]
      by_cases hq1 : q < A.length
      · rw [rd_left hq1]
        exact .inr (hn q hq1).2
      · exact .inl (by omega)
/-- The first antichain of so many of a list's sets. -/
inductive First : Nat → List Int → Option (List Int) → Prop
  | zero (L : List Int) : First 0 L (some [])
  | nil (n : Nat) : First (n + 1) [] none
  | take {n : Nat} {x : Int} {L A : List Int} (h : First n (L.filter fun y => !nearB x y) (some A)) : First (n + 1) (x :: L) (some (x :: A))
  | skip {n : Nat} {x : Int} {L : List Int} {r : Option (List Int)} (h : First n (L.filter fun y => !nearB x y) none) (h2 : First (n + 1) L r) : First (n + 1) (x :: L) r
theorem first_some : ∀ {n : Nat} {L : List Int} {r : Option (List Int)}, First n L r → ∀ A, r = some A → A.Sublist L ∧ AntiL A ∧ A.length = n := by
  intro n L r h
  induction h with
  | zero L =>
    rintro A ⟨⟩
    exact ⟨List.nil_sublist _, List.Pairwise.nil, rfl⟩
  | nil n =>
    rintro A ⟨⟩
  | @take n x L A' h ih =>
    rintro A ⟨⟩
    obtain ⟨h1, h2, h3⟩ := ih A' rfl
    refine ⟨List.Sublist.cons_cons x (h1.trans List.filter_sublist), List.Pairwise.cons (fun y hy => ?_) h2, by rw [List.length_cons, h3]⟩
    have := (List.mem_filter.1 (h1.subset hy)).2
    rw [Bool.not_eq_true'] at this
    exact this
  | @skip n x L r h h2 ih1 ih2 =>
    intro A hA
    obtain ⟨h1, h3, h4⟩ := ih2 A hA
    exact ⟨h1.cons x, h3, h4⟩
theorem first_none : ∀ {n : Nat} {L : List Int} {r : Option (List Int)}, First n L r → r = none → ∀ A : List Int, A.Sublist L → AntiL A → A.length ≠ n := by
  intro n L r h
  induction h with
  | zero L =>
    rintro ⟨⟩
  | nil n =>
    rintro _ A hA _ e
    rw [List.sublist_nil.1 hA] at e
    cases e
  | @take n x L A' h ih =>
    rintro ⟨⟩
  | @skip n x L r h h2 ih1 ih2 =>
    rintro rfl A hA hanti e
    cases hA with
    | cons _ hs => exact ih2 rfl A hs hanti e
    | @cons_cons A' _ _ hs =>
      obtain ⟨p1, p2⟩ := List.pairwise_cons.1 hanti
      have hf : (A'.filter fun y => !nearB x y) = A' := List.filter_eq_self.2 (fun y hy => by rw [p1 y hy]; rfl)
      have hs2 : A'.Sublist (L.filter fun y => !nearB x y) := by
        rw [← hf]
        exact hs.filter _
      refine ih1 rfl A' hs2 p2 ?_
      rw [List.length_cons] at e
      omega
theorem first_ex : ∀ (m n : Nat) (L : List Int), L.length ≤ m → ∃ r, First n L r
  | _, 0, L, _ => ⟨_, .zero L⟩
  | _, n + 1, [], _ => ⟨_, .nil n⟩
  | 0, n + 1, x :: L, h => by rw [List.length_cons] at h; omega
  | m + 1, n + 1, x :: L, h => by
    rw [List.length_cons] at h
    obtain ⟨r, h1⟩ := first_ex m n (L.filter fun y => !nearB x y) (Nat.le_trans (List.length_filter_le _ _) (by omega))
    cases r with
    | some A => exact ⟨_, .take h1⟩
    | none =>
      obtain ⟨r2, h2⟩ := first_ex m (n + 1) L (by omega)
      exact ⟨_, .skip h1 h2⟩

/-! ### impl_GreatestAntichain: function 37 -/
mutual
def impl_GreatestAntichain.l0 : Nat → List Int → List Int → Int → Option (List Int × Bool)
 | 0, _, _, _ => none
 | k + 1, x4, x5, x6 => if x6 > 0 then (impl_GreatestAntichain.l1 k x4 x5 x6 x4 (x4.length : Int) 0) else (some (x5, true))
def impl_GreatestAntichain.l1 : Nat → List Int → List Int → Int → List Int → Int → Int → Option (List Int × Bool)
 | 0, _, _, _, _, _, _ => none
 | k + 1, x4, x5, x6, x22, x23, x24 => if x24 < x23 then (if 0 ≤ x24 then (if x24 < (x22.length : Int) then (if 0 ≤ (wrap64 (x24 + 1)) then (if (wrap64 (x24 + 1)) ≤ (x4.length : Int) then ((slices_Clone_int_int.f (x4.drop ((wrap64 (x24 + 1)) : Int).toNat)).bind fun t116 => ((impl_GA_del.f (rd x22 x24) t116).bind fun t119 => ((impl_width.f k t119).bind fun t122 => (if t122 ≥ (wrap64 (x6 - 1)) then (if x5.length < 17592186044416 then (impl_GreatestAntichain.l0 k t119 (x5 ++ [rd x22 x24]) (wrap64 (x6 - 1))) else (none)) else (impl_GreatestAntichain.l1 k x4 x5 x6 x22 x23 (wrap64 (x24 + 1))))))) else (none)) else (none)) else (none)) else (none)) else (impl_GreatestAntichain.l0 k x4 x5 (wrap64 (x6 - 1)))
end
def impl_GreatestAntichain.f (k : Nat) (a0_0 : Int) (l0_1 : List Int) : Option (List Int × Bool) := (impl_IsSpace.f a0_0 l0_1).bind fun t102 => (if t102 = true then ((impl_Space_paths.f k a0_0 l0_1).bind fun t103 => ((impl_width.f k t103).bind fun t109 => (impl_GreatestAntichain.l0 k t103 (([] : List Int)) t109))) else (some (([] : List Int), false)))
theorem impl_GreatestAntichain.mono_l : ∀ k, (∀ y0 y1 y2, LeO (impl_GreatestAntichain.l0 k y0 y1 y2) (impl_GreatestAntichain.l0 (k + 1) y0 y1 y2)) ∧ (∀ y0 y1 y2 y3 y4 y5, LeO (impl_GreatestAntichain.l1 k y0 y1 y2 y3 y4 y5) (impl_GreatestAntichain.l1 (k + 1) y0 y1 y2 y3 y4 y5))
 | 0 => ⟨fun _ _ _ r h => by simp [impl_GreatestAntichain.l0] at h, fun _ _ _ _ _ _ r h => by simp [impl_GreatestAntichain.l1] at h⟩
 | k + 1 => by
  obtain ⟨ih0, ih1⟩ := impl_GreatestAntichain.mono_l k
  refine ⟨?_, ?_⟩
  ·
   intro y0 y1 y2
   unfold impl_GreatestAntichain.l0
   repeat' first
   | (with_reducible exact ih0 _ _ _)
   | (with_reducible exact ih1 _ _ _ _ _ _)
   | (with_reducible exact impl_Space_paths.mono _ _ _)
   | (with_reducible exact impl_width.mono _ _)
   | (with_reducible exact LeO.refl _)
   | (with_reducible exact LeO.none _)
   | (with_reducible refine LeO.ite ?_ ?_)
   | (with_reducible refine LeO.bind ?_ (fun _ => ?_))
   | exact ih0 _ _ _
   | exact ih1 _ _ _ _ _ _
   | exact impl_Space_paths.mono _ _ _
   | exact impl_width.mono _ _
   | exact LeO.none _
   | refine LeO.ite ?_ ?_
   | refine LeO.bind ?_ (fun _ => ?_)
  ·
   intro y0 y1 y2 y3 y4 y5
   unfold impl_GreatestAntichain.l1
   repeat' first
   | (with_reducible exact ih0 _ _ _)
   | (with_reducible exact ih1 _ _ _ _ _ _)
   | (with_reducible exact impl_Space_paths.mono _ _ _)
   | (with_reducible exact impl_width.mono _ _)
   | (with_reducible exact LeO.refl _)
   | (with_reducible exact LeO.none _)
   | (with_reducible refine LeO.ite ?_ ?_)
   | (with_reducible refine LeO.bind ?_ (fun _ => ?_))
   | exact ih0 _ _ _
   | exact ih1 _ _ _ _ _ _
   | exact impl_Space_paths.mono _ _ _
   | exact impl_width.mono _ _
   | exact LeO.none _
   | refine LeO.ite ?_ ?_
   | refine LeO.bind ?_ (fun _ => ?_)
theorem impl_GreatestAntichain.mono : ∀ a0 a1 k, LeO (impl_GreatestAntichain.f k a0 a1) (impl_GreatestAntichain.f (k + 1) a0 a1) := by
 intro a0 a1 k
 obtain ⟨ih0, ih1⟩ := impl_GreatestAntichain.mono_l k
 unfold impl_GreatestAntichain.f
 repeat' first
   | (with_reducible exact ih0 _ _ _)
   | (with_reducible exact ih1 _ _ _ _ _ _)
   | (with_reducible exact impl_Space_paths.mono _ _ _)
   | (with_reducible exact impl_width.mono _ _)
   | (with_reducible exact LeO.refl _)
   | (with_reducible exact LeO.none _)
   | (with_reducible refine LeO.ite ?_ ?_)
   | (with_reducible refine LeO.bind ?_ (fun _ => ?_))
   | exact ih0 _ _ _
   | exact ih1 _ _ _ _ _ _
   | exact impl_Space_paths.mono _ _ _
   | exact impl_width.mono _ _
   | exact LeO.none _
   | refine LeO.ite ?_ ?_
   | refine LeO.bind ?_ (fun _ => ?_)
set_option maxHeartbeats 8000000 in
set_option maxRecDepth 100000 in
theorem impl_GreatestAntichain.calls (k : Nat) (a0_0 : Int) (A0_1 : Option Addr) (c0_1 : Nat) (l0_1 : List Int) (r1 : List Int) (r2 : Bool) (w : World) (hr0_1 : Kd.C (Kd.int .i64) w A0_1 l0_1.length l0_1) (hc0_1 : l0_1.length ≤ c0_1) (h : impl_GreatestAntichain.f k a0_0 l0_1 = some (r1, r2)) :
  Calls Try.prog 37 #[.agg #[.int .i64 a0_0, .slice A0_1 l0_1.length c0_1]] w fun e w' => ∃ v0_ : Value, e = .returned (.tuple #[v0_, .bool r2]) ∧ Kd.R (Kd.int .i64) 3 w' w.heap.size (fun _ => True) v0_ r1 ∧ Below w.heap.size w w' := by
 have hu28 := Try.underlying28
 have HR0_1 := asd hr0_1
 have HC0_1 := asd hc0_1
 clear hr0_1 hc0_1
 have HB := asd (Below.refl w.heap.size w)
 have H : ((impl_IsSpace.f a0_0 l0_1).bind fun t102 => (if t102 = true then ((impl_Space_paths.f k a0_0 l0_1).bind fun t103 => ((impl_width.f k t103).bind fun t109 => (impl_GreatestAntichain.l0 k t103 (([] : List Int)) t109))) else (some (([] : List Int), false)))) = some (r1, r2) := h
 clear h
 replace H := Option.bind_eq_some_iff.mp H
 obtain ⟨t102, A20, H⟩ := H
 replace H : (if t102 = true then ((impl_Space_paths.f k a0_0 l0_1).bind fun t103 => ((impl_width.f k t103).bind fun t109 => (impl_GreatestAntichain.l0 k t103 (([] : List Int)) t109))) else (some (([] : List Int), false))) = some (r1, r2) := H
 have A2 := asd A20
 clear A20
 by_cases c3 : t102 = true
 ·
  subst c3
  have H1 : ((impl_Space_paths.f k a0_0 l0_1).bind fun t103 => ((impl_width.f k t103).bind fun t109 => (impl_GreatestAntichain.l0 k t103 (([] : List Int)) t109))) = some (r1, r2) := by rw [if_pos rfl] at H; exact H
  clear H
  have H := H1
  clear H1
  replace H := Option.bind_eq_some_iff.mp H
  obtain ⟨t103, A40, H⟩ := H
  replace H : ((impl_width.f k t103).bind fun t109 => (impl_GreatestAntichain.l0 k t103 (([] : List Int)) t109)) = some (r1, r2) := H
  have A4 := asd A40
  clear A40
  obtain ⟨y106, hy106⟩ : ∃ y_ : List Int, y_ = (([] : List Int)) := ⟨_, rfl⟩
  replace H : ((impl_width.f k t103).bind fun t109 => (impl_GreatestAntichain.l0 k t103 y106 t109)) = some (r1, r2) := by first | (rw [hy106]; with_reducible exact H) | (have H2_ := (Option.bind_some _ _).symm.trans H; rw [hy106]; with_reducible exact H2_) | (have H2_ := (Option.bind_some _ _).symm.trans H; with_reducible exact H2_) | with_reducible exact H | (rw [hy106]; exact H) | exact H
  have Ny106 := asd hy106
  clear hy106
  replace H := Option.bind_eq_some_iff.mp H
  obtain ⟨t109, A50, H⟩ := H
  replace H : (impl_GreatestAntichain.l0 k t103 y106 t109) = some (r1, r2) := H
  have A5 := asd A50
  clear A50
  have H' := asd H
  clear H
  go_enter Try.func37, Try.ntmps37
  go_wp2_with (first | ((with_reducible refine gate_dst (N := 1) rfl ?_); refine box_event ?hg (N := 1) ?hd (cs := #[.int .i64 a0_0, .slice A0_1 l0_1.length c0_1]) (t := 28) ?hr ?_; (case hd => rfl); (case hg => rfl); (case hr => first | (go_simp; done) | (go_simp; rfl)); intro gb101 hg w6 hbox hb; have n0_ := asd (below_step (by repeat (first | (with_reducible first | exact HB.out | apply below_alloc | apply pw_below_drewN | apply below_drew1) | exact HB.out)) hb); have n1_ := asd (hbox); have n2_ := asd ((by rw [hg]; exact (below_size (by repeat (first | (with_reducible first | exact HB.out | apply below_alloc | apply pw_below_drewN | apply below_drew1) | exact HB.out))) : w.heap.size ≤ gb101)); have n3_ := asd ((by rw [hg]; exact (below_size (by repeat (first | (with_reducible first | exact HB.out | apply below_alloc | apply pw_below_drewN | apply below_drew1) | exact HB.out))) : w.heap.size ≤ gb101)); clear HB; have HB := n0_; have BK101 := n1_; have GW101 := n2_; have GE101 := n3_; clear n0_ n1_ n2_ n3_; clear hb hbox hg; have hcz7_0 : w6.cell? ⟨gb101, 0, none⟩ = some (.int .i64 a0_0) := (blk_cell BK101.out 0).trans rfl; have hcz7_1 : w6.cell? ⟨gb101, 1, none⟩ = some (.slice A0_1 l0_1.length c0_1) := (blk_cell BK101.out 1).trans rfl; have hfz7_0 := blk_frozen BK101.out 0; have hfz7_1 := blk_frozen BK101.out 1) | ((with_reducible refine gate_callee (f := 47) rfl ?_); refine goesL_ (some 11) rfl rfl Try.func47 (by kernel_rfl) rfl #[.agg #[.int .i64 a0_0, .slice A0_1 l0_1.length c0_1]] rfl (by (try simp only [List.map_toArray, List.map_cons, List.map_nil]); first | done | rfl | (simp only [List.length_drop, List.length_take]; rfl)) ?_; (with_reducible refine (impl_IsSpace.calls a0_0 _ _ l0_1 true _ ?side1 ?side2 A2.out).mono ?_); (case side1 => repeat (first | exact (Kd.C_below HR0_1.out HB.out) | (with_reducible refine Kd.C_alloc ?_ _) | (with_reducible refine Kd.C_drewN ?_ _) | (with_reducible refine Kd.C_drew ?_))); (case side2 => exact HC0_1.out); rintro e w8 ⟨rfl, hb⟩; refine ⟨_, rfl, ?_⟩; have n0_ := asd (blk_below (upB BK101.out) hb); have n1_ := asd (below_step (by repeat (first | (with_reducible first | exact HB.out | apply below_alloc | apply pw_below_drewN | apply below_drew1 | refine below_set ?_ GE101.out) | exact HB.out)) hb); clear BK101; clear HB; have BK101 := n0_; have HB := n1_; clear n0_ n1_; (try clear hb); (try clear hb2); (try clear hk); (try clear hi); have hcz9_0 : w8.cell? ⟨gb101, 0, none⟩ = some (.int .i64 a0_0) := (blk_cell BK101.out 0).trans rfl; have hcz9_1 : w8.cell? ⟨gb101, 1, none⟩ = some (.slice A0_1 l0_1.length c0_1) := (blk_cell BK101.out 1).trans rfl; have hfz9_0 := blk_frozen BK101.out 0; have hfz9_1 := blk_frozen BK101.out 1) | ((with_reducible refine gate_callee (f := 78) rfl ?_); refine goesL_ (some 14) rfl rfl Try.func78 (by kernel_rfl) rfl #[.agg #[.int .i64 a0_0, .slice A0_1 l0_1.length c0_1]] rfl (by (try simp only [List.map_toArray, List.map_cons, List.map_nil]); first | done | rfl | (simp only [List.length_drop, List.length_take]; rfl)) ?_; (with_reducible refine (impl_Space_paths.calls k a0_0 _ _ l0_1 t103 _ ?side1 ?side2 A4.out).mono ?_); (case side1 => repeat (first | exact (Kd.C_below HR0_1.out HB.out) | (with_reducible refine Kd.C_alloc ?_ _) | (with_reducible refine Kd.C_drewN ?_ _) | (with_reducible refine Kd.C_drew ?_))); (case side2 => exact HC0_1.out); rintro e w10 ⟨v104, rfl, ho0, hb⟩; refine ⟨_, rfl, ?_⟩; have n0_ := asd (Kd.R_lower ho0 (below_size (by repeat (first | (with_reducible first | exact HB.out | apply below_alloc | apply pw_below_drewN | apply below_drew1 | refine below_set ?_ GE101.out) | exact HB.out)))); have n1_ := asd (blk_below (upB BK101.out) hb); have n2_ := asd (below_step (by repeat (first | (with_reducible first | exact HB.out | apply below_alloc | apply pw_below_drewN | apply below_drew1 | refine below_set ?_ GE101.out) | exact HB.out)) hb); clear BK101; clear HB; have HO105 := n0_; have BK101 := n1_; have HB := n2_; clear n0_ n1_ n2_; (try clear hb); (try clear hb2); (try clear hk); (try clear hi); (try clear ho0)) | ((with_reducible refine gate_dst (N := 15) rfl ?_); refine Kd.R_lit (Kd.int .i64) _ 3 ?hg (N := 15) ?hd (xs := ([] : List Int)) (inner := []) (ok := fun _ => True) (okp := fun _ => True) ?hr ?hp (fun _ hk => hk) trivial (Below.refl _ _) (Nat.le_refl _) (by simp) ?_; (case hd => rfl); (case hg => rfl); (case hr => first | (go_simp; done) | (go_simp; rfl)); (case hp => exact (Reps.none _ _)); intro v107 w11 ho12 hb hg_ hnew_; clear hg_ hnew_; (first | rw [← Ny106.out] at ho12 | (simp only [Int.reduceToNat] at ho12; rw [← Ny106.out] at ho12)); have n0_ := asd (Kd.R_elder' (upR <| HO105.out) (Kd.R_base ho12) hb); have n1_ := asd (Kd.R_lower (Kd.R_new' ho12 (Kd.R_lt (upR <| HO105.out))) (below_size (by repeat (first | (with_reducible first | exact HB.out | apply below_alloc | apply pw_below_drewN | apply below_drew1 | refine below_set ?_ GE101.out) | exact HB.out)))); have n2_ := asd (blk_below (upB BK101.out) hb); have n3_ := asd (below_step (by repeat (first | (with_reducible first | exact HB.out | apply below_alloc | apply pw_below_drewN | apply below_drew1 | refine below_set ?_ GE101.out) | exact HB.out)) hb); clear HO105; clear BK101; clear HB; have HO105 := n0_; have HO108 := n1_; have BK101 := n2_; have HB := n3_; clear n0_ n1_ n2_ n3_; clear hb ho12; obtain ⟨Ao13, co13, eo13⟩ := Kd.R_slice HO105.out; subst eo13) | ((with_reducible refine gate_callee (f := 79) rfl ?_); refine goesL_ (some 17) rfl rfl Try.func79 (by kernel_rfl) rfl #[.slice Ao13 t103.length co13] rfl (by (try simp only [List.map_toArray, List.map_cons, List.map_nil]); first | done | rfl | (simp only [List.length_drop, List.length_take]; rfl)) ?_; (with_reducible refine (impl_width.calls k _ _ t103 t109 _ ?side1 ?side2 A5.out).mono ?_); (case side1 => repeat (first | exact (Kd.R_reads' HO105.out).2.2 | (with_reducible refine Kd.C_alloc ?_ _) | (with_reducible refine Kd.C_drewN ?_ _) | (with_reducible refine Kd.C_drew ?_))); (case side2 => exact (Kd.R_reads' HO105.out).2.1); rintro e w14 ⟨rfl, hb⟩; refine ⟨_, rfl, ?_⟩; have n0_ := asd (Kd.R_below (upR <| HO105.out) hb); have n1_ := asd (Kd.R_below (upR <| HO108.out) hb); have n2_ := asd (blk_below (upB BK101.out) hb); have n3_ := asd (below_step (by repeat (first | (with_reducible first | exact HB.out | apply below_alloc | apply pw_below_drewN | apply below_drew1 | refine below_set ?_ GE101.out) | exact HB.out)) hb); clear HO105; clear HO108; clear BK101; clear HB; have HO105 := n0_; have HO108 := n1_; have BK101 := n2_; have HB := n3_; clear n0_ n1_ n2_ n3_; (try clear hb); (try clear hb2); (try clear hk); (try clear hi)))
  go_loopg [4, 5, 6] k (fun kq v4 v5 v6 w' => ∃ (x4_1 : List Int) (x5_1 : List Int) (x6_1 : Int), v6 = .int .i64 x6_1 ∧ Aside0 (impl_GreatestAntichain.l0 kq x4_1 x5_1 x6_1 = some (r1, r2)) ∧ Aside0 (kq ≤ k) ∧ Aside0 (Kd.R (Kd.int .i64) 3 w' w.heap.size (fun k_ => some k_ ≠ (v5 : Value).ownBlock) v4 x4_1) ∧ Aside0 (Kd.R (Kd.int .i64) 3 w' w.heap.size (fun k_ => some k_ ≠ (v4 : Value).ownBlock) v5 x5_1) ∧ Aside0 (w'.heap[gb101]? = some (.cells #[.int .i64 a0_0, (.slice A0_1 l0_1.length c0_1)] 28 (0, 0))) ∧ Aside0 (Below w.heap.size w w'))
  case atStart => exact ⟨(t103), (y106), (t109), (by first | rfl | (simp; done) | (simp [*]; done)), H', ⟨Nat.le_refl _⟩, ⟨by (with_reducible repeat (first | apply Kd.R_alloc | apply Kd.R_drewN | apply Kd.R_drew)); exact Kd.R_mono HO105.out (fun _ hk => hk.2)⟩, ⟨by (with_reducible repeat (first | apply Kd.R_alloc | apply Kd.R_drewN | apply Kd.R_drew)); exact Kd.R_mono HO108.out (fun _ hk => hk.2)⟩, ⟨by (with_reducible repeat (first | refine blk_drewN ?_ _ | refine blk_drew ?_ | refine blk_alloc ?_ _)); exact BK101.out⟩, ⟨by repeat (first | (with_reducible first | exact HB.out | apply below_alloc | apply pw_below_drewN | apply below_drew1 | refine below_set ?_ GE101.out) | exact HB.out)⟩⟩
  case round =>
   clear H'
   try clear p2
   try clear c3
   try clear c4
   try clear c7
   try clear hcz7_0
   try clear hcz7_1
   try clear hcz9_0
   try clear hcz9_1
   try clear hfz7_0
   try clear hfz7_1
   try clear hfz9_0
   try clear hfz9_1
   try clear HO_4; try clear HO_5; skip
   obtain ⟨x4_1, x5_1, x6_1, rfl, HA, HK1, HO_4, HO_5, BK101, HB⟩ := hrel
   cases gk with
   | zero => exact absurd HA.out (by simp [impl_GreatestAntichain.l0])
   | succ k1 =>
    have H := HA.out
    clear HA
    simp only [impl_GreatestAntichain.l0] at H
    by_cases c15 : x6_1 > 0
    ·
     rw [if_pos c15] at H
     have c15b0 : decide (0 < x6_1) = true := decide_eq_true c15
     clear c15
     have H' := asd H
     clear H
     obtain ⟨Ao16, co16, eo16⟩ := Kd.R_slice HO_4.out
     subst eo16
     go_wp2
     go_loopg [4, 5, 24] k1 (fun kq v4 v5 v24 w' => ∃ (x4_2 : List Int) (x5_2 : List Int) (x24_2 : Int), v24 = .int .i64 x24_2 ∧ Aside0 (impl_GreatestAntichain.l1 kq x4_2 x5_2 x6_1 x4_1 (x4_1.length : Int) x24_2 = some (r1, r2)) ∧ Aside0 (kq ≤ k1) ∧ Aside0 (Kd.R (Kd.int .i64) 3 w' w.heap.size (fun k_ => some k_ ≠ (v5 : Value).ownBlock) v4 x4_2) ∧ Aside0 (Kd.R (Kd.int .i64) 3 w' w.heap.size (fun k_ => some k_ ≠ (v4 : Value).ownBlock ∧ some k_ ≠ ((.slice Ao16 x4_1.length co16) : Value).ownBlock) v5 x5_2) ∧ Aside0 (Kd.R (Kd.int .i64) 3 w' w.heap.size (fun k_ => some k_ ≠ (v5 : Value).ownBlock) (.slice Ao16 x4_1.length co16) x4_1) ∧ Aside0 (w'.heap[gb101]? = some (.cells #[.int .i64 a0_0, (.slice A0_1 l0_1.length c0_1)] 28 (0, 0))) ∧ Aside0 (Below w.heap.size w w'))
     case atStart => exact ⟨(x4_1), (x5_1), (0), (by first | rfl | (simp; done) | (simp [*]; done)), H', ⟨Nat.le_refl _⟩, ⟨by (with_reducible repeat (first | apply Kd.R_alloc | apply Kd.R_drewN | apply Kd.R_drew)); exact HO_4.out⟩, ⟨by (with_reducible repeat (first | apply Kd.R_alloc | apply Kd.R_drewN | apply Kd.R_drew)); exact Kd.R_mono HO_5.out (fun _ hk => ⟨hk, hk⟩)⟩, ⟨by (with_reducible repeat (first | apply Kd.R_alloc | apply Kd.R_drewN | apply Kd.R_drew)); exact HO_4.out⟩, ⟨by (with_reducible repeat (first | refine blk_drewN ?_ _ | refine blk_drew ?_ | refine blk_alloc ?_ _)); exact BK101.out⟩, ⟨by repeat (first | (with_reducible first | exact HB.out | apply below_alloc | apply pw_below_drewN | apply below_drew1 | refine below_set ?_ GE101.out) | exact HB.out)⟩⟩
     case round =>
      clear H'
      try clear c1
      try clear p2
      try clear c3
      try clear c4
      try clear c7
      try clear c15
      try clear c15b0
      try clear hcz7_0
      try clear hcz7_1
      try clear hcz9_0
      try clear hcz9_1
      try clear hfz7_0
      try clear hfz7_1
      try clear hfz9_0
      try clear hfz9_1
      try clear p2
      try clear HO_4; try clear HO_5; try clear HO_22; try clear BK101; skip
      obtain ⟨x4_2, x5_2, x24_2, rfl, HA, HK2, HO_4, HO_5, HO_22, BK101, HB⟩ := hrel
      cases gk with
      | zero => exact absurd HA.out (by simp [impl_GreatestAntichain.l1])
      | succ k2 =>
       have H := HA.out
       clear HA
       simp only [impl_GreatestAntichain.l1] at H
       by_cases c17 : x24_2 < (x4_1.length : Int)
       ·
        rw [if_pos c17] at H
        have c17b0 : decide (x24_2 < (x4_1.length : Int)) = true := decide_eq_true c17
        clear c17
        by_cases c18 : 0 ≤ x24_2
        ·
         rw [if_pos c18] at H
         have c18b0 : decide (0 ≤ x24_2) = true := decide_eq_true c18
         clear c18
         by_cases c19 : x24_2 < (x4_1.length : Int)
         ·
          rw [if_pos c19] at H
          have c19b0 : decide (x24_2 < (x4_1.length : Int)) = true := decide_eq_true c19
          clear c19
          obtain ⟨ji20, hji20⟩ : ∃ j_ : Int, (wrap64 (x24_2 + 1)) = j_ := ⟨_, rfl⟩
          replace H : (if 0 ≤ (ji20) then (if (ji20) ≤ (x4_2.length : Int) then ((slices_Clone_int_int.f (x4_2.drop ((ji20) : Int).toNat)).bind fun t116 => ((impl_GA_del.f (rd x4_1 x24_2) t116).bind fun t119 => ((impl_width.f k2 t119).bind fun t122 => (if t122 ≥ (wrap64 (x6_1 - 1)) then (if x5_2.length < 17592186044416 then (impl_GreatestAntichain.l0 k2 t119 (x5_2 ++ [rd x4_1 x24_2]) (wrap64 (x6_1 - 1))) else (none)) else (impl_GreatestAntichain.l1 k2 x4_2 x5_2 x6_1 x4_1 (x4_1.length : Int) ji20))))) else (none)) else (none)) = some (r1, r2) := by first | (rw [hji20] at H; exact H) | (simp only [hji20] at H ⊢; exact H)
          have hji20w : (IntKind.i64.wrap (x24_2 + 1)) = ji20 := (i64_w _).trans hji20
          by_cases c21 : 0 ≤ (ji20)
          ·
           rw [if_pos c21] at H
           have c21b0 := eq_true c21
           have c21b1 : decide (0 ≤ (ji20)) = true := decide_eq_true c21
           clear c21
           by_cases c22 : (ji20) ≤ (x4_2.length : Int)
           ·
            rw [if_pos c22] at H
            have c22b0 := eq_true c22
            have c22b1 : decide ((ji20) ≤ (x4_2.length : Int)) = true := decide_eq_true c22
            clear c22
            obtain ⟨y112, hy112⟩ : ∃ y_ : List Int, y_ = (x4_2.drop ((ji20) : Int).toNat) := ⟨_, rfl⟩
            replace H : ((slices_Clone_int_int.f y112).bind fun t116 => ((impl_GA_del.f (rd x4_1 x24_2) t116).bind fun t119 => ((impl_width.f k2 t119).bind fun t122 => (if t122 ≥ (wrap64 (x6_1 - 1)) then (if x5_2.length < 17592186044416 then (impl_GreatestAntichain.l0 k2 t119 (x5_2 ++ [rd x4_1 x24_2]) (wrap64 (x6_1 - 1))) else (none)) else (impl_GreatestAntichain.l1 k2 x4_2 x5_2 x6_1 x4_1 (x4_1.length : Int) ji20))))) = some (r1, r2) := by first | (rw [hy112]; with_reducible exact H) | (have H2_ := (Option.bind_some _ _).symm.trans H; rw [hy112]; with_reducible exact H2_) | (have H2_ := (Option.bind_some _ _).symm.trans H; with_reducible exact H2_) | with_reducible exact H | (rw [hy112]; exact H) | exact H
            have Ny112 := asd hy112
            clear hy112
            replace H := Option.bind_eq_some_iff.mp H
            obtain ⟨t116, A230, H⟩ := H
            replace H : ((impl_GA_del.f (rd x4_1 x24_2) t116).bind fun t119 => ((impl_width.f k2 t119).bind fun t122 => (if t122 ≥ (wrap64 (x6_1 - 1)) then (if x5_2.length < 17592186044416 then (impl_GreatestAntichain.l0 k2 t119 (x5_2 ++ [rd x4_1 x24_2]) (wrap64 (x6_1 - 1))) else (none)) else (impl_GreatestAntichain.l1 k2 x4_2 x5_2 x6_1 x4_1 (x4_1.length : Int) ji20)))) = some (r1, r2) := H
            have A23 := asd A230
            clear A230
            replace H := Option.bind_eq_some_iff.mp H
            obtain ⟨t119, A240, H⟩ := H
            replace H : ((impl_width.f k2 t119).bind fun t122 => (if t122 ≥ (wrap64 (x6_1 - 1)) then (if x5_2.length < 17592186044416 then (impl_GreatestAntichain.l0 k2 t119 (x5_2 ++ [rd x4_1 x24_2]) (wrap64 (x6_1 - 1))) else (none)) else (impl_GreatestAntichain.l1 k2 x4_2 x5_2 x6_1 x4_1 (x4_1.length : Int) ji20))) = some (r1, r2) := H
            have A24 := asd A240
            clear A240
            replace H := Option.bind_eq_some_iff.mp H
            obtain ⟨t122, A250, H⟩ := H
            replace H : (if t122 ≥ (wrap64 (x6_1 - 1)) then (if x5_2.length < 17592186044416 then (impl_GreatestAntichain.l0 k2 t119 (x5_2 ++ [rd x4_1 x24_2]) (wrap64 (x6_1 - 1))) else (none)) else (impl_GreatestAntichain.l1 k2 x4_2 x5_2 x6_1 x4_1 (x4_1.length : Int) ji20)) = some (r1, r2) := H
            have A25 := asd A250
            clear A250
            by_cases c26 : t122 ≥ (wrap64 (x6_1 - 1))
            ·
             rw [if_pos c26] at H
             have c26b0 : decide ((wrap64 (x6_1 - 1)) ≤ t122) = true := decide_eq_true c26
             clear c26
             by_cases c27 : x5_2.length < 17592186044416
             ·
              rw [if_pos c27] at H
              have LMc27 := asd c27
              clear c27
              obtain ⟨y123, hy123⟩ : ∃ y_ : List Int, y_ = (x5_2 ++ [rd x4_1 x24_2]) := ⟨_, rfl⟩
              replace H : (impl_GreatestAntichain.l0 k2 t119 y123 (wrap64 (x6_1 - 1))) = some (r1, r2) := by first | (rw [hy123]; with_reducible exact H) | (have H2_ := (Option.bind_some _ _).symm.trans H; rw [hy123]; with_reducible exact H2_) | (have H2_ := (Option.bind_some _ _).symm.trans H; with_reducible exact H2_) | with_reducible exact H | (rw [hy123]; exact H) | exact H
              have Ny123 := asd hy123
              clear hy123
              have H' := asd H
              clear H
              have p110 : 0 ≤ (x24_2 : Int) := of_decide_eq_true (by first | (with_reducible assumption) | assumption)
              have q110 : x24_2 < (x4_1.length : Int) := of_decide_eq_true (by first | (with_reducible assumption) | assumption)
              obtain ⟨ad110, e110, hx110_0⟩ := Kd.at_int (Kd.R_reads' HO_22.out).2.2 x24_2 p110 q110
              cases e110
              replace p110 := eq_true p110
              replace q110 := eq_true q110
              go_wp2_with (first | ((with_reducible refine gate_dst (N := 8) rfl ?_); refine box_event ?hg (N := 8) ?hd (cs := #[.int .i64 0]) (t := 3) ?hr ?_; (case hd => rfl); (case hg => rfl); (case hr => first | (go_simp; done) | (go_simp; rfl)); intro gb111 hg w28 hbox hb; have n0_ := asd (Kd.R_below (Kd.R_elderB (upR <| HO_4.out) gb111 (Nat.le_of_eq hg.symm)) hb); have n1_ := asd (Kd.R_below (Kd.R_elderB (upR <| HO_5.out) gb111 (Nat.le_of_eq hg.symm)) hb); have n2_ := asd (Kd.R_below (Kd.R_elderB (upR <| HO_22.out) gb111 (Nat.le_of_eq hg.symm)) hb); have n3_ := asd (blk_below (upB BK101.out) hb); have n4_ := asd (below_step (by repeat (first | (with_reducible first | exact HB.out | apply below_alloc | apply pw_below_drewN | apply below_drew1 | refine below_set ?_ GE101.out) | exact HB.out)) hb); have n5_ := asd (hbox); have n6_ := asd ((by rw [hg]; exact (below_size (by repeat (first | (with_reducible first | exact HB.out | apply below_alloc | apply pw_below_drewN | apply below_drew1 | refine below_set ?_ GE101.out) | exact HB.out))) : w.heap.size ≤ gb111)); have n7_ := asd ((by rw [hg]; exact (below_size (by repeat (first | (with_reducible first | exact HB.out | apply below_alloc | apply pw_below_drewN | apply below_drew1 | refine below_set ?_ GE101.out) | exact HB.out))) : w.heap.size ≤ gb111)); have n8_ := asd ((by rw [hg]; exact Nat.ne_of_lt (blk_lt (upB BK101.out)) : gb101 ≠ gb111)); have n9_ := asd ((by rw [hg]; exact Nat.ne_of_gt (blk_lt (upB BK101.out)) : gb111 ≠ gb101)); clear HO_4; clear HO_5; clear HO_22; clear BK101; clear HB; have HO_4 := n0_; have HO_5 := n1_; have HO_22 := n2_; have BK101 := n3_; have HB := n4_; have BK111 := n5_; have GW111 := n6_; have GE111 := n7_; have NB101_111 := n8_; have NB111_101 := n9_; clear n0_ n1_ n2_ n3_ n4_ n5_ n6_ n7_ n8_ n9_; clear hb hbox hg; have hnb29 := NB111_101.out; have hnc29 := NB101_111.out; have hcz30_0 : w28.cell? ⟨gb111, 0, none⟩ = some (.int .i64 0) := (blk_cell BK111.out 0).trans rfl; have hfz30_0 := blk_frozen BK111.out 0) | ((with_reducible refine gate_store (t := 3) (p := 8) rfl ?_); refine store_event (t := 3) (p := 8) (v := ?vo_w31) (w1 := (w28.setCell ⟨gb111, 0, none⟩ (.int .i64 (rd x4_1 x24_2)))) ?hg ?ho ?hn ?hr ?_; (case ho => rfl); (case hg => rfl); (case hn => rfl); (case hr => first | (go_simp; done) | (go_simp; rfl)); intro w31 hw; have n0_ : Aside0 (Kd.R (Kd.int .i64) 3 w31 w.heap.size (fun k_ => some k_ ≠ (u5 : Value).ownBlock ∧ k_ ≠ gb111) u4 x4_2) := ⟨(by rw [hw]; exact (upR <| Kd.R_mono (Kd.R_far (p := ⟨gb111, 0, none⟩) (Kd.R_mono HO_4.out (fun k_ hk => (⟨hk, hk.2⟩ : _ ∧ k_ ≠ gb111))) (fun _ hk => hk.2) (.int .i64 (rd x4_1 x24_2))) (fun _ hk => ⟨hk.1.1, hk.1.2⟩)))⟩; have n1_ : Aside0 (Kd.R (Kd.int .i64) 3 w31 w.heap.size (fun k_ => some k_ ≠ (u4 : Value).ownBlock ∧ some k_ ≠ (.slice (some ad110) x4_1.length co16 : Value).ownBlock ∧ k_ ≠ gb111) u5 x5_2) := ⟨(by rw [hw]; exact (upR <| Kd.R_mono (Kd.R_far (p := ⟨gb111, 0, none⟩) (Kd.R_mono HO_5.out (fun k_ hk => (⟨hk, hk.2⟩ : _ ∧ k_ ≠ gb111))) (fun _ hk => hk.2) (.int .i64 (rd x4_1 x24_2))) (fun _ hk => ⟨hk.1.1.1, ⟨hk.1.1.2, hk.1.2⟩⟩)))⟩; have n2_ : Aside0 (Kd.R (Kd.int .i64) 3 w31 w.heap.size (fun k_ => some k_ ≠ (u5 : Value).ownBlock ∧ k_ ≠ gb111) (.slice (some ad110) x4_1.length co16) x4_1) := ⟨(by rw [hw]; exact (upR <| Kd.R_mono (Kd.R_far (p := ⟨gb111, 0, none⟩) (Kd.R_mono HO_22.out (fun k_ hk => (⟨hk, hk.2⟩ : _ ∧ k_ ≠ gb111))) (fun _ hk => hk.2) (.int .i64 (rd x4_1 x24_2))) (fun _ hk => ⟨hk.1.1, hk.1.2⟩)))⟩; have n3_ : Aside0 (w31.heap[gb101]? = some (.cells #[.int .i64 a0_0, .slice A0_1 l0_1.length c0_1] 28 (0, 0))) := ⟨(by rw [hw]; exact (by (with_reducible repeat (first | refine blk_drewN ?_ _ | refine blk_drew ?_ | refine blk_alloc ?_ _)); refine blk_far ?_ NB101_111.out _; (with_reducible repeat (first | refine blk_drewN ?_ _ | refine blk_drew ?_ | refine blk_alloc ?_ _)); exact BK101.out))⟩; have n4_ : Aside0 (w31.heap[gb111]? = some (.cells #[.int .i64 (rd x4_1 x24_2)] 3 (0, 0))) := ⟨(by rw [hw]; exact (by (with_reducible repeat (first | refine blk_drewN ?_ _ | refine blk_drew ?_ | refine blk_alloc ?_ _)); refine blk_put (cs := #[.int .i64 0]) ?_ 0 _ rfl; (with_reducible repeat (first | refine blk_drewN ?_ _ | refine blk_drew ?_ | refine blk_alloc ?_ _)); exact BK111.out))⟩; have n5_ : Aside0 (Below w.heap.size w w31) := ⟨(by rw [hw]; exact (by repeat (first | (with_reducible first | exact HB.out | apply below_alloc | apply pw_below_drewN | apply below_drew1 | refine below_set ?_ GE101.out | refine below_set ?_ GE111.out) | exact HB.out)))⟩; clear hw; clear HO_4; clear HO_5; clear HO_22; clear BK101; clear BK111; clear HB; have HO_4 := n0_; have HO_5 := n1_; have HO_22 := n2_; have BK101 := n3_; have BK111 := n4_; have HB := n5_; clear n0_ n1_ n2_ n3_ n4_ n5_; obtain ⟨Ao33, co33, eo33⟩ := Kd.R_slice HO_4.out; subst eo33; have q32 : ((ji20) : Int) ≤ ((x4_2.length : Int) : Int) := of_decide_eq_true (by first | (with_reducible assumption) | assumption); obtain ⟨i032, hi032, _, hsz32, _⟩ := info_parts info3; have hroom32 : x4_2.length ≤ co33 := (Kd.R_reads' HO_4.out).2.1; have hC32 : Kd.C (Kd.int .i64) _ Ao33 x4_2.length x4_2 := (Kd.R_reads' HO_4.out).2.2; have q032 : (0 : Int) ≤ ((ji20) : Int) := of_decide_eq_true (by first | (with_reducible assumption) | assumption); have hcut32 := cut_from (P := Try.prog) 22 3 .i64 Try.underlying22 hi032 1 hsz32 Ao33 x4_2.length co33 (ji20) q032 q32; have hr32 := Kd.C_drop (m := ((ji20) : Int).toNat) (c := co33) hC32 (by omega) hroom32; obtain ⟨A32, hA32⟩ : ∃ A1, A1 = (if co33 = ((ji20) : Int).toNat then Ao33 else (Ao33 : Option Addr).map (·.add (((ji20) : Int).toNat * 1))) := ⟨_, rfl⟩; obtain ⟨c32, hc32⟩ : ∃ c1, c1 = co33 - ((ji20) : Int).toNat := ⟨_, rfl⟩; have hy32 : y112.length = x4_2.length - ((ji20) : Int).toNat := (by rw [Ny112.out, List.length_drop] <;> omega); rw [show (x4_2).drop ((ji20) : Int).toNat = y112 from Ny112.out.symm] at hr32; replace hr32 : Kd.C (Kd.int .i64) _ A32 y112.length y112 := (by rw [hA32]; exact hr32); rw [← hy32, ← hA32, ← hc32] at hcut32; have HR115 := asd hr32; have HC115 := asd (show y112.length ≤ c32 from by rw [hy32, hc32]; exact Nat.sub_le_sub_right hroom32 _); clear hr32 hC32 hroom32 hi032 hsz32 hc32; have KY32 := asd hy32; have KA32 := asd hA32; clear hy32 hA32; have KL32 := asd (show ((ji20) : Int).toNat ≤ x4_2.length from by omega); replace q32 := eq_true q32) | ((with_reducible refine gate_callee (f := 65) rfl ?_); refine goesL_ (some 33) rfl rfl Try.func65 (by kernel_rfl) rfl #[.slice A32 y112.length c32] rfl (by (try simp only [List.map_toArray, List.map_cons, List.map_nil]); first | done | rfl | (simp only [List.length_drop, List.length_take]; rfl)) ?_; (with_reducible refine (slices_Clone_int_int.calls _ _ y112 t116 _ ?side1 ?side2 A23.out).mono ?_); (case side1 => repeat (first | exact (by repeat (first | (with_reducible exact HR115.out) | (with_reducible refine Kd.C_alloc ?_ _) | (with_reducible refine Kd.C_drewN ?_ _) | (with_reducible refine Kd.C_drew ?_) | exact HR115.out)) | (with_reducible refine Kd.C_alloc ?_ _) | (with_reducible refine Kd.C_drewN ?_ _) | (with_reducible refine Kd.C_drew ?_))); (case side2 => exact HC115.out); rintro e w34 ⟨v117, rfl, ho0, hb⟩; refine ⟨_, rfl, ?_⟩; have n0_ := asd (Kd.R_elder' (upR <| HO_4.out) (Kd.R_base ho0) hb); have n1_ := asd (Kd.R_elder' (upR <| HO_5.out) (Kd.R_base ho0) hb); have n2_ := asd (Kd.R_elder' (upR <| HO_22.out) (Kd.R_base ho0) hb); have n3_ := asd (Kd.R_lower (Kd.R_newB (Kd.R_new' (Kd.R_new' (Kd.R_new' ho0 (Kd.R_lt (upR <| HO_4.out))) (Kd.R_lt (upR <| HO_5.out))) (Kd.R_lt (upR <| HO_22.out))) (upB BK111.out)) (below_size (by repeat (first | (with_reducible first | exact HB.out | apply below_alloc | apply pw_below_drewN | apply below_drew1 | refine below_set ?_ GE101.out | refine below_set ?_ GE111.out) | exact HB.out)))); have n4_ := asd (blk_below (upB BK101.out) hb); have n5_ := asd (blk_below (upB BK111.out) hb); have n6_ := asd (Kd.C_below (by repeat (first | (with_reducible exact HR115.out) | (with_reducible refine Kd.C_alloc ?_ _) | (with_reducible refine Kd.C_drewN ?_ _) | (with_reducible refine Kd.C_drew ?_) | exact HR115.out)) hb); have n7_ := asd (below_step (by repeat (first | (with_reducible first | exact HB.out | apply below_alloc | apply pw_below_drewN | apply below_drew1 | refine below_set ?_ GE101.out | refine below_set ?_ GE111.out) | exact HB.out)) hb); clear HO_4; clear HO_5; clear HO_22; clear BK101; clear BK111; clear HR115; clear HB; have HO_4 := n0_; have HO_5 := n1_; have HO_22 := n2_; have HO118 := n3_; have BK101 := n4_; have BK111 := n5_; have HR115 := n6_; have HB := n7_; clear n0_ n1_ n2_ n3_ n4_ n5_ n6_ n7_; (try clear hb); (try clear hb2); (try clear hk); (try clear hi); (try clear ho0); obtain ⟨Ao35, co35, eo35⟩ := Kd.R_slice HO118.out; subst eo35) | (go_at_call 80; (with_reducible refine (impl_GA_del.calls (rd x4_1 x24_2) (fun k_ => some k_ = (.slice Ao35 t116.length co35 : Value).ownBlock) (.slice Ao35 t116.length co35) t116 t119 w _ ?side1 ?side3 ?side2 A24.out).mono ?_); (case side1 => repeat (first | (with_reducible first | exact HB.out | apply below_alloc | apply pw_below_drewN | apply below_drew1 | refine below_set ?_ GE101.out | refine below_set ?_ GE111.out) | exact HB.out)); (case side2 => exact Kd.R_tight rfl HO118.out); (case side3 => exact fun W_ hk_ => blk_kept (upB BK111.out) hk_ (fun e_ => by first | exact (HO118.out.1 _ e_.symm).2 rfl | exact (Kd.R_types (HO118.out) (upB BK111.out) (by decide)).1 _ e_.symm |>.2 rfl)); rintro e w36 ⟨v120, rfl, ho0, hb, hkp⟩; have n0_ := asd (Kd.R_mono (ok' := fun k_ => some k_ ≠ (u5 : Value).ownBlock ∧ k_ ≠ gb111 ∧ some k_ ≠ (v120 : Value).ownBlock) (Kd.R_keptB (HO_4.out) hkp (fun k_ hk_ hs_ => (hk_.2) hs_)) (fun k_ hk_ => ⟨hk_.1.1.1, hk_.1.1.2, fun e_ => Or.elim (ho0.1 k_ e_.symm) (fun hs_ => hk_.2.1 hs_) (fun hn_ => Nat.not_le.2 hk_.2.2 hn_)⟩)); have n1_ := asd (Kd.R_mono (ok' := fun k_ => some k_ ≠ (.slice Ao33 x4_2.length co33 : Value).ownBlock ∧ some k_ ≠ (.slice (some ad110) x4_1.length co16 : Value).ownBlock ∧ k_ ≠ gb111 ∧ some k_ ≠ (v120 : Value).ownBlock) (Kd.R_keptB (HO_5.out) hkp (fun k_ hk_ hs_ => (hk_.2) hs_)) (fun k_ hk_ => ⟨hk_.1.1.1, hk_.1.1.2.1, hk_.1.1.2.2, fun e_ => Or.elim (ho0.1 k_ e_.symm) (fun hs_ => hk_.2.1 hs_) (fun hn_ => Nat.not_le.2 hk_.2.2 hn_)⟩)); have n2_ := asd (Kd.R_mono (ok' := fun k_ => some k_ ≠ (u5 : Value).ownBlock ∧ k_ ≠ gb111 ∧ some k_ ≠ (v120 : Value).ownBlock) (Kd.R_keptB (HO_22.out) hkp (fun k_ hk_ hs_ => (hk_.2) hs_)) (fun k_ hk_ => ⟨hk_.1.1.1, hk_.1.1.2, fun e_ => Or.elim (ho0.1 k_ e_.symm) (fun hs_ => hk_.2.1 hs_) (fun hn_ => Nat.not_le.2 hk_.2.2 hn_)⟩)); have n3_ := asd (blk_kept (upB BK101.out) hkp (fun hs_ => (fun e_ => (Kd.R_ne HO118.out BK101.out (by decide)) e_) hs_)); have n4_ := asd (blk_kept (upB BK111.out) hkp (fun hs_ => (fun e_ => (Kd.R_away HO118.out (fun _ hk => hk.2)) e_) hs_)); have n5_ := asd (Kd.R_mono (ok' := fun k_ => some k_ ≠ (.slice Ao33 x4_2.length co33 : Value).ownBlock ∧ some k_ ≠ (u5 : Value).ownBlock ∧ some k_ ≠ (.slice (some ad110) x4_1.length co16 : Value).ownBlock ∧ k_ ≠ gb111) ho0 (fun k_ hk_ => ⟨Or.elim hk_ (fun hs_ => fun e_ => (((HO_4.out).1 k_ e_.symm).2) hs_) (fun hn_ => (Kd.fresh' (Kd.R_lt (upR <| HO_4.out)) k_ hn_)), Or.elim hk_ (fun hs_ => fun e_ => (((HO_5.out).1 k_ e_.symm).2) hs_) (fun hn_ => (Kd.fresh' (Kd.R_lt (upR <| HO_5.out)) k_ hn_)), Or.elim hk_ (fun hs_ => fun e_ => (((HO_22.out).1 k_ e_.symm).2) hs_) (fun hn_ => (Kd.fresh' (Kd.R_lt (upR <| HO_22.out)) k_ hn_)), Or.elim hk_ (fun hs_ => fun e_ => (Kd.R_away HO118.out (fun _ hk => hk.2)) (by rw [← e_]; exact hs_)) (fun hn_ => (Kd.freshB (upB BK111.out) k_ hn_))⟩)); have n6_ := asd (hb); clear HO_4; clear HO_5; clear HO_22; clear BK101; clear BK111; clear HB; clear HO118; have HO_4 := n0_; have HO_5 := n1_; have HO_22 := n2_; have BK101 := n3_; have BK111 := n4_; have HO121 := n5_; have HB := n6_; clear n0_ n1_ n2_ n3_ n4_ n5_ n6_; (try clear hb); (try clear hkp); (try clear ho0); obtain ⟨Ao37, co37, eo37⟩ := Kd.R_slice HO121.out; subst eo37) | ((with_reducible refine gate_callee (f := 79) rfl ?_); refine goesL_ (some 37) rfl rfl Try.func79 (by kernel_rfl) rfl #[.slice Ao37 t119.length co37] rfl (by (try simp only [List.map_toArray, List.map_cons, List.map_nil]); first | done | rfl | (simp only [List.length_drop, List.length_take]; rfl)) ?_; (with_reducible refine (impl_width.calls k2 _ _ t119 t122 _ ?side1 ?side2 A25.out).mono ?_); (case side1 => repeat (first | exact (Kd.R_reads' HO121.out).2.2 | (with_reducible refine Kd.C_alloc ?_ _) | (with_reducible refine Kd.C_drewN ?_ _) | (with_reducible refine Kd.C_drew ?_))); (case side2 => exact (Kd.R_reads' HO121.out).2.1); rintro e w38 ⟨rfl, hb⟩; refine ⟨_, rfl, ?_⟩; have n0_ := asd (Kd.R_below (upR <| HO_4.out) hb); have n1_ := asd (Kd.R_below (upR <| HO_5.out) hb); have n2_ := asd (Kd.R_below (upR <| HO_22.out) hb); have n3_ := asd (Kd.R_below (upR <| HO121.out) hb); have n4_ := asd (blk_below (upB BK101.out) hb); have n5_ := asd (blk_below (upB BK111.out) hb); have n6_ := asd (below_step (by repeat (first | (with_reducible first | exact HB.out | apply below_alloc | apply pw_below_drewN | apply below_drew1 | refine below_set ?_ GE101.out | refine below_set ?_ GE111.out) | exact HB.out)) hb); clear HO_4; clear HO_5; clear HO_22; clear HO121; clear BK101; clear BK111; clear HB; have HO_4 := n0_; have HO_5 := n1_; have HO_22 := n2_; have HO121 := n3_; have BK101 := n4_; have BK111 := n5_; have HB := n6_; clear n0_ n1_ n2_ n3_ n4_ n5_ n6_; (try clear hb); (try clear hb2); (try clear hk); (try clear hi); have hcz39_0 : w38.cell? ⟨gb111, 0, none⟩ = some (.int .i64 (rd x4_1 x24_2)) := (blk_cell BK111.out 0).trans rfl; have hfz39_0 := blk_frozen BK111.out 0) | ((with_reducible refine gate_builtin (b := .append) (xs := #[.tmp 41, .tmp 43]) rfl ?_); at_builtin; refine Kd.R_append (Kd.int .i64) (w0 := w) w.heap.size rfl (.tmp 41) (.tmp 43) 22 3 (.int .i64 0) 8 rfl Try.underlying22 info3 rfl (by decide) (by omega) u5 x5_2 (rd x4_1 x24_2) [.int .i64 (rd x4_1 x24_2)] (fun k_ => some k_ ≠ (.slice Ao33 x4_2.length co33 : Value).ownBlock ∧ some k_ ≠ (.slice (some ad110) x4_1.length co16 : Value).ownBlock ∧ some k_ ≠ (.slice Ao37 t119.length co37 : Value).ownBlock ∧ k_ ≠ gb111) (fun _ => False) rfl rfl ?aP (fun _ hk => hk.elim) ?aF ?aO ?aB ?aS ?aL ?_; (case aP => exact rfl); (case aB => exact (by repeat (first | (with_reducible first | exact HB.out | apply below_alloc | apply pw_below_drewN | apply below_drew1 | refine below_set ?_ GE101.out | refine below_set ?_ GE111.out) | exact HB.out))); (case aF => exact (fun k_ hk => ⟨Kd.fresh' (Kd.R_lt (upR <| HO_4.out)) k_ hk, Kd.fresh' (Kd.R_lt (upR <| HO_22.out)) k_ hk, Kd.fresh' (Kd.R_lt (upR <| HO121.out)) k_ hk, Kd.freshB (upB BK111.out) k_ hk⟩)); (case aO => exact (upR <| Kd.R_mono HO_5.out (fun _ hk => ⟨hk.1, ⟨hk.2.1, ⟨hk.2.2.2, hk.2.2.1⟩⟩⟩))); (case aS => exact (below_size (by repeat (first | (with_reducible first | exact HB.out | apply below_alloc | apply pw_below_drewN | apply below_drew1 | refine below_set ?_ GE101.out | refine below_set ?_ GE111.out) | exact HB.out)))); (case aL => have := LMc27.out; omega); intro v124 w40 ho hb hg hat; rw [← Ny123.out] at ho; have n0_ := asd (Kd.R_after (ok := (fun k_ => some k_ ≠ (.slice Ao37 t119.length co37 : Value).ownBlock ∧ k_ ≠ gb111)) (upR <| Kd.R_mono HO_4.out (fun _ hk => ⟨⟨hk.2.2, hk.2.1⟩, hk.1⟩)) hg hat); have n1_ := asd (Kd.R_after (ok := (fun k_ => some k_ ≠ (.slice Ao37 t119.length co37 : Value).ownBlock ∧ k_ ≠ gb111)) (upR <| Kd.R_mono HO_22.out (fun _ hk => ⟨⟨hk.2.2, hk.2.1⟩, hk.1⟩)) hg hat); have n2_ := asd (blk_grown (upB BK101.out) hg (Kd.R_ne HO_5.out BK101.out (by decide))); have n3_ := asd (blk_grown (upB BK111.out) hg (Kd.R_away HO_5.out (fun _ hk => hk.2.2.1))); have n4_ := asd (Kd.R_after (ok := (fun k_ => some k_ ≠ (.slice Ao33 x4_2.length co33 : Value).ownBlock ∧ some k_ ≠ (.slice (some ad110) x4_1.length co16 : Value).ownBlock ∧ k_ ≠ gb111)) (upR <| Kd.R_mono HO121.out (fun _ hk => ⟨⟨hk.1, ⟨hk.2.2.1, hk.2.2.2⟩⟩, hk.2.1⟩)) hg hat); have n5_ := asd (hb); have n6_ := asd (ho); clear HO_4; clear HO_22; clear BK101; clear BK111; clear HO121; clear HB; clear HO_5; have HO_4 := n0_; have HO_22 := n1_; have BK101 := n2_; have BK111 := n3_; have HO121 := n4_; have HB := n5_; have HO125 := n6_; clear n0_ n1_ n2_ n3_ n4_ n5_ n6_; clear ho hb hg hat))
              go_roundg k2
              case measure => have := HK1.out; have := HK2.out; omega
              case rel => exact ⟨(t119), (y123), (wrap64 (x6_1 - 1)), (by first | rfl | (simp; done) | (simp [*]; done)), H', ⟨by have := HK1.out; have := HK2.out; omega⟩, ⟨by (with_reducible repeat (first | apply Kd.R_alloc | apply Kd.R_drewN | apply Kd.R_drew)); exact Kd.R_mono HO121.out (fun _ hk => hk.2)⟩, ⟨by (with_reducible repeat (first | apply Kd.R_alloc | apply Kd.R_drewN | apply Kd.R_drew)); exact Kd.R_mono HO125.out (fun _ hk => hk.2.2.1)⟩, ⟨by (with_reducible repeat (first | refine blk_drewN ?_ _ | refine blk_drew ?_ | refine blk_alloc ?_ _)); exact BK101.out⟩, ⟨by repeat (first | (with_reducible first | exact HB.out | apply below_alloc | apply pw_below_drewN | apply below_drew1 | refine below_set ?_ GE101.out | refine below_set ?_ GE111.out) | exact HB.out)⟩⟩
             ·
              rw [if_neg c27] at H
              exact absurd H (by simp)
            ·
             rw [if_neg c26] at H
             have c26b0 : decide ((wrap64 (x6_1 - 1)) ≤ t122) = false := decide_eq_false c26
             clear c26
             have H' := asd H
             clear H
             have p110 : 0 ≤ (x24_2 : Int) := of_decide_eq_true (by first | (with_reducible assumption) | assumption)
             have q110 : x24_2 < (x4_1.length : Int) := of_decide_eq_true (by first | (with_reducible assumption) | assumption)
             obtain ⟨ad110, e110, hx110_0⟩ := Kd.at_int (Kd.R_reads' HO_22.out).2.2 x24_2 p110 q110
             cases e110
             replace p110 := eq_true p110
             replace q110 := eq_true q110
             go_wp2_with (first | ((with_reducible refine gate_dst (N := 8) rfl ?_); refine box_event ?hg (N := 8) ?hd (cs := #[.int .i64 0]) (t := 3) ?hr ?_; (case hd => rfl); (case hg => rfl); (case hr => first | (go_simp; done) | (go_simp; rfl)); intro gb111 hg w41 hbox hb; have n0_ := asd (Kd.R_below (Kd.R_elderB (upR <| HO_4.out) gb111 (Nat.le_of_eq hg.symm)) hb); have n1_ := asd (Kd.R_below (Kd.R_elderB (upR <| HO_5.out) gb111 (Nat.le_of_eq hg.symm)) hb); have n2_ := asd (Kd.R_below (Kd.R_elderB (upR <| HO_22.out) gb111 (Nat.le_of_eq hg.symm)) hb); have n3_ := asd (blk_below (upB BK101.out) hb); have n4_ := asd (below_step (by repeat (first | (with_reducible first | exact HB.out | apply below_alloc | apply pw_below_drewN | apply below_drew1 | refine below_set ?_ GE101.out) | exact HB.out)) hb); have n5_ := asd (hbox); have n6_ := asd ((by rw [hg]; exact (below_size (by repeat (first | (with_reducible first | exact HB.out | apply below_alloc | apply pw_below_drewN | apply below_drew1 | refine below_set ?_ GE101.out) | exact HB.out))) : w.heap.size ≤ gb111)); have n7_ := asd ((by rw [hg]; exact (below_size (by repeat (first | (with_reducible first | exact HB.out | apply below_alloc | apply pw_below_drewN | apply below_drew1 | refine below_set ?_ GE101.out) | exact HB.out))) : w.heap.size ≤ gb111)); have n8_ := asd ((by rw [hg]; exact Nat.ne_of_lt (blk_lt (upB BK101.out)) : gb101 ≠ gb111)); have n9_ := asd ((by rw [hg]; exact Nat.ne_of_gt (blk_lt (upB BK101.out)) : gb111 ≠ gb101)); clear HO_4; clear HO_5; clear HO_22; clear BK101; clear HB; have HO_4 := n0_; have HO_5 := n1_; have HO_22 := n2_; have BK101 := n3_; have HB := n4_; have BK111 := n5_; have GW111 := n6_; have GE111 := n7_; have NB101_111 := n8_; have NB111_101 := n9_; clear n0_ n1_ n2_ n3_ n4_ n5_ n6_ n7_ n8_ n9_; clear hb hbox hg; have hnb42 := NB111_101.out; have hnc42 := NB101_111.out; have hcz43_0 : w41.cell? ⟨gb111, 0, none⟩ = some (.int .i64 0) := (blk_cell BK111.out 0).trans rfl; have hfz43_0 := blk_frozen BK111.out 0) | ((with_reducible refine gate_store (t := 3) (p := 8) rfl ?_); refine store_event (t := 3) (p := 8) (v := ?vo_w44) (w1 := (w41.setCell ⟨gb111, 0, none⟩ (.int .i64 (rd x4_1 x24_2)))) ?hg ?ho ?hn ?hr ?_; (case ho => rfl); (case hg => rfl); (case hn => rfl); (case hr => first | (go_simp; done) | (go_simp; rfl)); intro w44 hw; have n0_ : Aside0 (Kd.R (Kd.int .i64) 3 w44 w.heap.size (fun k_ => some k_ ≠ (u5 : Value).ownBlock ∧ k_ ≠ gb111) u4 x4_2) := ⟨(by rw [hw]; exact (upR <| Kd.R_mono (Kd.R_far (p := ⟨gb111, 0, none⟩) (Kd.R_mono HO_4.out (fun k_ hk => (⟨hk, hk.2⟩ : _ ∧ k_ ≠ gb111))) (fun _ hk => hk.2) (.int .i64 (rd x4_1 x24_2))) (fun _ hk => ⟨hk.1.1, hk.1.2⟩)))⟩; have n1_ : Aside0 (Kd.R (Kd.int .i64) 3 w44 w.heap.size (fun k_ => some k_ ≠ (u4 : Value).ownBlock ∧ some k_ ≠ (.slice (some ad110) x4_1.length co16 : Value).ownBlock ∧ k_ ≠ gb111) u5 x5_2) := ⟨(by rw [hw]; exact (upR <| Kd.R_mono (Kd.R_far (p := ⟨gb111, 0, none⟩) (Kd.R_mono HO_5.out (fun k_ hk => (⟨hk, hk.2⟩ : _ ∧ k_ ≠ gb111))) (fun _ hk => hk.2) (.int .i64 (rd x4_1 x24_2))) (fun _ hk => ⟨hk.1.1.1, ⟨hk.1.1.2, hk.1.2⟩⟩)))⟩; have n2_ : Aside0 (Kd.R (Kd.int .i64) 3 w44 w.heap.size (fun k_ => some k_ ≠ (u5 : Value).ownBlock ∧ k_ ≠ gb111) (.slice (some ad110) x4_1.length co16) x4_1) := ⟨(by rw [hw]; exact (upR <| Kd.R_mono (Kd.R_far (p := ⟨gb111, 0, none⟩) (Kd.R_mono HO_22.out (fun k_ hk => (⟨hk, hk.2⟩ : _ ∧ k_ ≠ gb111))) (fun _ hk => hk.2) (.int .i64 (rd x4_1 x24_2))) (fun _ hk => ⟨hk.1.1, hk.1.2⟩)))⟩; have n3_ : Aside0 (w44.heap[gb101]? = some (.cells #[.int .i64 a0_0, .slice A0_1 l0_1.length c0_1] 28 (0, 0))) := ⟨(by rw [hw]; exact (by (with_reducible repeat (first | refine blk_drewN ?_ _ | refine blk_drew ?_ | refine blk_alloc ?_ _)); refine blk_far ?_ NB101_111.out _; (with_reducible repeat (first | refine blk_drewN ?_ _ | refine blk_drew ?_ | refine blk_alloc ?_ _)); exact BK101.out))⟩; have n4_ : Aside0 (w44.heap[gb111]? = some (.cells #[.int .i64 (rd x4_1 x24_2)] 3 (0, 0))) := ⟨(by rw [hw]; exact (by (with_reducible repeat (first | refine blk_drewN ?_ _ | refine blk_drew ?_ | refine blk_alloc ?_ _)); refine blk_put (cs := #[.int .i64 0]) ?_ 0 _ rfl; (with_reducible repeat (first | refine blk_drewN ?_ _ | refine blk_drew ?_ | refine blk_alloc ?_ _)); exact BK111.out))⟩; have n5_ : Aside0 (Below w.heap.size w w44) := ⟨(by rw [hw]; exact (by repeat (first | (with_reducible first | exact HB.out | apply below_alloc | apply pw_below_drewN | apply below_drew1 | refine below_set ?_ GE101.out | refine below_set ?_ GE111.out) | exact HB.out)))⟩; clear hw; clear HO_4; clear HO_5; clear HO_22; clear BK101; clear BK111; clear HB; have HO_4 := n0_; have HO_5 := n1_; have HO_22 := n2_; have BK101 := n3_; have BK111 := n4_; have HB := n5_; clear n0_ n1_ n2_ n3_ n4_ n5_; obtain ⟨Ao46, co46, eo46⟩ := Kd.R_slice HO_4.out; subst eo46; have q45 : ((ji20) : Int) ≤ ((x4_2.length : Int) : Int) := of_decide_eq_true (by first | (with_reducible assumption) | assumption); obtain ⟨i045, hi045, _, hsz45, _⟩ := info_parts info3; have hroom45 : x4_2.length ≤ co46 := (Kd.R_reads' HO_4.out).2.1; have hC45 : Kd.C (Kd.int .i64) _ Ao46 x4_2.length x4_2 := (Kd.R_reads' HO_4.out).2.2; have q045 : (0 : Int) ≤ ((ji20) : Int) := of_decide_eq_true (by first | (with_reducible assumption) | assumption); have hcut45 := cut_from (P := Try.prog) 22 3 .i64 Try.underlying22 hi045 1 hsz45 Ao46 x4_2.length co46 (ji20) q045 q45; have hr45 := Kd.C_drop (m := ((ji20) : Int).toNat) (c := co46) hC45 (by omega) hroom45; obtain ⟨A45, hA45⟩ : ∃ A1, A1 = (if co46 = ((ji20) : Int).toNat then Ao46 else (Ao46 : Option Addr).map (·.add (((ji20) : Int).toNat * 1))) := ⟨_, rfl⟩; obtain ⟨c45, hc45⟩ : ∃ c1, c1 = co46 - ((ji20) : Int).toNat := ⟨_, rfl⟩; have hy45 : y112.length = x4_2.length - ((ji20) : Int).toNat := (by rw [Ny112.out, List.length_drop] <;> omega); rw [show (x4_2).drop ((ji20) : Int).toNat = y112 from Ny112.out.symm] at hr45; replace hr45 : Kd.C (Kd.int .i64) _ A45 y112.length y112 := (by rw [hA45]; exact hr45); rw [← hy45, ← hA45, ← hc45] at hcut45; have HR115 := asd hr45; have HC115 := asd (show y112.length ≤ c45 from by rw [hy45, hc45]; exact Nat.sub_le_sub_right hroom45 _); clear hr45 hC45 hroom45 hi045 hsz45 hc45; have KY45 := asd hy45; have KA45 := asd hA45; clear hy45 hA45; have KL45 := asd (show ((ji20) : Int).toNat ≤ x4_2.length from by omega); replace q45 := eq_true q45) | ((with_reducible refine gate_callee (f := 65) rfl ?_); refine goesL_ (some 33) rfl rfl Try.func65 (by kernel_rfl) rfl #[.slice A45 y112.length c45] rfl (by (try simp only [List.map_toArray, List.map_cons, List.map_nil]); first | done | rfl | (simp only [List.length_drop, List.length_take]; rfl)) ?_; (with_reducible refine (slices_Clone_int_int.calls _ _ y112 t116 _ ?side1 ?side2 A23.out).mono ?_); (case side1 => repeat (first | exact (by repeat (first | (with_reducible exact HR115.out) | (with_reducible refine Kd.C_alloc ?_ _) | (with_reducible refine Kd.C_drewN ?_ _) | (with_reducible refine Kd.C_drew ?_) | exact HR115.out)) | (with_reducible refine Kd.C_alloc ?_ _) | (with_reducible refine Kd.C_drewN ?_ _) | (with_reducible refine Kd.C_drew ?_))); (case side2 => exact HC115.out); rintro e w47 ⟨v117, rfl, ho0, hb⟩; refine ⟨_, rfl, ?_⟩; have n0_ := asd (Kd.R_elder' (upR <| HO_4.out) (Kd.R_base ho0) hb); have n1_ := asd (Kd.R_elder' (upR <| HO_5.out) (Kd.R_base ho0) hb); have n2_ := asd (Kd.R_elder' (upR <| HO_22.out) (Kd.R_base ho0) hb); have n3_ := asd (Kd.R_lower (Kd.R_newB (Kd.R_new' (Kd.R_new' (Kd.R_new' ho0 (Kd.R_lt (upR <| HO_4.out))) (Kd.R_lt (upR <| HO_5.out))) (Kd.R_lt (upR <| HO_22.out))) (upB BK111.out)) (below_size (by repeat (first | (with_reducible first | exact HB.out | apply below_alloc | apply pw_below_drewN | apply below_drew1 | refine below_set ?_ GE101.out | refine below_set ?_ GE111.out) | exact HB.out)))); have n4_ := asd (blk_below (upB BK101.out) hb); have n5_ := asd (blk_below (upB BK111.out) hb); have n6_ := asd (Kd.C_below (by repeat (first | (with_reducible exact HR115.out) | (with_reducible refine Kd.C_alloc ?_ _) | (with_reducible refine Kd.C_drewN ?_ _) | (with_reducible refine Kd.C_drew ?_) | exact HR115.out)) hb); have n7_ := asd (below_step (by repeat (first | (with_reducible first | exact HB.out | apply below_alloc | apply pw_below_drewN | apply below_drew1 | refine below_set ?_ GE101.out | refine below_set ?_ GE111.out) | exact HB.out)) hb); clear HO_4; clear HO_5; clear HO_22; clear BK101; clear BK111; clear HR115; clear HB; have HO_4 := n0_; have HO_5 := n1_; have HO_22 := n2_; have HO118 := n3_; have BK101 := n4_; have BK111 := n5_; have HR115 := n6_; have HB := n7_; clear n0_ n1_ n2_ n3_ n4_ n5_ n6_ n7_; (try clear hb); (try clear hb2); (try clear hk); (try clear hi); (try clear ho0); obtain ⟨Ao48, co48, eo48⟩ := Kd.R_slice HO118.out; subst eo48) | (go_at_call 80; (with_reducible refine (impl_GA_del.calls (rd x4_1 x24_2) (fun k_ => some k_ = (.slice Ao48 t116.length co48 : Value).ownBlock) (.slice Ao48 t116.length co48) t116 t119 w _ ?side1 ?side3 ?side2 A24.out).mono ?_); (case side1 => repeat (first | (with_reducible first | exact HB.out | apply below_alloc | apply pw_below_drewN | apply below_drew1 | refine below_set ?_ GE101.out | refine below_set ?_ GE111.out) | exact HB.out)); (case side2 => exact Kd.R_tight rfl HO118.out); (case side3 => exact fun W_ hk_ => blk_kept (upB BK111.out) hk_ (fun e_ => by first | exact (HO118.out.1 _ e_.symm).2 rfl | exact (Kd.R_types (HO118.out) (upB BK111.out) (by decide)).1 _ e_.symm |>.2 rfl)); rintro e w49 ⟨v120, rfl, ho0, hb, hkp⟩; have n0_ := asd (Kd.R_mono (ok' := fun k_ => some k_ ≠ (u5 : Value).ownBlock ∧ k_ ≠ gb111 ∧ some k_ ≠ (v120 : Value).ownBlock) (Kd.R_keptB (HO_4.out) hkp (fun k_ hk_ hs_ => (hk_.2) hs_)) (fun k_ hk_ => ⟨hk_.1.1.1, hk_.1.1.2, fun e_ => Or.elim (ho0.1 k_ e_.symm) (fun hs_ => hk_.2.1 hs_) (fun hn_ => Nat.not_le.2 hk_.2.2 hn_)⟩)); have n1_ := asd (Kd.R_mono (ok' := fun k_ => some k_ ≠ (.slice Ao46 x4_2.length co46 : Value).ownBlock ∧ some k_ ≠ (.slice (some ad110) x4_1.length co16 : Value).ownBlock ∧ k_ ≠ gb111 ∧ some k_ ≠ (v120 : Value).ownBlock) (Kd.R_keptB (HO_5.out) hkp (fun k_ hk_ hs_ => (hk_.2) hs_)) (fun k_ hk_ => ⟨hk_.1.1.1, hk_.1.1.2.1, hk_.1.1.2.2, fun e_ => Or.elim (ho0.1 k_ e_.symm) (fun hs_ => hk_.2.1 hs_) (fun hn_ => Nat.not_le.2 hk_.2.2 hn_)⟩)); have n2_ := asd (Kd.R_mono (ok' := fun k_ => some k_ ≠ (u5 : Value).ownBlock ∧ k_ ≠ gb111 ∧ some k_ ≠ (v120 : Value).ownBlock) (Kd.R_keptB (HO_22.out) hkp (fun k_ hk_ hs_ => (hk_.2) hs_)) (fun k_ hk_ => ⟨hk_.1.1.1, hk_.1.1.2, fun e_ => Or.elim (ho0.1 k_ e_.symm) (fun hs_ => hk_.2.1 hs_) (fun hn_ => Nat.not_le.2 hk_.2.2 hn_)⟩)); have n3_ := asd (blk_kept (upB BK101.out) hkp (fun hs_ => (fun e_ => (Kd.R_ne HO118.out BK101.out (by decide)) e_) hs_)); have n4_ := asd (blk_kept (upB BK111.out) hkp (fun hs_ => (fun e_ => (Kd.R_away HO118.out (fun _ hk => hk.2)) e_) hs_)); have n5_ := asd (Kd.R_mono (ok' := fun k_ => some k_ ≠ (.slice Ao46 x4_2.length co46 : Value).ownBlock ∧ some k_ ≠ (u5 : Value).ownBlock ∧ some k_ ≠ (.slice (some ad110) x4_1.length co16 : Value).ownBlock ∧ k_ ≠ gb111) ho0 (fun k_ hk_ => ⟨Or.elim hk_ (fun hs_ => fun e_ => (((HO_4.out).1 k_ e_.symm).2) hs_) (fun hn_ => (Kd.fresh' (Kd.R_lt (upR <| HO_4.out)) k_ hn_)), Or.elim hk_ (fun hs_ => fun e_ => (((HO_5.out).1 k_ e_.symm).2) hs_) (fun hn_ => (Kd.fresh' (Kd.R_lt (upR <| HO_5.out)) k_ hn_)), Or.elim hk_ (fun hs_ => fun e_ => (((HO_22.out).1 k_ e_.symm).2) hs_) (fun hn_ => (Kd.fresh' (Kd.R_lt (upR <| HO_22.out)) k_ hn_)), Or.elim hk_ (fun hs_ => fun e_ => (Kd.R_away HO118.out (fun _ hk => hk.2)) (by rw [← e_]; exact hs_)) (fun hn_ => (Kd.freshB (upB BK111.out) k_ hn_))⟩)); have n6_ := asd (hb); clear HO_4; clear HO_5; clear HO_22; clear BK101; clear BK111; clear HB; clear HO118; have HO_4 := n0_; have HO_5 := n1_; have HO_22 := n2_; have BK101 := n3_; have BK111 := n4_; have HO121 := n5_; have HB := n6_; clear n0_ n1_ n2_ n3_ n4_ n5_ n6_; (try clear hb); (try clear hkp); (try clear ho0); obtain ⟨Ao50, co50, eo50⟩ := Kd.R_slice HO121.out; subst eo50) | ((with_reducible refine gate_callee (f := 79) rfl ?_); refine goesL_ (some 37) rfl rfl Try.func79 (by kernel_rfl) rfl #[.slice Ao50 t119.length co50] rfl (by (try simp only [List.map_toArray, List.map_cons, List.map_nil]); first | done | rfl | (simp only [List.length_drop, List.length_take]; rfl)) ?_; (with_reducible refine (impl_width.calls k2 _ _ t119 t122 _ ?side1 ?side2 A25.out).mono ?_); (case side1 => repeat (first | exact (Kd.R_reads' HO121.out).2.2 | (with_reducible refine Kd.C_alloc ?_ _) | (with_reducible refine Kd.C_drewN ?_ _) | (with_reducible refine Kd.C_drew ?_))); (case side2 => exact (Kd.R_reads' HO121.out).2.1); rintro e w51 ⟨rfl, hb⟩; refine ⟨_, rfl, ?_⟩; have n0_ := asd (Kd.R_below (upR <| HO_4.out) hb); have n1_ := asd (Kd.R_below (upR <| HO_5.out) hb); have n2_ := asd (Kd.R_below (upR <| HO_22.out) hb); have n3_ := asd (Kd.R_below (upR <| HO121.out) hb); have n4_ := asd (blk_below (upB BK101.out) hb); have n5_ := asd (blk_below (upB BK111.out) hb); have n6_ := asd (below_step (by repeat (first | (with_reducible first | exact HB.out | apply below_alloc | apply pw_below_drewN | apply below_drew1 | refine below_set ?_ GE101.out | refine below_set ?_ GE111.out) | exact HB.out)) hb); clear HO_4; clear HO_5; clear HO_22; clear HO121; clear BK101; clear BK111; clear HB; have HO_4 := n0_; have HO_5 := n1_; have HO_22 := n2_; have HO121 := n3_; have BK101 := n4_; have BK111 := n5_; have HB := n6_; clear n0_ n1_ n2_ n3_ n4_ n5_ n6_; (try clear hb); (try clear hb2); (try clear hk); (try clear hi)))
             go_roundg k2
             case measure => have := HK1.out; have := HK2.out; omega
             case rel => exact ⟨(x4_2), (x5_2), (ji20), (by first | rfl | (simp; done) | (simp only [← hji20] <;> (first | rfl | simp)) | (simp [*]; done)), H', ⟨by have := HK1.out; have := HK2.out; omega⟩, ⟨by (with_reducible repeat (first | apply Kd.R_alloc | apply Kd.R_drewN | apply Kd.R_drew)); exact Kd.R_mono HO_4.out (fun _ hk => hk.1)⟩, ⟨by (with_reducible repeat (first | apply Kd.R_alloc | apply Kd.R_drewN | apply Kd.R_drew)); exact Kd.R_mono HO_5.out (fun _ hk => ⟨hk.1, hk.2.1⟩)⟩, ⟨by (with_reducible repeat (first | apply Kd.R_alloc | apply Kd.R_drewN | apply Kd.R_drew)); exact Kd.R_mono HO_22.out (fun _ hk => hk.1)⟩, ⟨by (with_reducible repeat (first | refine blk_drewN ?_ _ | refine blk_drew ?_ | refine blk_alloc ?_ _)); exact BK101.out⟩, ⟨by repeat (first | (with_reducible first | exact HB.out | apply below_alloc | apply pw_below_drewN | apply below_drew1 | refine below_set ?_ GE101.out | refine below_set ?_ GE111.out) | exact HB.out)⟩⟩
           ·
            rw [if_neg c22] at H
            exact absurd H (by simp)
          ·
           rw [if_neg c21] at H
           exact absurd H (by simp)
         ·
          rw [if_neg c19] at H
          exact absurd H (by simp)
        ·
         rw [if_neg c18] at H
         exact absurd H (by simp)
       ·
        rw [if_neg c17] at H
        have c17b0 : decide (x24_2 < (x4_1.length : Int)) = false := decide_eq_false c17
        clear c17
        have H' := asd H
        clear H
        go_wp2
        go_roundg k2
        case measure => have := HK1.out; have := HK2.out; omega
        case rel => exact ⟨(x4_2), (x5_2), (wrap64 (x6_1 - 1)), (by first | rfl | (simp; done) | (simp [*]; done)), H', ⟨by have := HK1.out; have := HK2.out; omega⟩, ⟨by (with_reducible repeat (first | apply Kd.R_alloc | apply Kd.R_drewN | apply Kd.R_drew)); exact HO_4.out⟩, ⟨by (with_reducible repeat (first | apply Kd.R_alloc | apply Kd.R_drewN | apply Kd.R_drew)); exact Kd.R_mono HO_5.out (fun _ hk => hk.1)⟩, ⟨by (with_reducible repeat (first | refine blk_drewN ?_ _ | refine blk_drew ?_ | refine blk_alloc ?_ _)); exact BK101.out⟩, ⟨by repeat (first | (with_reducible first | exact HB.out | apply below_alloc | apply pw_below_drewN | apply below_drew1 | refine below_set ?_ GE101.out) | exact HB.out)⟩⟩
    ·
     rw [if_neg c15] at H
     have c15b0 : decide (0 < x6_1) = false := decide_eq_false c15
     clear c15
     simp only [Option.some.injEq, Prod.mk.injEq] at H
     obtain ⟨rfl, rfl⟩ := H
     go_wp2
     go_ret2
     exact ⟨_, by first | rfl | (simp [errW_none, errW_some] <;> rfl) | (simp [*, errW_none, errW_some] <;> rfl), by (with_reducible repeat (first | apply Kd.R_alloc | apply Kd.R_drewN | apply Kd.R_drew)); exact Kd.R_mono HO_5.out (fun _ hk => trivial), by repeat (first | (with_reducible first | exact HB.out | apply below_alloc | apply pw_below_drewN | apply below_drew1 | refine below_set ?_ GE101.out) | exact HB.out)⟩
 ·
  replace c3 := Bool.eq_false_iff.mpr c3
  subst c3
  have H1 : (some (([] : List Int), false)) = some (r1, r2) := by rw [if_neg (show ¬ (false = true) by decide)] at H; exact H
  clear H
  have H := H1
  clear H1
  simp only [Option.some.injEq, Prod.mk.injEq] at H
  obtain ⟨rfl, rfl⟩ := H
  go_enter Try.func37, Try.ntmps37
  go_wp2_with (first | ((with_reducible refine gate_dst (N := 1) rfl ?_); refine box_event ?hg (N := 1) ?hd (cs := #[.int .i64 a0_0, .slice A0_1 l0_1.length c0_1]) (t := 28) ?hr ?_; (case hd => rfl); (case hg => rfl); (case hr => first | (go_simp; done) | (go_simp; rfl)); intro gb101 hg w52 hbox hb; have n0_ := asd (below_step (by repeat (first | (with_reducible first | exact HB.out | apply below_alloc | apply pw_below_drewN | apply below_drew1) | exact HB.out)) hb); have n1_ := asd (hbox); have n2_ := asd ((by rw [hg]; exact (below_size (by repeat (first | (with_reducible first | exact HB.out | apply below_alloc | apply pw_below_drewN | apply below_drew1) | exact HB.out))) : w.heap.size ≤ gb101)); have n3_ := asd ((by rw [hg]; exact (below_size (by repeat (first | (with_reducible first | exact HB.out | apply below_alloc | apply pw_below_drewN | apply below_drew1) | exact HB.out))) : w.heap.size ≤ gb101)); clear HB; have HB := n0_; have BK101 := n1_; have GW101 := n2_; have GE101 := n3_; clear n0_ n1_ n2_ n3_; clear hb hbox hg; have hcz53_0 : w52.cell? ⟨gb101, 0, none⟩ = some (.int .i64 a0_0) := (blk_cell BK101.out 0).trans rfl; have hcz53_1 : w52.cell? ⟨gb101, 1, none⟩ = some (.slice A0_1 l0_1.length c0_1) := (blk_cell BK101.out 1).trans rfl; have hfz53_0 := blk_frozen BK101.out 0; have hfz53_1 := blk_frozen BK101.out 1) | ((with_reducible refine gate_callee (f := 47) rfl ?_); refine goesL_ (some 11) rfl rfl Try.func47 (by kernel_rfl) rfl #[.agg #[.int .i64 a0_0, .slice A0_1 l0_1.length c0_1]] rfl (by (try simp only [List.map_toArray, List.map_cons, List.map_nil]); first | done | rfl | (simp only [List.length_drop, List.length_take]; rfl)) ?_; (with_reducible refine (impl_IsSpace.calls a0_0 _ _ l0_1 false _ ?side1 ?side2 A2.out).mono ?_); (case side1 => repeat (first | exact (Kd.C_below HR0_1.out HB.out) | (with_reducible refine Kd.C_alloc ?_ _) | (with_reducible refine Kd.C_drewN ?_ _) | (with_reducible refine Kd.C_drew ?_))); (case side2 => exact HC0_1.out); rintro e w54 ⟨rfl, hb⟩; refine ⟨_, rfl, ?_⟩; have n0_ := asd (blk_below (upB BK101.out) hb); have n1_ := asd (below_step (by repeat (first | (with_reducible first | exact HB.out | apply below_alloc | apply pw_below_drewN | apply below_drew1 | refine below_set ?_ GE101.out) | exact HB.out)) hb); clear BK101; clear HB; have BK101 := n0_; have HB := n1_; clear n0_ n1_; (try clear hb); (try clear hb2); (try clear hk); (try clear hi)))
  go_ret2
  exact ⟨_, by first | rfl | (simp [errW_none, errW_some] <;> rfl) | (simp [*, errW_none, errW_some] <;> rfl), by first | exact Kd.R_nil _ _ _ _ _ | exact Kd.N_nil _ _ _ _ _ | exact Kd.V_nil _ _ _ _ _ | exact Kd.Q_nil _ _ _ _ _ | exact Kd.S_nil _ _ _ _ _, by repeat (first | (with_reducible first | exact HB.out | apply below_alloc | apply pw_below_drewN | apply below_drew1 | refine below_set ?_ GE101.out) | exact HB.out)⟩

end Go.Proofs.Ytkepeflplmkcmaa.Q
