/- Contracts of functions that the laws reach: a call returns what the plain Lean function of the same name tells. Conditions: those of each theorem. Made by gen.py, a program of this session, over the print of the translation. -/
import Derived.Test.YtkepeflplmkcmaaPx0
import Derived.Test.YtkepeflplmkcmaaPx1
import Derived.Test.YtkepeflplmkcmaaPx2
import Derived.Test.YtkepeflplmkcmaaPx5
import Derived.Test.YtkepeflplmkcmaaPx6
import Derived.Maps.OwnSet
import Derived.Maps.OwnOps
namespace Go.Proofs.Ytkepeflplmkcmaa.Q
open Go.RowKit Go.Proofs.YtkepeflplmkcmaaW.PrintWords Go.Proofs.YtkepeflplmkcmaaW.PrintLast Go.Proofs.YtkepeflplmkcmaaW.PrintMore
attribute [local go_sem] max2_int min2_int max_two min_two max_three min_three max_four min_four   -- for this text's walks alone
set_option linter.unusedVariables false
set_option linter.unusedSimpArgs false

-- HAND with (impl.Space).left+impl.open+impl.items
theorem askLoop_ok {comb : Int → Int → Int → Int} {n : Int} {l : List Int} (s : Int) (y x : Nat) (hy : y < 128) (hx : x < 128) (v : Nat → Int) : ∀ (I : List Nat), (∀ i ∈ I, i < 7 ∧ ∃ p q : Int, Ev (fun k => askF comb n l k ((y ||| 2 ^ i : Nat) : Int) (x : Int)) p ∧ Ev (fun k => askF comb n l k (y : Int) ((x ||| 2 ^ i : Nat) : Int)) q ∧ comb s p q = v i) → ∀ (f : Bool) (b : Int), Ev (fun k => askLoop (fun y x => askF comb n l k y x) (comb s) (y : Int) (x : Int) (I.map fun (i : Nat) => (i : Int)) f b) (minV v I f b)
  | [], _, f, b => Ev.const rfl
  | i :: I, h, f, b => by
    obtain ⟨h7, p, q, hp, hq, hv⟩ := h i (by simp)
    have h2i : (2 : Nat) ^ i < 9223372036854775808 := pow_lt63 i (by omega)
    refine Ev.to (g := fun k => (askF comb n l k ((y ||| 2 ^ i : Nat) : Int) (x : Int)).bind fun p => (askF comb n l k (y : Int) ((x ||| 2 ^ i : Nat) : Int)).bind fun q => askLoop (fun y x => askF comb n l k y x) (comb s) (y : Int) (x : Int) (I.map fun (i : Nat) => (i : Int)) false (if f = true ∨ comb s p q < b then comb s p q else b)) (fun k => by
      rw [List.map_cons, askLoop, if_pos (show (0 : Int) ≤ (i : Int) by omega), shl_one i (by omega), bits_or y (2 ^ i) (by omega) h2i, bits_or x (2 ^ i) (by omega) h2i]) ?_
    refine Ev.bind hp ?_
    refine Ev.bind hq ?_
    rw [hv]
    exact askLoop_ok s y x hy hx v I (fun j hj => h j (by simp [hj])) _ _
/-- What it costs to go on is what the sets that are left cost. -/
theorem askE {comb c : Int → Int → Int → Int} {n : Int} {l : List Int} (hM : ∀ x ∈ l, I128 x) (hl : l.length ≤ 128)
    (hc : ∀ (L : List Int) (i : Nat), L.length ≤ 128 → comb L.length (valV c 7 (hasF i L)) (valV c 7 (hasntF i L)) = c L.length (valV c 7 (hasF i L)) (valV c 7 (hasntF i L))) :
    ∀ (d y x : Nat), y < 128 → x < 128 → (itemsN (openS (leftL l (y : Int) (x : Int)))).length ≤ d → Ev (fun k => askF comb n l k (y : Int) (x : Int)) (valV c 7 (leftL l (y : Int) (x : Int))) := by
  intro d
  induction d using Nat.strongRecOn with
  | ind d ih =>
  intro y x hy hx hd
  have hML : ∀ z ∈ leftL l (y : Int) (x : Int), I128 z := fun z hz => hM z (leftL_sub hz)
  have hLl : (leftL l (y : Int) (x : Int)).length ≤ 128 := Nat.le_trans (leftL_length l _ _) hl
  refine Ev.succ (fun k => by rw [askF, if_pos (show (0 : Int) ≤ (y : Int) ∧ (y : Int) < 128 ∧ (0 : Int) ≤ (x : Int) ∧ (x : Int) < 128 by omega)]) ?_
  refine Ev.bind (left_ok n (y := (y : Int)) (n := (x : Int)) ⟨by omega, by omega⟩ ⟨by omega, by omega⟩ hM (by omega)) ?_
  refine Ev.bind (open_ok _ hML hLl) ?_
  rw [valV_step c hML]
  unfold itemsL
  rw [Int.toNat_natCast]
  refine askLoop_ok _ y x hy hx _ _ (fun i hi => ?_) true 0
  have h7 := itemsN_lt hi
  have hy2 : y ||| 2 ^ i < 128 := Nat.or_lt_two_pow (n := 7) hy (Nat.pow_lt_pow_right (by decide) h7)
  have hx2 : x ||| 2 ^ i < 128 := Nat.or_lt_two_pow (n := 7) hx (Nat.pow_lt_pow_right (by decide) h7)
  have o1 := open_part hML hasF_sub hi (hasF_open h7)
  have o2 := open_part hML hasntF_sub hi (hasntF_open h7)
  have e1 := left_has hM y x i
  have e2 := left_hasnt hM y x i
  refine ⟨h7, _, _, ih (d - 1) (by omega) (y ||| 2 ^ i) x hy2 hx (by rw [e1]; omega), ih (d - 1) (by omega) y (x ||| 2 ^ i) hy hx2 (by rw [e2]; omega), ?_⟩
  rw [e1, e2]
  exact hc _ i hLl
theorem combT_ok (L : List Int) (i : Nat) (h : L.length ≤ 128) : combT L.length (valV cT 7 (hasF i L)) (valV cT 7 (hasntF i L)) = cT L.length (valV cT 7 (hasF i L)) (valV cT 7 (hasntF i L)) := by
  have h1 := valT_bounds 7 (hasF i L)
  have h2 := valT_bounds 7 (hasntF i L)
  have h3 := has_hasnt i L
  generalize valV cT 7 (hasF i L) = p at *
  generalize valV cT 7 (hasntF i L) = q at *
  unfold combT cT wrap64
  omega

-- HAND with impl.newAsker+(impl.Space).left+impl.open
set_option maxHeartbeats 8000000 in
set_option maxRecDepth 100000 in
theorem newAsker_maps (n : Int) (A : Option Addr) (c : Nat) (l : List Int) (w : World) :
    Calls Try.prog 48 #[.agg #[.int .i64 n, .slice A l.length c]] w fun e w' => ∃ (g b1 b2 : Nat), e = .returned (.pointer (some ⟨g, 0, none⟩)) ∧ AskS combW w w' g b1 n A c l (.map (some b1)) (.map (some b2)) (.map []) ∧ AskS combT w w' g b2 n A c l (.map (some b1)) (.map (some b2)) (.map []) := by
  have hu := Try.underlying28
  have hu2 := Try.underlying110
  have hmm := @run_makeMap Try.prog
  go_enter Try.func48, Try.ntmps48
  go_wp2_with ((with_reducible refine gate_dst (N := 1) rfl ?_); refine box_event ?hg (N := 1) ?hd (cs := #[.int .i64 n, .slice A l.length c]) (t := 28) ?hr ?_; (case hd => rfl); (case hg => rfl); (case hr => first | (go_simp; done) | (go_simp; rfl)); intro g ge W gb Wb; have HXg := Aside0.mk (SpBox.mk_ ge gb Wb); have gz0 := HXg.out.c0; have gz1 := HXg.out.c1; clear ge gb Wb)
  go_ret
  have hb := HXg.out.bel
  have hs := below_size hb
  have hbel := below_alloc (below_alloc (below_alloc hb (.map #[] 0)) (.map #[] 0)) (.cells #[.int .i64 n, .slice A l.length c, .map (some W.heap.size), .map (some (W.heap.size + 1))] 110)
  have hblk : (((W.alloc (.map #[] 0)).alloc (.map #[] 0)).alloc (.cells #[.int .i64 n, .slice A l.length c, .map (some W.heap.size), .map (some (W.heap.size + 1))] 110)).heap[W.heap.size + 1 + 1]? = some (.cells #[.int .i64 n, .slice A l.length c, .map (some W.heap.size), .map (some (W.heap.size + 1))] 110 (0, 0)) := by
    show (((W.heap.push _).push _).push _)[W.heap.size + 1 + 1]? = some _
    rw [show W.heap.size + 1 + 1 = ((W.heap.push (.map #[] 0)).push (.map #[] 0)).size by simp]
    exact Array.getElem?_push_size
  have hm1 := (((World.ownsMap_made W Try.prog 111 (plainElem (H := Unit) Try.prog 3)).mono (Nat.zero_le 16384)).alloc (.map #[] 0)).alloc (.cells #[.int .i64 n, .slice A l.length c, .map (some W.heap.size), .map (some (W.heap.size + 1))] 110)
  have hm2 := ((World.ownsMap_made (W.alloc (.map #[] 0)) Try.prog 111 (plainElem (H := Unit) Try.prog 3)).mono (Nat.zero_le 16384)).alloc (.cells #[.int .i64 n, .slice A l.length c, .map (some W.heap.size), .map (some (W.heap.size + 1))] 110)
  rw [World.size_alloc] at hm2
  refine ⟨W.heap.size + 1 + 1, W.heap.size, W.heap.size + 1, rfl, ⟨hbel, hblk, hm1, ⟨⟨[], rfl, fun p hp => by cases hp⟩, fun y x _ _ hh => by cases hh⟩, hs⟩, ⟨hbel, hblk, hm2, ⟨⟨[], rfl, fun p hp => by cases hp⟩, fun y x _ _ hh => by cases hh⟩, by omega⟩⟩

-- HAND impl_asker_sum: function 49
set_option maxHeartbeats 8000000 in
set_option maxRecDepth 100000 in
theorem impl_asker_sum.calls (g bm : Nat) (n : Int) (A : Option Addr) (c : Nat) (l : List Int) (m1 : Value) (wb : World) (hl : Kd.C (Kd.int .i64) wb A l.length l) (hc : l.length ≤ c) :
  ∀ (k : Nat) (y x r : Int) (D : DataW Unit) (w : World) (hS : AskS combT wb w g bm n A c l m1 (.map (some bm)) D) (h : askF combT n l k y x = some r),
  Calls Try.prog 49 #[.pointer (some ⟨g, 0, none⟩), .int .i64 y, .int .i64 x] w fun e w' => e = .returned (.int .i64 r) ∧ AskOk combT wb w w' g bm n A c l m1 (.map (some bm)) := by
 have hu := Try.underlying28
 have hu2 := Try.underlying110
 have HL := asd hl
 have HC := asd hc
 clear hl hc
 intro k
 induction k with
 | zero =>
  intro y x r D w hS h
  cases h
 | succ k ih =>
  intro y x r D w hS h
  have IH := asd ih
  have HW := asd h
  have HLW := asd hS.map.lt
  clear ih
  obtain ⟨hry, hrx⟩ := askF_range h
  have hX := below_alloc (Below.refl _ w) (.cells #[.int .i64 y, .int .i64 x] 111)
  have HS1 := asd (hS.below hX)
  have BK1 := asd (heap_alloc_new w (.cells #[.int .i64 y, .int .i64 x] 111))
  have HX := asd hX
  clear hS hX
  unfold askF at h
  rw [if_pos ⟨hry.1, hry.2, hrx⟩] at h
  obtain ⟨L, hL, h⟩ := Option.bind_eq_some_iff.1 h
  obtain ⟨O, hO, h⟩ := Option.bind_eq_some_iff.1 h
  have HLL := asd hL
  have HO := asd hO
  have HV := asd h
  have HRG : Aside0 ((0 ≤ y ∧ y < 128) ∧ (0 ≤ x ∧ x < 128)) := ⟨⟨hry, hrx⟩⟩
  clear h hL hO hry hrx
  obtain ⟨cv, hcv⟩ := HS1.out.at_ HRG.out.1 HRG.out.2
  have HCV := asd hcv
  clear hcv
  cases hh : Go.Maps.has D (kl2 y x) with
  | true =>
   obtain ⟨k2, v2, e1, e2⟩ := HS1.out.memo.2 y x HRG.out.1 HRG.out.2 hh
   have HC2 : Aside0 (cv = r) := ⟨by
    have h1 := HCV.out.symm.trans e2
    rw [askF_det HW.out e1]
    exact (Lit.int.inj (DataW.lit.inj h1)).2⟩
   have HH := asd hh
   clear hh e1 e2
   go_enter Try.func49, Try.ntmps49
   go_wp2
   generalize w.alloc (.cells #[.int .i64 y, .int .i64 x] 111) = w1 at *
   have HK0 : Aside0 (∀ w', Below w1.heap.size w1 w' → Aside0 (Below w1.heap.size w1 w') ∧ w'.cell? ⟨g, 3, none⟩ = some (.map (some bm)) ∧ w'.cell? ⟨w.heap.size, 0, none⟩ = some (.int .i64 y) ∧ w'.cell? ⟨w.heap.size, 1, none⟩ = some (.int .i64 x) ∧ (Instr.lookup 108 (.map (some bm)) (.agg #[.int .i64 y, .int .i64 x]) true).run Try.prog w' = .ok (.tuple #[.int .i64 cv, .bool true]) w') := ⟨fun w' hb => ⟨⟨hb⟩, (HS1.out.below hb).cells.2.2.2, (blk_cell (blk_below BK1.out hb) 0).trans rfl, (blk_cell (blk_below BK1.out hb) 1).trans rfl, (HS1.out.below hb).look HRG.out.1 HRG.out.2 HCV.out HH.out⟩⟩
   go_region_held3 (fun w' => Aside0 (Below w1.heap.size w1 w') ∧ w'.cell? ⟨g, 3, none⟩ = some (.map (some bm)) ∧ w'.cell? ⟨w.heap.size, 0, none⟩ = some (.int .i64 y) ∧ w'.cell? ⟨w.heap.size, 1, none⟩ = some (.int .i64 x) ∧ (Instr.lookup 108 (.map (some bm)) (.agg #[.int .i64 y, .int .i64 x]) true).run Try.prog w' = .ok (.tuple #[.int .i64 cv, .bool true]) w') (first | exact HK0.out _ (Below.refl _ _) | exact HK0.out _ (below_drew1 (Below.refl _ _)) | exact HK0.out _ (below_step (‹Aside0 (Below w1.heap.size w1 _) ∧ _›).1.out (by assumption))) (fail)
   go_wp2
   go_ret
   exact ⟨by rw [HC2.out]; rfl, D, HS1.out.below (below_drew1 (Below.refl _ _)), Kept.of_below (below_step HX.out (below_drew1 (Below.refl _ _))) _⟩
  | false =>
   have HH := asd hh
   clear hh
   go_enter Try.func49, Try.ntmps49
   go_wp2
   generalize w.alloc (.cells #[.int .i64 y, .int .i64 x] 111) = w1 at *
   have HK0 : Aside0 (∀ w', Below w1.heap.size w1 w' → Aside0 (Below w1.heap.size w1 w') ∧ w'.cell? ⟨g, 3, none⟩ = some (.map (some bm)) ∧ w'.cell? ⟨w.heap.size, 0, none⟩ = some (.int .i64 y) ∧ w'.cell? ⟨w.heap.size, 1, none⟩ = some (.int .i64 x) ∧ (Instr.lookup 108 (.map (some bm)) (.agg #[.int .i64 y, .int .i64 x]) true).run Try.prog w' = .ok (.tuple #[.int .i64 cv, .bool false]) w') := ⟨fun w' hb => ⟨⟨hb⟩, (HS1.out.below hb).cells.2.2.2, (blk_cell (blk_below BK1.out hb) 0).trans rfl, (blk_cell (blk_below BK1.out hb) 1).trans rfl, (HS1.out.below hb).look HRG.out.1 HRG.out.2 HCV.out HH.out⟩⟩
   go_region_held3 (fun w' => Aside0 (Below w1.heap.size w1 w') ∧ w'.cell? ⟨g, 3, none⟩ = some (.map (some bm)) ∧ w'.cell? ⟨w.heap.size, 0, none⟩ = some (.int .i64 y) ∧ w'.cell? ⟨w.heap.size, 1, none⟩ = some (.int .i64 x) ∧ (Instr.lookup 108 (.map (some bm)) (.agg #[.int .i64 y, .int .i64 x]) true).run Try.prog w' = .ok (.tuple #[.int .i64 cv, .bool false]) w') (first | exact HK0.out _ (Below.refl _ _) | exact HK0.out _ (below_drew1 (Below.refl _ _)) | exact HK0.out _ (below_step (‹Aside0 (Below w1.heap.size w1 _) ∧ _›).1.out (by assumption))) (fail)
   have HB2 : Aside0 (Below w1.heap.size w1 w1.drew) := ⟨below_drew1 (Below.refl _ _)⟩
   clear HK0 HCV HH
   generalize w1.drew = w2 at *
   have HS2 := asd (HS1.out.below HB2.out)
   have BK2 := asd (blk_below BK1.out HB2.out)
   have HX2 := asd (below_step HX.out HB2.out)
   have q0 := HS2.out.cells.1
   have q1 := HS2.out.cells.2.1
   clear HS1 HB2 BK1 HX
   go_wp2_with (first | (go_at_call 55; (with_reducible refine (impl_Space_left.calls k n _ _ l y x L _ ?sa ?sb HLL.out).mono ?_); (case sa => exact Kd.C_below HL.out HS2.out.bel); (case sb => exact HC.out); rintro e W4 ⟨vL, rfl, hR, hb4⟩; have HS4 := asd (HS2.out.below hb4); have HB4 := asd (below_step HX2.out hb4); have BK4 := asd (blk_below BK2.out hb4); obtain ⟨AL, cL, rfl⟩ := Kd.R_slice hR; have HRL := asd (Kd.R_reads' hR).2.2; have HCL := asd (Kd.R_reads' hR).2.1; clear hR hb4 q0 q1) | (go_at_call 105; (refine (impl_open.calls k _ _ L O _ HRL.out HCL.out HO.out).mono ?_); rintro e W5 ⟨vI, rfl, hR, hb5⟩; have HS5 := asd (HS4.out.below hb5); have HB5 := asd (below_step HB4.out hb5); have BK5 := asd (blk_below BK4.out hb5); obtain ⟨AI, cI, rfl⟩ := Kd.R_slice hR; have HIT := asd (Kd.R_tight rfl hR); have HIB := asd (Kd.R_base hR); have HLT := asd HS4.out.map.lt; clear hR hb5))
   have HNI : Aside0 (∀ k, some k = (Value.slice AI O.length cI).ownBlock → ¬ k = bm) := ⟨fun k hk hh => by
    have h1 := HIB.out k hk.symm
    have := HLT.out
    omega⟩
   clear HS2 BK2 HX2 HS4 HB4 BK4 HRL HCL HIB HLT
   go_loopg [11, 39] O.length (fun kq v11 v39 wr => ∃ (j : Nat) (b : Int) (D1 : DataW Unit), v11 = .int .i64 b ∧ v39 = .int .i64 j ∧ Aside0 (j ≤ O.length ∧ O.length - j ≤ kq) ∧ Aside0 (askLoop (fun y x => askF combT n l k y x) (combT L.length) y x (O.drop j) (decide (j = 0)) b = some r) ∧ Aside0 (AskS combT wb wr g bm n A c l m1 (.map (some bm)) D1) ∧ Aside0 (Kept W5 wr (fun k => k = bm)))
   case atStart => exact ⟨0, 0, D, rfl, rfl, ⟨Nat.zero_le _, Nat.le_refl _⟩, ⟨HV.out⟩, HS5, ⟨Kept.refl _ _⟩⟩
   case round =>
    obtain ⟨j, b, D1, rfl, rfl, hj, HA, HS, HK⟩ := hrel
    obtain ⟨hjl, hgg⟩ := hj.out
    clear hj
    have HOK : Aside0 (AskOk combT wb wr wr g bm n A c l m1 (.map (some bm))) := ⟨⟨D1, HS.out, Kept.refl _ _⟩⟩
    by_cases hlt : j < O.length
    ·
     have HIR := asd (Kd.R_reads' (Kd.R_step HIT.out (fun k hk hlt => HK.out.2 k hlt (HNI.out k hk)))).2.2
     have hmx := Kd.C_max HIR.out
     have hltz : (j : Int) < (O.length : Int) := by omega
     have H := HA.out
     clear HA
     rw [List.drop_eq_getElem_cons hlt, ← rd_get hlt] at H
     obtain ⟨ad, e, hcx⟩ := Kd.at_int HIR.out (j : Int) (by omega) hltz
     cases e
     rw [Int.toNat_natCast] at hcx
     generalize rd O (j : Int) = i at *
     unfold askLoop at H
     by_cases hi : 0 ≤ i
     ·
      rw [if_pos hi] at H
      obtain ⟨p, hp, H⟩ := Option.bind_eq_some_iff.1 H
      obtain ⟨q, hq, H⟩ := Option.bind_eq_some_iff.1 H
      obtain ⟨v0, hv0⟩ : ∃ v0, v0 = combT L.length p q := ⟨_, rfl⟩
      rw [← hv0] at H
      have HH2 := asd H
      have hi0b : decide (0 ≤ i) = true := decide_eq_true hi
      obtain ⟨sx, hsx⟩ : ∃ y, y = shl .i64 1 i := ⟨_, rfl⟩
      have sA : IntKind.i64.wrap (1 * 2 ^ min i.toNat 64) = sx := hsx.symm
      have sB : IntKind.i64.wrap (2 ^ min i.toNat 64) = sx := by rw [← sA, Int.one_mul]
      have sC : wrap64 (1 * 2 ^ min i.toNat 64) = sx := (i64_w _).symm.trans sA
      have sD : wrap64 (2 ^ min i.toNat 64) = sx := (i64_w _).symm.trans sB
      have HREC1 : Aside0 (askF combT n l k (Go.bits .or .i64 y sx) x = some p) := ⟨by rw [hsx]; exact hp⟩
      have HREC2 : Aside0 (askF combT n l k y (Go.bits .or .i64 x sx) = some q) := ⟨by rw [hsx]; exact hq⟩
      have cA : IntKind.i64.wrap (IntKind.i64.wrap ((L.length : Int) + p) + q) = v0 := by rw [hv0, i64_w, i64_w]; rfl
      clear hsx H hp hq hv0
      go_wp2
      go_region_held3 (fun w' => Aside0 (AskOk combT wb wr w' g bm n A c l m1 (.map (some bm)))) (first | assumption | exact ⟨HOK.out.below (below_drew1 (Below.refl _ _))⟩ | exact ⟨(‹Aside0 (AskOk combT wb wr _ g bm n A c l m1 (.map (some bm)))›).out.trans (by assumption)⟩ | exact HOK) (first | (go_at_call 49; obtain ⟨Dq, hSq, hKq⟩ := (‹Aside0 (AskOk combT wb wr _ g bm n A c l m1 (.map (some bm)))›).out; (first | (with_reducible refine (IH.out (Go.bits .or .i64 y sx) x p Dq _ hSq HREC1.out).mono ?_) | (with_reducible refine (IH.out y (Go.bits .or .i64 x sx) q Dq _ hSq HREC2.out).mono ?_)); rintro e W3 ⟨rfl, hb3⟩))
      have HB3 := ‹Aside0 (AskOk combT wb wr _ g bm n A c l m1 (.map (some bm)))›
      by_cases hj0 : j = 0
      ·
       have jb : ((j : Int) == 0) = true := beq_iff_eq.mpr (by omega)
       go_wp2
       all_goals go_roundg (O.length - (j + 1))
       all_goals first | (case measure => omega) | (case rel => obtain ⟨D2, hS2, hK2⟩ := HB3.out; exact ⟨j + 1, v0, D2, rfl, by go_num, ⟨by omega, Nat.le_refl _⟩, ⟨by have h := HH2.out; rw [if_pos (Or.inl (decide_eq_true hj0))] at h; rw [show decide (j + 1 = 0) = false from decide_eq_false (by omega)]; exact h⟩, ⟨hS2⟩, ⟨HK.out.then_ hK2 (fun _ hk => .inl hk)⟩⟩)
      ·
       have jb : ((j : Int) == 0) = false := beq_eq_false_iff_ne.mpr (by omega)
       have jd : ¬ decide (j = 0) = true := by simp [hj0]
       by_cases hvb : v0 < b
       ·
        have vb : decide (v0 < b) = true := decide_eq_true hvb
        go_wp2
        all_goals go_roundg (O.length - (j + 1))
        all_goals first | (case measure => omega) | (case rel => obtain ⟨D2, hS2, hK2⟩ := HB3.out; exact ⟨j + 1, v0, D2, rfl, by go_num, ⟨by omega, Nat.le_refl _⟩, ⟨by have h := HH2.out; rw [if_pos (Or.inr hvb)] at h; rw [show decide (j + 1 = 0) = false from decide_eq_false (by omega)]; exact h⟩, ⟨hS2⟩, ⟨HK.out.then_ hK2 (fun _ hk => .inl hk)⟩⟩)
       ·
        have vb : decide (v0 < b) = false := decide_eq_false hvb
        go_wp2
        all_goals go_roundg (O.length - (j + 1))
        all_goals first | (case measure => omega) | (case rel => obtain ⟨D2, hS2, hK2⟩ := HB3.out; exact ⟨j + 1, b, D2, rfl, by go_num, ⟨by omega, Nat.le_refl _⟩, ⟨by have h := HH2.out; rw [if_neg (fun h2 => h2.elim jd (fun h3 => absurd h3 (by omega)))] at h; rw [show decide (j + 1 = 0) = false from decide_eq_false (by omega)]; exact h⟩, ⟨hS2⟩, ⟨HK.out.then_ hK2 (fun _ hk => .inl hk)⟩⟩)
     ·
      rw [if_neg hi] at H
      cases H
    ·
     obtain rfl : j = O.length := by omega
     have hltz : ¬ (O.length : Int) < (O.length : Int) := by omega
     have H := HA.out
     clear HA
     rw [List.drop_of_length_le (Nat.le_refl _)] at H
     unfold askLoop at H
     obtain rfl : b = r := Option.some.inj H
     clear H
     have HWV : Aside0 ((Lit.int .i64 b).wf = true) := ⟨askLoop_wf (fun p q => combT_wf _ p q) _ _ _ _ (WalkArith.wf_i64 (by omega)) HV.out⟩
     have BKr := asd (blk_kept BK5.out HK.out (by have := HLW.out; omega))
     have HKU : Aside0 (∀ w', AskOk combT wb wr w' g bm n A c l m1 (.map (some bm)) → Kept wr w' (fun k => k = bm) → Aside0 (AskOk combT wb wr w' g bm n A c l m1 (.map (some bm))) ∧ w'.cell? ⟨g, 3, none⟩ = some (.map (some bm)) ∧ w'.cell? ⟨w.heap.size, 0, none⟩ = some (.int .i64 y) ∧ w'.cell? ⟨w.heap.size, 1, none⟩ = some (.int .i64 x) ∧ (Instr.mapUpdate 108 (.map (some bm)) (.agg #[.int .i64 y, .int .i64 x]) (.int .i64 b)).run Try.prog w' = .ok () (putW bm y x b w')) := ⟨fun w' h hk => by
      obtain ⟨D2, hS2, _⟩ := h
      have hb := blk_kept BKr.out hk (by have := HLW.out; omega)
      exact ⟨⟨⟨D2, hS2, hk⟩⟩, hS2.cells.2.2.2, (blk_cell hb 0).trans rfl, (blk_cell hb 1).trans rfl, (hS2.update HW.out HWV.out).1⟩⟩
     have HKA : Aside0 (∀ w', AskOk combT wb wr w' g bm n A c l m1 (.map (some bm)) → Aside0 (AskOk combT wb wr w' g bm n A c l m1 (.map (some bm))) ∧ w'.cell? ⟨g, 3, none⟩ = some (.map (some bm)) ∧ w'.cell? ⟨w.heap.size, 0, none⟩ = some (.int .i64 y) ∧ w'.cell? ⟨w.heap.size, 1, none⟩ = some (.int .i64 x) ∧ (Instr.mapUpdate 108 (.map (some bm)) (.agg #[.int .i64 y, .int .i64 x]) (.int .i64 b)).run Try.prog w' = .ok () (putW bm y x b w')) := ⟨fun w' h => HKU.out w' h (by obtain ⟨_, _, hk⟩ := h; exact hk)⟩
     have HKP : Aside0 (∀ w', AskOk combT wb wr w' g bm n A c l m1 (.map (some bm)) → AskOk combT wb wr (putW bm y x b w') g bm n A c l m1 (.map (some bm))) := ⟨fun w' h => by
      obtain ⟨D2, hS2, hk⟩ := h
      exact AskOk.trans ⟨D2, hS2, hk⟩ (hS2.update HW.out HWV.out).2⟩
     go_wp2
     go_region_held3 (fun w' => Aside0 (AskOk combT wb wr w' g bm n A c l m1 (.map (some bm))) ∧ w'.cell? ⟨g, 3, none⟩ = some (.map (some bm)) ∧ w'.cell? ⟨w.heap.size, 0, none⟩ = some (.int .i64 y) ∧ w'.cell? ⟨w.heap.size, 1, none⟩ = some (.int .i64 x) ∧ (Instr.mapUpdate 108 (.map (some bm)) (.agg #[.int .i64 y, .int .i64 x]) (.int .i64 b)).run Try.prog w' = .ok () (putW bm y x b w')) (first | exact HKA.out _ HOK.out | exact HKA.out _ (HOK.out.below (below_drew1 (Below.refl _ _))) | exact HKA.out _ (HKP.out _ (‹Aside0 (AskOk combT wb wr _ g bm n A c l m1 (.map (some bm))) ∧ _›).1.out)) (fail)
     go_wp2
     go_ret
     have hw1 : AskOk combT wb w wr g bm n A c l m1 (.map (some bm)) := ⟨D1, HS.out, (Kept.of_below HB5.out (fun k => k = bm)).then_ HK.out (fun _ hk => .inl hk)⟩
     exact ⟨rfl, hw1.trans (HKP.out _ (HOK.out.below (below_drew1 (Below.refl _ _))))⟩

-- HAND impl_LeastTotal: function 14
def impl_LeastTotal.f (n : Int) (l : List Int) : Option (Int × Bool) := if isSpaceB n l = true then some (valV cT 7 (leftL l 0 0), true) else some (0, false)
set_option maxHeartbeats 8000000 in
set_option maxRecDepth 100000 in
theorem impl_LeastTotal.calls (n : Int) (A : Option Addr) (c : Nat) (l : List Int) (r1 : Int) (r2 : Bool) (w : World) (hr : Kd.C (Kd.int .i64) w A l.length l) (hc : l.length ≤ c) (h : impl_LeastTotal.f n l = some (r1, r2)) :
    Calls Try.prog 14 #[.agg #[.int .i64 n, .slice A l.length c]] w fun e w' => e = .returned (.tuple #[.int .i64 r1, .bool r2]) ∧ Below w.heap.size w w' := by
  have hu := Try.underlying28
  have HR := Aside0.mk hr
  have HC := Aside0.mk hc
  clear hr hc
  unfold impl_LeastTotal.f at h
  cases hgo : isSpaceB n l with
  | false =>
    have HG : Aside0 (impl_IsSpace.f n l = some false) := ⟨congrArg some hgo⟩
    rw [hgo, if_neg (by decide)] at h
    obtain ⟨rfl, rfl⟩ : (0 : Int) = r1 ∧ false = r2 := by simpa using h
    clear h
    go_enter Try.func14, Try.ntmps14
    go_wp2_with (first | ((with_reducible refine gate_dst (N := 1) rfl ?_); refine box_event ?hg (N := 1) ?hd (cs := #[.int .i64 n, .slice A l.length c]) (t := 28) ?hr ?_; (case hd => rfl); (case hg => rfl); (case hr => first | (go_simp; done) | (go_simp; rfl)); intro g ge W gb Wb; have HXg := Aside0.mk (SpBox.mk_ ge gb Wb); have gz0 := HXg.out.c0; have gz1 := HXg.out.c1; clear ge gb Wb) | (go_at_call 47; (with_reducible refine (impl_IsSpace.calls n _ _ l false _ (by repeat (first | exact Kd.C_below HR.out HXg.out.bel | (with_reducible refine Kd.C_drewN ?_ _) | (with_reducible refine Kd.C_drew ?_))) HC.out HG.out).mono ?_); rintro e W2 ⟨rfl, hbel_⟩; have HX2 := Aside0.mk (SpBox.next HXg.out (by first | exact hbel_ | exact below_since hbel_ | exact below_since1 hbel_)); skip; clear hbel_))
    go_ret2
    exact ⟨rfl, (by repeat (first | exact HX2.out.bel | apply pw_below_drewN | apply below_drew1))⟩
  | true =>
    have HG : Aside0 (impl_IsSpace.f n l = some true) := ⟨congrArg some hgo⟩
    rw [hgo, if_pos rfl] at h
    obtain ⟨rfl, rfl⟩ : valV cT 7 (leftL l 0 0) = r1 ∧ true = r2 := by simpa using h
    clear h
    obtain ⟨k1, hk1⟩ := askE (n := n) (isSpaceB_i128 hgo) (isSpaceB_len hgo) combT_ok 7 0 0 (by decide) (by decide) (items_len _)
    have HK1 : Aside0 (askF combT n l k1 0 0 = some (valV cT 7 (leftL l 0 0))) := ⟨hk1 k1 (Nat.le_refl _)⟩
    clear hgo hk1
    generalize valV cT 7 (leftL l 0 0) = v1 at *
    go_enter Try.func14, Try.ntmps14
    go_wp2_with (first | ((with_reducible refine gate_dst (N := 1) rfl ?_); refine box_event ?hg (N := 1) ?hd (cs := #[.int .i64 n, .slice A l.length c]) (t := 28) ?hr ?_; (case hd => rfl); (case hg => rfl); (case hr => first | (go_simp; done) | (go_simp; rfl)); intro g ge W gb Wb; have HXg := Aside0.mk (SpBox.mk_ ge gb Wb); have gz0 := HXg.out.c0; have gz1 := HXg.out.c1; clear ge gb Wb) | (go_at_call 47; (with_reducible refine (impl_IsSpace.calls n _ _ l true _ (by repeat (first | exact Kd.C_below HR.out HXg.out.bel | (with_reducible refine Kd.C_drewN ?_ _) | (with_reducible refine Kd.C_drew ?_))) HC.out HG.out).mono ?_); rintro e W2 ⟨rfl, hbel_⟩; have HX2 := Aside0.mk (SpBox.next HXg.out (by first | exact hbel_ | exact below_since hbel_ | exact below_since1 hbel_)); have q0 := HX2.out.c0; have q1 := HX2.out.c1; clear hbel_) | (go_at_call 48; (with_reducible refine (newAsker_maps n A c l _).mono ?_); rintro e W3 ⟨g3, m1, m2, rfl, _, hA1⟩; have HRW2 := Aside0.mk (Kd.C_below HR.out HX2.out.bel); have HT3 := Aside0.mk hA1; clear hA1) | (go_at_call 49; (with_reducible refine (impl_asker_sum.calls g3 m2 n A c l (.map (some m1)) W2 HRW2.out HC.out k1 0 0 v1 _ _ HT3.out HK1.out).mono ?_); rintro e W4 ⟨rfl, D4, hS4, _⟩; have HB4 := Aside0.mk (below_step HX2.out.bel hS4.bel); clear hS4))
    go_ret2
    exact ⟨rfl, HB4.out⟩

/-! ### laws_eqIntS: function 22 -/
def laws_eqIntS.l0 : Nat → List Int → List Int → Int → Option (Bool)
 | 0, _, _, _ => none
 | k + 1, x0, x1, x5 => if x5 < (x0.length : Int) then (if 0 ≤ x5 then (if x5 < (x1.length : Int) then (if (rd x0 x5) = (rd x1 x5) then (laws_eqIntS.l0 k x0 x1 (wrap64 (x5 + 1))) else (some false)) else (none)) else (none)) else (some true)
def laws_eqIntS.f (k : Nat) (l0 : List Int) (l1 : List Int) : Option (Bool) := if (l0.length : Int) = (l1.length : Int) then (laws_eqIntS.l0 k l0 l1 0) else (some false)
theorem laws_eqIntS.mono_l : ∀ k, (∀ y0 y1 y2, LeO (laws_eqIntS.l0 k y0 y1 y2) (laws_eqIntS.l0 (k + 1) y0 y1 y2))
 | 0 => fun _ _ _ r h => by simp [laws_eqIntS.l0] at h
 | k + 1 => by
  have ih0 := laws_eqIntS.mono_l k
  ·
   intro y0 y1 y2
   unfold laws_eqIntS.l0
   repeat' first
   | (with_reducible exact ih0 _ _ _)
   | (with_reducible exact LeO.refl _)
   | (with_reducible exact LeO.none _)
   | (with_reducible refine LeO.ite ?_ ?_)
   | (with_reducible refine LeO.bind ?_ (fun _ => ?_))
   | exact ih0 _ _ _
   | exact LeO.none _
   | refine LeO.ite ?_ ?_
   | refine LeO.bind ?_ (fun _ => ?_)
theorem laws_eqIntS.mono : ∀ a0 a1 k, LeO (laws_eqIntS.f k a0 a1) (laws_eqIntS.f (k + 1) a0 a1) := by
 intro a0 a1 k
 have ih0 := laws_eqIntS.mono_l k
 unfold laws_eqIntS.f
 repeat' first
   | (with_reducible exact ih0 _ _ _)
   | (with_reducible exact LeO.refl _)
   | (with_reducible exact LeO.none _)
   | (with_reducible refine LeO.ite ?_ ?_)
   | (with_reducible refine LeO.bind ?_ (fun _ => ?_))
   | exact ih0 _ _ _
   | exact LeO.none _
   | refine LeO.ite ?_ ?_
   | refine LeO.bind ?_ (fun _ => ?_)
set_option maxHeartbeats 8000000 in
set_option maxRecDepth 100000 in
theorem laws_eqIntS.calls (k : Nat) (A0 : Option Addr) (c0 : Nat) (l0 : List Int) (A1 : Option Addr) (c1 : Nat) (l1 : List Int) (r : Bool) (w : World) (hr0 : Kd.C (Kd.int .i64) w A0 l0.length l0) (hc0 : l0.length ≤ c0) (hr1 : Kd.C (Kd.int .i64) w A1 l1.length l1) (hc1 : l1.length ≤ c1) (h : laws_eqIntS.f k l0 l1 = some r) :
  Calls Try.prog 22 #[.slice A0 l0.length c0, .slice A1 l1.length c1] w fun e w' => e = .returned (.bool r) ∧ Drawn0 w w' := by
 have HR0 := asd hr0
 have HC0 := asd hc0
 clear hr0 hc0
 have HR1 := asd hr1
 have HC1 := asd hc1
 clear hr1 hc1
 have H : (if (l0.length : Int) = (l1.length : Int) then (laws_eqIntS.l0 k l0 l1 0) else (some false)) = some r := h
 clear h
 by_cases c3 : (l0.length : Int) = (l1.length : Int)
 ·
  rw [if_pos c3] at H
  have c3b0 : ((l0.length : Int) == (l1.length : Int)) = true := beq_iff_eq.mpr c3
  have c3b1 : ((l0.length : Int) != (l1.length : Int)) = false := bne_eq_false_iff_eq.mpr c3
  have c3b2 : (l0.length == l1.length) = true := by first | simpa using c3 | (simp at c3 ⊢; omega)
  clear c3
  have H' := asd H
  clear H
  go_enter Try.func22, Try.ntmps22
  go_wp2
  repeat (go_quiet (fail); try go_wp2)
  go_loopg [5] k (fun kq v5 w' => ∃ (x5_1 : Int), v5 = .int .i64 x5_1 ∧ Aside0 (laws_eqIntS.l0 kq l0 l1 x5_1 = some r) ∧ Aside0 (kq ≤ k) ∧ Drawn0 w w')
  case atStart => exact ⟨(0), (by first | rfl | (simp; done) | (simp [*]; done)), H', ⟨Nat.le_refl _⟩, by repeat (first | exact Drawn0.refl _ | apply Drawn0.step)⟩
  case round =>
   clear H'
   try clear c1
   try clear c2
   try clear p2
   try clear c3
   try clear c3b0
   try clear c3b1
   try clear c3b2
   skip
   obtain ⟨x5_1, rfl, HA, HK1, ⟨m1, rfl⟩⟩ := hrel
   cases gk with
   | zero => exact absurd HA.out (by simp [laws_eqIntS.l0])
   | succ k1 =>
    have H := HA.out
    clear HA
    simp only [laws_eqIntS.l0] at H
    by_cases c4 : x5_1 < (l0.length : Int)
    ·
     rw [if_pos c4] at H
     have c4b0 : decide (x5_1 < (l0.length : Int)) = true := decide_eq_true c4
     clear c4
     by_cases c5 : 0 ≤ x5_1
     ·
      rw [if_pos c5] at H
      have c5b0 : decide (0 ≤ x5_1) = true := decide_eq_true c5
      clear c5
      by_cases c6 : x5_1 < (l1.length : Int)
      ·
       rw [if_pos c6] at H
       have c6b0 : decide (x5_1 < (l1.length : Int)) = true := decide_eq_true c6
       clear c6
       by_cases c7 : (rd l0 x5_1) = (rd l1 x5_1)
       ·
        rw [if_pos c7] at H
        have c7b0 : ((rd l0 x5_1) == (rd l1 x5_1)) = true := beq_iff_eq.mpr c7
        have c7b1 : ((rd l0 x5_1) != (rd l1 x5_1)) = false := bne_eq_false_iff_eq.mpr c7
        clear c7
        have H' := asd H
        clear H
        have p101 : 0 ≤ (x5_1 : Int) := of_decide_eq_true (by first | (with_reducible assumption) | assumption)
        have q101 : x5_1 < (l0.length : Int) := of_decide_eq_true (by first | (with_reducible assumption) | assumption)
        obtain ⟨ad101, e101, hx101_0⟩ := Kd.at_int HR0.out x5_1 p101 q101
        cases e101
        replace p101 := eq_true p101
        replace q101 := eq_true q101
        have p102 : 0 ≤ (x5_1 : Int) := of_decide_eq_true (by first | (with_reducible assumption) | assumption)
        have q102 : x5_1 < (l1.length : Int) := of_decide_eq_true (by first | (with_reducible assumption) | assumption)
        obtain ⟨ad102, e102, hx102_0⟩ := Kd.at_int HR1.out x5_1 p102 q102
        cases e102
        replace p102 := eq_true p102
        replace q102 := eq_true q102
        go_wp2
        repeat (go_quiet (fail); try go_wp2)
        go_roundg k1
        case measure => have := HK1.out; omega
        case rel => exact ⟨(wrap64 (x5_1 + 1)), (by first | rfl | (simp; done) | (simp [*]; done)), H', ⟨by have := HK1.out; omega⟩, by repeat (first | exact Drawn0.refl _ | apply Drawn0.step)⟩
       ·
        rw [if_neg c7] at H
        have c7b0 : ((rd l0 x5_1) == (rd l1 x5_1)) = false := beq_eq_false_iff_ne.mpr c7
        have c7b1 : ((rd l0 x5_1) != (rd l1 x5_1)) = true := bne_iff_ne.mpr c7
        obtain rfl := Option.some.inj H
        have p101 : 0 ≤ (x5_1 : Int) := of_decide_eq_true (by first | (with_reducible assumption) | assumption)
        have q101 : x5_1 < (l0.length : Int) := of_decide_eq_true (by first | (with_reducible assumption) | assumption)
        obtain ⟨ad101, e101, hx101_0⟩ := Kd.at_int HR0.out x5_1 p101 q101
        cases e101
        replace p101 := eq_true p101
        replace q101 := eq_true q101
        have p102 : 0 ≤ (x5_1 : Int) := of_decide_eq_true (by first | (with_reducible assumption) | assumption)
        have q102 : x5_1 < (l1.length : Int) := of_decide_eq_true (by first | (with_reducible assumption) | assumption)
        obtain ⟨ad102, e102, hx102_0⟩ := Kd.at_int HR1.out x5_1 p102 q102
        cases e102
        replace p102 := eq_true p102
        replace q102 := eq_true q102
        go_wp2
        repeat (go_quiet (fail); try go_wp2)
        go_ret
        exact ⟨by first | rfl | (simp; done) | (simp [*]; done), by repeat (first | exact Drawn0.refl _ | apply Drawn0.step)⟩
      ·
       rw [if_neg c6] at H
       exact absurd H (by simp)
     ·
      rw [if_neg c5] at H
      exact absurd H (by simp)
    ·
     rw [if_neg c4] at H
     have c4b0 : decide (x5_1 < (l0.length : Int)) = false := decide_eq_false c4
     clear c4
     obtain rfl := Option.some.inj H
     go_wp2
     repeat (go_quiet (fail); try go_wp2)
     go_ret
     exact ⟨by first | rfl | (simp; done) | (simp [*]; done), by repeat (first | exact Drawn0.refl _ | apply Drawn0.step)⟩
 ·
  rw [if_neg c3] at H
  have c3b0 : ((l0.length : Int) == (l1.length : Int)) = false := beq_eq_false_iff_ne.mpr c3
  have c3b1 : ((l0.length : Int) != (l1.length : Int)) = true := bne_iff_ne.mpr c3
  have c3b2 : (l0.length == l1.length) = false := by first | simpa using c3 | (simp at c3 ⊢; omega)
  obtain rfl := Option.some.inj H
  go_enter Try.func22, Try.ntmps22
  go_wp2
  repeat (go_quiet (fail); try go_wp2)
  go_ret
  exact ⟨by first | rfl | (simp; done) | (simp [*]; done), by repeat (first | exact Drawn0.refl _ | apply Drawn0.step)⟩

-- HAND with laws.eqIntS
theorem eqIntS_loop (a b : List Int) (hlen : a.length < 9223372036854775807) (he : a.length = b.length) : ∀ (d i : Nat), a.length - i = d → i ≤ a.length → (∀ j, j < i → a[j]? = b[j]?) → Ev (fun k => laws_eqIntS.l0 k a b i) (decide (a = b)) := by
  intro d
  induction d with
  | zero =>
    intro i hd hi hj
    refine Ev.succ (fun k => by simp only [laws_eqIntS.l0]; rw [if_neg (by omega)]) (Ev.const (congrArg some ?_))
    symm
    rw [decide_eq_true_eq]
    apply List.ext_getElem?
    intro j
    rcases Nat.lt_or_ge j i with h | h
    · exact hj j h
    · rw [List.getElem?_eq_none (by omega), List.getElem?_eq_none (by omega)]
  | succ d ih =>
    intro i hd hi hj
    have ha : i < a.length := by omega
    have hb : i < b.length := by omega
    by_cases e : rd a (i : Int) = rd b (i : Int)
    · refine Ev.succ (fun k => by simp only [laws_eqIntS.l0]; rw [if_pos (by omega), if_pos (by omega), if_pos (by omega), if_pos e, wrap_succ (by omega) (by omega)]) ?_
      refine ih (i + 1) (by omega) (by omega) (fun j hji => ?_)
      rcases Nat.lt_or_ge j i with h | h
      · exact hj j h
      · obtain rfl : j = i := by omega
        rw [rd_get ha, rd_get hb] at e
        rw [List.getElem?_eq_getElem ha, List.getElem?_eq_getElem hb, e]
    · refine Ev.succ (fun k => by simp only [laws_eqIntS.l0]; rw [if_pos (by omega), if_pos (by omega), if_pos (by omega), if_neg e]) (Ev.const (congrArg some ?_))
      symm
      rw [decide_eq_false_iff_not]
      intro h
      exact e (by rw [h])
theorem eqIntS_ok (a b : List Int) (hlen : a.length < 9223372036854775807) : Ev (fun k => laws_eqIntS.f k a b) (decide (a = b)) := by
  by_cases he : a.length = b.length
  · refine Ev.to (fun k => by unfold laws_eqIntS.f; rw [if_pos (by omega)]) ?_
    exact eqIntS_loop a b hlen he a.length 0 (by omega) (by omega) (fun j h => absurd h (Nat.not_lt_zero _))
  · refine Ev.to (fun k => by unfold laws_eqIntS.f; rw [if_neg (by omega)]) (Ev.const (congrArg some ?_))
    symm
    rw [decide_eq_false_iff_not]
    intro h
    exact he (by rw [h])
theorem eqIntS_refl (a : List Int) (hlen : a.length < 9223372036854775807) : Ev (fun k => laws_eqIntS.f k a a) true := Ev.val (eqIntS_ok a a hlen) (by simp)

/-! ### laws_eqSpace: function 15 -/
def laws_eqSpace.f (k : Nat) (a0_0 : Int) (l0_1 : List Int) (a1_0 : Int) (l1_1 : List Int) : Option (Bool) := if a0_0 = a1_0 then ((laws_eqIntS.f k l0_1 l1_1).bind fun t103 => (if t103 = true then (some true) else (some false))) else (some false)
theorem laws_eqSpace.mono : ∀ a0 a1 a2 a3 k, LeO (laws_eqSpace.f k a0 a1 a2 a3) (laws_eqSpace.f (k + 1) a0 a1 a2 a3) := by
 intro a0 a1 a2 a3 k
 unfold laws_eqSpace.f
 repeat' first
   | (with_reducible exact laws_eqIntS.mono _ _ _)
   | (with_reducible exact LeO.refl _)
   | (with_reducible exact LeO.none _)
   | (with_reducible refine LeO.ite ?_ ?_)
   | (with_reducible refine LeO.bind ?_ (fun _ => ?_))
   | exact laws_eqIntS.mono _ _ _
   | exact LeO.none _
   | refine LeO.ite ?_ ?_
   | refine LeO.bind ?_ (fun _ => ?_)
set_option maxHeartbeats 8000000 in
set_option maxRecDepth 100000 in
theorem laws_eqSpace.calls (k : Nat) (a0_0 : Int) (A0_1 : Option Addr) (c0_1 : Nat) (l0_1 : List Int) (a1_0 : Int) (A1_1 : Option Addr) (c1_1 : Nat) (l1_1 : List Int) (r : Bool) (w : World) (hr0_1 : Kd.C (Kd.int .i64) w A0_1 l0_1.length l0_1) (hc0_1 : l0_1.length ≤ c0_1) (hr1_1 : Kd.C (Kd.int .i64) w A1_1 l1_1.length l1_1) (hc1_1 : l1_1.length ≤ c1_1) (h : laws_eqSpace.f k a0_0 l0_1 a1_0 l1_1 = some r) :
  Calls Try.prog 15 #[.agg #[.int .i64 a0_0, .slice A0_1 l0_1.length c0_1], .agg #[.int .i64 a1_0, .slice A1_1 l1_1.length c1_1]] w fun e w' => e = .returned (.bool r) ∧ Below w.heap.size w w' := by
 have hu28 := Try.underlying28
 have HR0_1 := asd hr0_1
 have HC0_1 := asd hc0_1
 clear hr0_1 hc0_1
 have HR1_1 := asd hr1_1
 have HC1_1 := asd hc1_1
 clear hr1_1 hc1_1
 have HB := asd (Below.refl w.heap.size w)
 have H : (if a0_0 = a1_0 then ((laws_eqIntS.f k l0_1 l1_1).bind fun t103 => (if t103 = true then (some true) else (some false))) else (some false)) = some r := h
 clear h
 by_cases c3 : a0_0 = a1_0
 ·
  rw [if_pos c3] at H
  have c3b0 : (a0_0 == a1_0) = true := beq_iff_eq.mpr c3
  have c3b1 : (a0_0 != a1_0) = false := bne_eq_false_iff_eq.mpr c3
  clear c3
  replace H := Option.bind_eq_some_iff.mp H
  obtain ⟨t103, A40, H⟩ := H
  replace H : (if t103 = true then (some true) else (some false)) = some r := H
  have A4 := asd A40
  clear A40
  by_cases c5 : t103 = true
  ·
   subst c5
   have H1 : (some true) = some r := by rw [if_pos rfl] at H; exact H
   clear H
   have H := H1
   clear H1
   obtain rfl := Option.some.inj H
   go_enter Try.func15, Try.ntmps15
   go_wp2_with (first | ((with_reducible refine gate_dst (N := 2) rfl ?_); refine box_event ?hg (N := 2) ?hd (cs := #[.int .i64 a0_0, .slice A0_1 l0_1.length c0_1]) (t := 28) ?hr ?_; (case hd => rfl); (case hg => rfl); (case hr => first | (go_simp; done) | (go_simp; rfl)); intro gb101 hg w6 hbox hb; have n0_ := asd (below_step (by repeat (first | (with_reducible first | exact HB.out | apply below_alloc | apply pw_below_drewN | apply below_drew1) | exact HB.out)) hb); have n1_ := asd (hbox); have n2_ := asd ((by rw [hg]; exact (below_size (by repeat (first | (with_reducible first | exact HB.out | apply below_alloc | apply pw_below_drewN | apply below_drew1) | exact HB.out))) : w.heap.size ≤ gb101)); have n3_ := asd ((by rw [hg]; exact (below_size (by repeat (first | (with_reducible first | exact HB.out | apply below_alloc | apply pw_below_drewN | apply below_drew1) | exact HB.out))) : w.heap.size ≤ gb101)); clear HB; have HB := n0_; have BK101 := n1_; have GW101 := n2_; have GE101 := n3_; clear n0_ n1_ n2_ n3_; clear hb hbox hg) | ((with_reducible refine gate_dst (N := 3) rfl ?_); refine box_event ?hg (N := 3) ?hd (cs := #[.int .i64 a1_0, .slice A1_1 l1_1.length c1_1]) (t := 28) ?hr ?_; (case hd => rfl); (case hg => rfl); (case hr => first | (go_simp; done) | (go_simp; rfl)); intro gb102 hg w7 hbox hb; have n0_ := asd (blk_below (upB BK101.out) hb); have n1_ := asd (below_step (by repeat (first | (with_reducible first | exact HB.out | apply below_alloc | apply pw_below_drewN | apply below_drew1 | refine below_set ?_ GE101.out) | exact HB.out)) hb); have n2_ := asd (hbox); have n3_ := asd ((by rw [hg]; exact (below_size (by repeat (first | (with_reducible first | exact HB.out | apply below_alloc | apply pw_below_drewN | apply below_drew1 | refine below_set ?_ GE101.out) | exact HB.out))) : w.heap.size ≤ gb102)); have n4_ := asd ((by rw [hg]; exact (below_size (by repeat (first | (with_reducible first | exact HB.out | apply below_alloc | apply pw_below_drewN | apply below_drew1 | refine below_set ?_ GE101.out) | exact HB.out))) : w.heap.size ≤ gb102)); have n5_ := asd ((by rw [hg]; exact Nat.ne_of_lt (blk_lt (upB BK101.out)) : gb101 ≠ gb102)); have n6_ := asd ((by rw [hg]; exact Nat.ne_of_gt (blk_lt (upB BK101.out)) : gb102 ≠ gb101)); clear BK101; clear HB; have BK101 := n0_; have HB := n1_; have BK102 := n2_; have GW102 := n3_; have GE102 := n4_; have NB101_102 := n5_; have NB102_101 := n6_; clear n0_ n1_ n2_ n3_ n4_ n5_ n6_; clear hb hbox hg; have hnb8 := NB101_102.out; have hnc8 := NB102_101.out; have hcz9_0 : w7.cell? ⟨gb101, 0, none⟩ = some (.int .i64 a0_0) := (blk_cell BK101.out 0).trans rfl; have hcz9_1 : w7.cell? ⟨gb101, 1, none⟩ = some (.slice A0_1 l0_1.length c0_1) := (blk_cell BK101.out 1).trans rfl; have hfz9_0 := blk_frozen BK101.out 0; have hfz9_1 := blk_frozen BK101.out 1; have hcz10_0 : w7.cell? ⟨gb102, 0, none⟩ = some (.int .i64 a1_0) := (blk_cell BK102.out 0).trans rfl; have hcz10_1 : w7.cell? ⟨gb102, 1, none⟩ = some (.slice A1_1 l1_1.length c1_1) := (blk_cell BK102.out 1).trans rfl; have hfz10_0 := blk_frozen BK102.out 0; have hfz10_1 := blk_frozen BK102.out 1) | ((with_reducible refine gate_callee (f := 22) rfl ?_); refine goesL_ (some 14) rfl rfl Try.func22 (by kernel_rfl) rfl #[.slice A0_1 l0_1.length c0_1, .slice A1_1 l1_1.length c1_1] rfl (by (try simp only [List.map_toArray, List.map_cons, List.map_nil]); first | done | rfl | (simp only [List.length_drop, List.length_take]; rfl)) ?_; (with_reducible refine (laws_eqIntS.calls k _ _ l0_1 _ _ l1_1 true _ ?side1 ?side2 ?side3 ?side4 A4.out).mono ?_); (case side1 => repeat (first | exact (Kd.C_below HR0_1.out HB.out) | (with_reducible refine Kd.C_alloc ?_ _) | (with_reducible refine Kd.C_drewN ?_ _) | (with_reducible refine Kd.C_drew ?_))); (case side2 => exact HC0_1.out); (case side3 => repeat (first | exact (Kd.C_below HR1_1.out HB.out) | (with_reducible refine Kd.C_alloc ?_ _) | (with_reducible refine Kd.C_drewN ?_ _) | (with_reducible refine Kd.C_drew ?_))); (case side4 => exact HC1_1.out); rintro e w' ⟨rfl, ⟨nd, rfl⟩⟩; refine ⟨_, rfl, ?_⟩))
   go_ret
   exact ⟨by first | rfl | (simp [errW_none, errW_some] <;> rfl) | (simp [*, errW_none, errW_some] <;> rfl), by repeat (first | (with_reducible first | exact HB.out | apply below_alloc | apply pw_below_drewN | apply below_drew1 | refine below_set ?_ GE101.out | refine below_set ?_ GE102.out) | exact HB.out)⟩
  ·
   replace c5 := Bool.eq_false_iff.mpr c5
   subst c5
   have H1 : (some false) = some r := by rw [if_neg (show ¬ (false = true) by decide)] at H; exact H
   clear H
   have H := H1
   clear H1
   obtain rfl := Option.some.inj H
   go_enter Try.func15, Try.ntmps15
   go_wp2_with (first | ((with_reducible refine gate_dst (N := 2) rfl ?_); refine box_event ?hg (N := 2) ?hd (cs := #[.int .i64 a0_0, .slice A0_1 l0_1.length c0_1]) (t := 28) ?hr ?_; (case hd => rfl); (case hg => rfl); (case hr => first | (go_simp; done) | (go_simp; rfl)); intro gb101 hg w11 hbox hb; have n0_ := asd (below_step (by repeat (first | (with_reducible first | exact HB.out | apply below_alloc | apply pw_below_drewN | apply below_drew1) | exact HB.out)) hb); have n1_ := asd (hbox); have n2_ := asd ((by rw [hg]; exact (below_size (by repeat (first | (with_reducible first | exact HB.out | apply below_alloc | apply pw_below_drewN | apply below_drew1) | exact HB.out))) : w.heap.size ≤ gb101)); have n3_ := asd ((by rw [hg]; exact (below_size (by repeat (first | (with_reducible first | exact HB.out | apply below_alloc | apply pw_below_drewN | apply below_drew1) | exact HB.out))) : w.heap.size ≤ gb101)); clear HB; have HB := n0_; have BK101 := n1_; have GW101 := n2_; have GE101 := n3_; clear n0_ n1_ n2_ n3_; clear hb hbox hg) | ((with_reducible refine gate_dst (N := 3) rfl ?_); refine box_event ?hg (N := 3) ?hd (cs := #[.int .i64 a1_0, .slice A1_1 l1_1.length c1_1]) (t := 28) ?hr ?_; (case hd => rfl); (case hg => rfl); (case hr => first | (go_simp; done) | (go_simp; rfl)); intro gb102 hg w12 hbox hb; have n0_ := asd (blk_below (upB BK101.out) hb); have n1_ := asd (below_step (by repeat (first | (with_reducible first | exact HB.out | apply below_alloc | apply pw_below_drewN | apply below_drew1 | refine below_set ?_ GE101.out) | exact HB.out)) hb); have n2_ := asd (hbox); have n3_ := asd ((by rw [hg]; exact (below_size (by repeat (first | (with_reducible first | exact HB.out | apply below_alloc | apply pw_below_drewN | apply below_drew1 | refine below_set ?_ GE101.out) | exact HB.out))) : w.heap.size ≤ gb102)); have n4_ := asd ((by rw [hg]; exact (below_size (by repeat (first | (with_reducible first | exact HB.out | apply below_alloc | apply pw_below_drewN | apply below_drew1 | refine below_set ?_ GE101.out) | exact HB.out))) : w.heap.size ≤ gb102)); have n5_ := asd ((by rw [hg]; exact Nat.ne_of_lt (blk_lt (upB BK101.out)) : gb101 ≠ gb102)); have n6_ := asd ((by rw [hg]; exact Nat.ne_of_gt (blk_lt (upB BK101.out)) : gb102 ≠ gb101)); clear BK101; clear HB; have BK101 := n0_; have HB := n1_; have BK102 := n2_; have GW102 := n3_; have GE102 := n4_; have NB101_102 := n5_; have NB102_101 := n6_; clear n0_ n1_ n2_ n3_ n4_ n5_ n6_; clear hb hbox hg; have hnb13 := NB101_102.out; have hnc13 := NB102_101.out; have hcz14_0 : w12.cell? ⟨gb101, 0, none⟩ = some (.int .i64 a0_0) := (blk_cell BK101.out 0).trans rfl; have hcz14_1 : w12.cell? ⟨gb101, 1, none⟩ = some (.slice A0_1 l0_1.length c0_1) := (blk_cell BK101.out 1).trans rfl; have hfz14_0 := blk_frozen BK101.out 0; have hfz14_1 := blk_frozen BK101.out 1; have hcz15_0 : w12.cell? ⟨gb102, 0, none⟩ = some (.int .i64 a1_0) := (blk_cell BK102.out 0).trans rfl; have hcz15_1 : w12.cell? ⟨gb102, 1, none⟩ = some (.slice A1_1 l1_1.length c1_1) := (blk_cell BK102.out 1).trans rfl; have hfz15_0 := blk_frozen BK102.out 0; have hfz15_1 := blk_frozen BK102.out 1) | ((with_reducible refine gate_callee (f := 22) rfl ?_); refine goesL_ (some 14) rfl rfl Try.func22 (by kernel_rfl) rfl #[.slice A0_1 l0_1.length c0_1, .slice A1_1 l1_1.length c1_1] rfl (by (try simp only [List.map_toArray, List.map_cons, List.map_nil]); first | done | rfl | (simp only [List.length_drop, List.length_take]; rfl)) ?_; (with_reducible refine (laws_eqIntS.calls k _ _ l0_1 _ _ l1_1 false _ ?side1 ?side2 ?side3 ?side4 A4.out).mono ?_); (case side1 => repeat (first | exact (Kd.C_below HR0_1.out HB.out) | (with_reducible refine Kd.C_alloc ?_ _) | (with_reducible refine Kd.C_drewN ?_ _) | (with_reducible refine Kd.C_drew ?_))); (case side2 => exact HC0_1.out); (case side3 => repeat (first | exact (Kd.C_below HR1_1.out HB.out) | (with_reducible refine Kd.C_alloc ?_ _) | (with_reducible refine Kd.C_drewN ?_ _) | (with_reducible refine Kd.C_drew ?_))); (case side4 => exact HC1_1.out); rintro e w' ⟨rfl, ⟨nd, rfl⟩⟩; refine ⟨_, rfl, ?_⟩))
   go_ret
   exact ⟨by first | rfl | (simp [errW_none, errW_some] <;> rfl) | (simp [*, errW_none, errW_some] <;> rfl), by repeat (first | (with_reducible first | exact HB.out | apply below_alloc | apply pw_below_drewN | apply below_drew1 | refine below_set ?_ GE101.out | refine below_set ?_ GE102.out) | exact HB.out)⟩
 ·
  rw [if_neg c3] at H
  have c3b0 : (a0_0 == a1_0) = false := beq_eq_false_iff_ne.mpr c3
  have c3b1 : (a0_0 != a1_0) = true := bne_iff_ne.mpr c3
  obtain rfl := Option.some.inj H
  go_enter Try.func15, Try.ntmps15
  go_wp2_with (first | ((with_reducible refine gate_dst (N := 2) rfl ?_); refine box_event ?hg (N := 2) ?hd (cs := #[.int .i64 a0_0, .slice A0_1 l0_1.length c0_1]) (t := 28) ?hr ?_; (case hd => rfl); (case hg => rfl); (case hr => first | (go_simp; done) | (go_simp; rfl)); intro gb101 hg w16 hbox hb; have n0_ := asd (below_step (by repeat (first | (with_reducible first | exact HB.out | apply below_alloc | apply pw_below_drewN | apply below_drew1) | exact HB.out)) hb); have n1_ := asd (hbox); have n2_ := asd ((by rw [hg]; exact (below_size (by repeat (first | (with_reducible first | exact HB.out | apply below_alloc | apply pw_below_drewN | apply below_drew1) | exact HB.out))) : w.heap.size ≤ gb101)); have n3_ := asd ((by rw [hg]; exact (below_size (by repeat (first | (with_reducible first | exact HB.out | apply below_alloc | apply pw_below_drewN | apply below_drew1) | exact HB.out))) : w.heap.size ≤ gb101)); clear HB; have HB := n0_; have BK101 := n1_; have GW101 := n2_; have GE101 := n3_; clear n0_ n1_ n2_ n3_; clear hb hbox hg) | ((with_reducible refine gate_dst (N := 3) rfl ?_); refine box_event ?hg (N := 3) ?hd (cs := #[.int .i64 a1_0, .slice A1_1 l1_1.length c1_1]) (t := 28) ?hr ?_; (case hd => rfl); (case hg => rfl); (case hr => first | (go_simp; done) | (go_simp; rfl)); intro gb102 hg w17 hbox hb; have n0_ := asd (blk_below (upB BK101.out) hb); have n1_ := asd (below_step (by repeat (first | (with_reducible first | exact HB.out | apply below_alloc | apply pw_below_drewN | apply below_drew1 | refine below_set ?_ GE101.out) | exact HB.out)) hb); have n2_ := asd (hbox); have n3_ := asd ((by rw [hg]; exact (below_size (by repeat (first | (with_reducible first | exact HB.out | apply below_alloc | apply pw_below_drewN | apply below_drew1 | refine below_set ?_ GE101.out) | exact HB.out))) : w.heap.size ≤ gb102)); have n4_ := asd ((by rw [hg]; exact (below_size (by repeat (first | (with_reducible first | exact HB.out | apply below_alloc | apply pw_below_drewN | apply below_drew1 | refine below_set ?_ GE101.out) | exact HB.out))) : w.heap.size ≤ gb102)); have n5_ := asd ((by rw [hg]; exact Nat.ne_of_lt (blk_lt (upB BK101.out)) : gb101 ≠ gb102)); have n6_ := asd ((by rw [hg]; exact Nat.ne_of_gt (blk_lt (upB BK101.out)) : gb102 ≠ gb101)); clear BK101; clear HB; have BK101 := n0_; have HB := n1_; have BK102 := n2_; have GW102 := n3_; have GE102 := n4_; have NB101_102 := n5_; have NB102_101 := n6_; clear n0_ n1_ n2_ n3_ n4_ n5_ n6_; clear hb hbox hg; have hnb18 := NB101_102.out; have hnc18 := NB102_101.out; have hcz19_0 : w17.cell? ⟨gb101, 0, none⟩ = some (.int .i64 a0_0) := (blk_cell BK101.out 0).trans rfl; have hcz19_1 : w17.cell? ⟨gb101, 1, none⟩ = some (.slice A0_1 l0_1.length c0_1) := (blk_cell BK101.out 1).trans rfl; have hfz19_0 := blk_frozen BK101.out 0; have hfz19_1 := blk_frozen BK101.out 1; have hcz20_0 : w17.cell? ⟨gb102, 0, none⟩ = some (.int .i64 a1_0) := (blk_cell BK102.out 0).trans rfl; have hcz20_1 : w17.cell? ⟨gb102, 1, none⟩ = some (.slice A1_1 l1_1.length c1_1) := (blk_cell BK102.out 1).trans rfl; have hfz20_0 := blk_frozen BK102.out 0; have hfz20_1 := blk_frozen BK102.out 1))
  go_ret
  exact ⟨by first | rfl | (simp [errW_none, errW_some] <;> rfl) | (simp [*, errW_none, errW_some] <;> rfl), by repeat (first | (with_reducible first | exact HB.out | apply below_alloc | apply pw_below_drewN | apply below_drew1 | refine below_set ?_ GE101.out | refine below_set ?_ GE102.out) | exact HB.out)⟩

-- HAND with laws.eqSpace
theorem eqSpace_refl (n : Int) (l : List Int) (hlen : l.length < 9223372036854775807) : Ev (fun k => laws_eqSpace.f k n l n l) true := by
  refine Ev.to (fun k => by unfold laws_eqSpace.f; rw [if_pos rfl]) ?_
  exact Ev.bind (eqIntS_refl l hlen) (Ev.const rfl)

/-! ### laws_FnExactLeastTotal: function 3 -/
def laws_FnExactLeastTotal.j0 : Nat → Bool → Int → List Int → Int → List Int → Option (Bool)
 | 0, _, _, _, _, _ => none
 | k + 1, x34, x102000, x102001, x114000, x114001 => if x34 = true then (some false) else ((laws_toSpace.f k x102000 x102001).bind fun bt116 => ((laws_eqSpace.f k x114000 x114001 bt116.1 bt116.2).bind fun t120 => (if t120 = true then (some true) else (some false))))
def laws_FnExactLeastTotal.f (k : Nat) (a0_0 : Int) (l0_1 : List Int) : Option (Bool) := (laws_szSpace.f a0_0 l0_1 1048576).bind fun t102 => (if t102 < 0 then (some true) else ((laws_toSpace.f k a0_0 l0_1).bind fun bt103 => ((spec_LeastTotal.f k bt103.1 bt103.2).bind fun bt107 => ((laws_toSpace.f k a0_0 l0_1).bind fun bt109 => ((impl_LeastTotal.f bt109.1 bt109.2).bind fun bt114 => (if bt114.1 = bt107.1 then (laws_FnExactLeastTotal.j0 k (bt114.2 != bt107.2) a0_0 l0_1 bt109.1 bt109.2) else (laws_FnExactLeastTotal.j0 k true a0_0 l0_1 bt109.1 bt109.2)))))))
theorem laws_FnExactLeastTotal.mono_l : ∀ k, (∀ y0 y1 y2 y3 y4, LeO (laws_FnExactLeastTotal.j0 k y0 y1 y2 y3 y4) (laws_FnExactLeastTotal.j0 (k + 1) y0 y1 y2 y3 y4))
 | 0 => fun _ _ _ _ _ r h => by simp [laws_FnExactLeastTotal.j0] at h
 | k + 1 => by
  have ih0 := laws_FnExactLeastTotal.mono_l k
  ·
   intro y0 y1 y2 y3 y4
   unfold laws_FnExactLeastTotal.j0
   repeat' first
   | (with_reducible exact ih0 _ _ _ _ _)
   | (with_reducible exact laws_eqSpace.mono _ _ _ _ _)
   | (with_reducible exact laws_toSpace.mono _ _ _)
   | (with_reducible exact spec_LeastTotal.mono _ _ _)
   | (with_reducible exact LeO.refl _)
   | (with_reducible exact LeO.none _)
   | (with_reducible refine LeO.ite ?_ ?_)
   | (with_reducible refine LeO.bind ?_ (fun _ => ?_))
   | exact ih0 _ _ _ _ _
   | exact laws_eqSpace.mono _ _ _ _ _
   | exact laws_toSpace.mono _ _ _
   | exact spec_LeastTotal.mono _ _ _
   | exact LeO.none _
   | refine LeO.ite ?_ ?_
   | refine LeO.bind ?_ (fun _ => ?_)
theorem laws_FnExactLeastTotal.mono : ∀ a0 a1 k, LeO (laws_FnExactLeastTotal.f k a0 a1) (laws_FnExactLeastTotal.f (k + 1) a0 a1) := by
 intro a0 a1 k
 have ih0 := laws_FnExactLeastTotal.mono_l k
 unfold laws_FnExactLeastTotal.f
 repeat' first
   | (with_reducible exact ih0 _ _ _ _ _)
   | (with_reducible exact laws_eqSpace.mono _ _ _ _ _)
   | (with_reducible exact laws_toSpace.mono _ _ _)
   | (with_reducible exact spec_LeastTotal.mono _ _ _)
   | (with_reducible exact LeO.refl _)
   | (with_reducible exact LeO.none _)
   | (with_reducible refine LeO.ite ?_ ?_)
   | (with_reducible refine LeO.bind ?_ (fun _ => ?_))
   | exact ih0 _ _ _ _ _
   | exact laws_eqSpace.mono _ _ _ _ _
   | exact laws_toSpace.mono _ _ _
   | exact spec_LeastTotal.mono _ _ _
   | exact LeO.none _
   | refine LeO.ite ?_ ?_
   | refine LeO.bind ?_ (fun _ => ?_)
set_option maxHeartbeats 8000000 in
set_option maxRecDepth 100000 in
theorem laws_FnExactLeastTotal.calls (k : Nat) (a0_0 : Int) (A0_1 : Option Addr) (c0_1 : Nat) (l0_1 : List Int) (r : Bool) (w : World) (hr0_1 : Kd.C (Kd.int .i64) w A0_1 l0_1.length l0_1) (hc0_1 : l0_1.length ≤ c0_1) (h : laws_FnExactLeastTotal.f k a0_0 l0_1 = some r) (hT_ : Aside0 (r = true)) :
  Calls Try.prog 3 #[.agg #[.int .i64 a0_0, .slice A0_1 l0_1.length c0_1]] w fun e w' => e = .returned (.bool r) ∧ Below w.heap.size w w' := by
 have hu24 := Try.underlying24
 have hu28 := Try.underlying28
 have HR0_1 := asd hr0_1
 have HC0_1 := asd hc0_1
 clear hr0_1 hc0_1
 have HB := asd (Below.refl w.heap.size w)
 have H : ((laws_szSpace.f a0_0 l0_1 1048576).bind fun t102 => (if t102 < 0 then (some true) else ((laws_toSpace.f k a0_0 l0_1).bind fun bt103 => ((spec_LeastTotal.f k bt103.1 bt103.2).bind fun bt107 => ((laws_toSpace.f k a0_0 l0_1).bind fun bt109 => ((impl_LeastTotal.f bt109.1 bt109.2).bind fun bt114 => (if bt114.1 = bt107.1 then (laws_FnExactLeastTotal.j0 k (bt114.2 != bt107.2) a0_0 l0_1 bt109.1 bt109.2) else (laws_FnExactLeastTotal.j0 k true a0_0 l0_1 bt109.1 bt109.2)))))))) = some r := h
 clear h
 replace H := Option.bind_eq_some_iff.mp H
 obtain ⟨t102, A20, H⟩ := H
 replace H : (if t102 < 0 then (some true) else ((laws_toSpace.f k a0_0 l0_1).bind fun bt103 => ((spec_LeastTotal.f k bt103.1 bt103.2).bind fun bt107 => ((laws_toSpace.f k a0_0 l0_1).bind fun bt109 => ((impl_LeastTotal.f bt109.1 bt109.2).bind fun bt114 => (if bt114.1 = bt107.1 then (laws_FnExactLeastTotal.j0 k (bt114.2 != bt107.2) a0_0 l0_1 bt109.1 bt109.2) else (laws_FnExactLeastTotal.j0 k true a0_0 l0_1 bt109.1 bt109.2))))))) = some r := H
 have A2 := asd A20
 clear A20
 by_cases c3 : t102 < 0
 ·
  rw [if_pos c3] at H
  have c3b0 : decide (t102 < 0) = true := decide_eq_true c3
  clear c3
  obtain rfl := Option.some.inj H
  go_enter Try.func3, Try.ntmps3
  go_wp2_with (first | ((with_reducible refine gate_dst (N := 1) rfl ?_); refine box_event ?hg (N := 1) ?hd (cs := #[.int .i64 a0_0, .slice A0_1 l0_1.length c0_1]) (t := 24) ?hr ?_; (case hd => rfl); (case hg => rfl); (case hr => first | (go_simp; done) | (go_simp; rfl)); intro gb101 hg w4 hbox hb; have n0_ := asd (below_step (by repeat (first | (with_reducible first | exact HB.out | apply below_alloc | apply pw_below_drewN | apply below_drew1) | exact HB.out)) hb); have n1_ := asd (hbox); have n2_ := asd ((by rw [hg]; exact (below_size (by repeat (first | (with_reducible first | exact HB.out | apply below_alloc | apply pw_below_drewN | apply below_drew1) | exact HB.out))) : w.heap.size ≤ gb101)); have n3_ := asd ((by rw [hg]; exact (below_size (by repeat (first | (with_reducible first | exact HB.out | apply below_alloc | apply pw_below_drewN | apply below_drew1) | exact HB.out))) : w.heap.size ≤ gb101)); clear HB; have HB := n0_; have BK101 := n1_; have GW101 := n2_; have GE101 := n3_; clear n0_ n1_ n2_ n3_; clear hb hbox hg; have hcz5_0 : w4.cell? ⟨gb101, 0, none⟩ = some (.int .i64 a0_0) := (blk_cell BK101.out 0).trans rfl; have hcz5_1 : w4.cell? ⟨gb101, 1, none⟩ = some (.slice A0_1 l0_1.length c0_1) := (blk_cell BK101.out 1).trans rfl; have hfz5_0 := blk_frozen BK101.out 0; have hfz5_1 := blk_frozen BK101.out 1) | ((with_reducible refine gate_callee (f := 11) rfl ?_); refine goesL_ (some 11) rfl rfl Try.func11 (by kernel_rfl) rfl #[.agg #[.int .i64 a0_0, .slice A0_1 l0_1.length c0_1], .int .i64 1048576] rfl (by (try simp only [List.map_toArray, List.map_cons, List.map_nil]); first | done | rfl | (simp only [List.length_drop, List.length_take]; rfl)) ?_; (with_reducible refine (laws_szSpace.calls a0_0 _ _ l0_1 1048576 t102 _ ?side1 ?side2 A2.out).mono ?_); (case side1 => repeat (first | exact (Kd.C_below HR0_1.out HB.out) | (with_reducible refine Kd.C_alloc ?_ _) | (with_reducible refine Kd.C_drewN ?_ _) | (with_reducible refine Kd.C_drew ?_))); (case side2 => exact HC0_1.out); rintro e w6 ⟨rfl, hb⟩; refine ⟨_, rfl, ?_⟩; have n0_ := asd (blk_below (upB BK101.out) hb); have n1_ := asd (below_step (by repeat (first | (with_reducible first | exact HB.out | apply below_alloc | apply pw_below_drewN | apply below_drew1 | refine below_set ?_ GE101.out) | exact HB.out)) hb); clear BK101; clear HB; have BK101 := n0_; have HB := n1_; clear n0_ n1_; (try clear hb); (try clear hb2); (try clear hk); (try clear hi)))
  go_ret
  exact ⟨by first | rfl | (simp [errW_none, errW_some] <;> rfl) | (simp [*, errW_none, errW_some] <;> rfl), by repeat (first | (with_reducible first | exact HB.out | apply below_alloc | apply pw_below_drewN | apply below_drew1 | refine below_set ?_ GE101.out) | exact HB.out)⟩
 ·
  rw [if_neg c3] at H
  have c3b0 : decide (t102 < 0) = false := decide_eq_false c3
  clear c3
  replace H := Option.bind_eq_some_iff.mp H
  obtain ⟨⟨t103, t104⟩, A70, H⟩ := H
  replace H : ((spec_LeastTotal.f k t103 t104).bind fun bt107 => ((laws_toSpace.f k a0_0 l0_1).bind fun bt109 => ((impl_LeastTotal.f bt109.1 bt109.2).bind fun bt114 => (if bt114.1 = bt107.1 then (laws_FnExactLeastTotal.j0 k (bt114.2 != bt107.2) a0_0 l0_1 bt109.1 bt109.2) else (laws_FnExactLeastTotal.j0 k true a0_0 l0_1 bt109.1 bt109.2))))) = some r := H
  have A7 := asd A70
  clear A70
  replace H := Option.bind_eq_some_iff.mp H
  obtain ⟨⟨t107, t108⟩, A80, H⟩ := H
  replace H : ((laws_toSpace.f k a0_0 l0_1).bind fun bt109 => ((impl_LeastTotal.f bt109.1 bt109.2).bind fun bt114 => (if bt114.1 = t107 then (laws_FnExactLeastTotal.j0 k (bt114.2 != t108) a0_0 l0_1 bt109.1 bt109.2) else (laws_FnExactLeastTotal.j0 k true a0_0 l0_1 bt109.1 bt109.2)))) = some r := H
  have A8 := asd A80
  clear A80
  replace H := Option.bind_eq_some_iff.mp H
  obtain ⟨⟨t109, t110⟩, A90, H⟩ := H
  replace H : ((impl_LeastTotal.f t109 t110).bind fun bt114 => (if bt114.1 = t107 then (laws_FnExactLeastTotal.j0 k (bt114.2 != t108) a0_0 l0_1 t109 t110) else (laws_FnExactLeastTotal.j0 k true a0_0 l0_1 t109 t110))) = some r := H
  have A9 := asd A90
  clear A90
  replace H := Option.bind_eq_some_iff.mp H
  obtain ⟨⟨t114, t115⟩, A100, H⟩ := H
  replace H : (if t114 = t107 then (laws_FnExactLeastTotal.j0 k (t115 != t108) a0_0 l0_1 t109 t110) else (laws_FnExactLeastTotal.j0 k true a0_0 l0_1 t109 t110)) = some r := H
  have A10 := asd A100
  clear A100
  have HC11 := asd H
  clear H
  go_enter Try.func3, Try.ntmps3
  go_upto_region 8 with (first | ((with_reducible refine gate_dst (N := 1) rfl ?_); refine box_event ?hg (N := 1) ?hd (cs := #[.int .i64 a0_0, .slice A0_1 l0_1.length c0_1]) (t := 24) ?hr ?_; (case hd => rfl); (case hg => rfl); (case hr => first | (go_simp; done) | (go_simp; rfl)); intro gb101 hg w12 hbox hb; have n0_ := asd (below_step (by repeat (first | (with_reducible first | exact HB.out | apply below_alloc | apply pw_below_drewN | apply below_drew1) | exact HB.out)) hb); have n1_ := asd (hbox); have n2_ := asd ((by rw [hg]; exact (below_size (by repeat (first | (with_reducible first | exact HB.out | apply below_alloc | apply pw_below_drewN | apply below_drew1) | exact HB.out))) : w.heap.size ≤ gb101)); have n3_ := asd ((by rw [hg]; exact (below_size (by repeat (first | (with_reducible first | exact HB.out | apply below_alloc | apply pw_below_drewN | apply below_drew1) | exact HB.out))) : w.heap.size ≤ gb101)); clear HB; have HB := n0_; have BK101 := n1_; have GW101 := n2_; have GE101 := n3_; clear n0_ n1_ n2_ n3_; clear hb hbox hg; have hcz13_0 : w12.cell? ⟨gb101, 0, none⟩ = some (.int .i64 a0_0) := (blk_cell BK101.out 0).trans rfl; have hcz13_1 : w12.cell? ⟨gb101, 1, none⟩ = some (.slice A0_1 l0_1.length c0_1) := (blk_cell BK101.out 1).trans rfl; have hfz13_0 := blk_frozen BK101.out 0; have hfz13_1 := blk_frozen BK101.out 1) | ((with_reducible refine gate_callee (f := 11) rfl ?_); refine goesL_ (some 11) rfl rfl Try.func11 (by kernel_rfl) rfl #[.agg #[.int .i64 a0_0, .slice A0_1 l0_1.length c0_1], .int .i64 1048576] rfl (by (try simp only [List.map_toArray, List.map_cons, List.map_nil]); first | done | rfl | (simp only [List.length_drop, List.length_take]; rfl)) ?_; (with_reducible refine (laws_szSpace.calls a0_0 _ _ l0_1 1048576 t102 _ ?side1 ?side2 A2.out).mono ?_); (case side1 => repeat (first | exact (Kd.C_below HR0_1.out HB.out) | (with_reducible refine Kd.C_alloc ?_ _) | (with_reducible refine Kd.C_drewN ?_ _) | (with_reducible refine Kd.C_drew ?_))); (case side2 => exact HC0_1.out); rintro e w14 ⟨rfl, hb⟩; refine ⟨_, rfl, ?_⟩; have n0_ := asd (blk_below (upB BK101.out) hb); have n1_ := asd (below_step (by repeat (first | (with_reducible first | exact HB.out | apply below_alloc | apply pw_below_drewN | apply below_drew1 | refine below_set ?_ GE101.out) | exact HB.out)) hb); clear BK101; clear HB; have BK101 := n0_; have HB := n1_; clear n0_ n1_; (try clear hb); (try clear hb2); (try clear hk); (try clear hi); have hcz15_0 : w14.cell? ⟨gb101, 0, none⟩ = some (.int .i64 a0_0) := (blk_cell BK101.out 0).trans rfl; have hcz15_1 : w14.cell? ⟨gb101, 1, none⟩ = some (.slice A0_1 l0_1.length c0_1) := (blk_cell BK101.out 1).trans rfl; have hfz15_0 := blk_frozen BK101.out 0; have hfz15_1 := blk_frozen BK101.out 1) | ((with_reducible refine gate_callee (f := 13) rfl ?_); refine goesL_ (some 16) rfl rfl Try.func13 (by kernel_rfl) rfl #[.agg #[.int .i64 a0_0, .slice A0_1 l0_1.length c0_1]] rfl (by (try simp only [List.map_toArray, List.map_cons, List.map_nil]); first | done | rfl | (simp only [List.length_drop, List.length_take]; rfl)) ?_; (with_reducible refine (laws_toSpace.calls k a0_0 _ _ l0_1 t103 t104 _ ?side1 ?side2 A7.out).mono ?_); (case side1 => repeat (first | exact (Kd.C_below HR0_1.out HB.out) | (with_reducible refine Kd.C_alloc ?_ _) | (with_reducible refine Kd.C_drewN ?_ _) | (with_reducible refine Kd.C_drew ?_))); (case side2 => exact HC0_1.out); rintro e w16 ⟨v105, rfl, ho0, hb⟩; refine ⟨_, rfl, ?_⟩; have n0_ := asd (Kd.R_lower ho0 (below_size (by repeat (first | (with_reducible first | exact HB.out | apply below_alloc | apply pw_below_drewN | apply below_drew1 | refine below_set ?_ GE101.out) | exact HB.out)))); have n1_ := asd (blk_below (upB BK101.out) hb); have n2_ := asd (below_step (by repeat (first | (with_reducible first | exact HB.out | apply below_alloc | apply pw_below_drewN | apply below_drew1 | refine below_set ?_ GE101.out) | exact HB.out)) hb); clear BK101; clear HB; have HO106 := n0_; have BK101 := n1_; have HB := n2_; clear n0_ n1_ n2_; (try clear hb); (try clear hb2); (try clear hk); (try clear hi); (try clear ho0); obtain ⟨Ao17, co17, eo17⟩ := Kd.R_slice HO106.out; subst eo17) | ((with_reducible refine gate_callee (f := 12) rfl ?_); refine goesL_ (some 17) rfl rfl Try.func12 (by kernel_rfl) rfl #[.agg #[.int .i64 t103, .slice Ao17 t104.length co17]] rfl (by (try simp only [List.map_toArray, List.map_cons, List.map_nil]); first | done | rfl | (simp only [List.length_drop, List.length_take]; rfl)) ?_; (with_reducible refine (spec_LeastTotal.calls k t103 _ _ t104 t107 t108 _ ?side1 ?side2 A8.out).mono ?_); (case side1 => repeat (first | exact (Kd.R_reads' HO106.out).2.2 | (with_reducible refine Kd.C_alloc ?_ _) | (with_reducible refine Kd.C_drewN ?_ _) | (with_reducible refine Kd.C_drew ?_))); (case side2 => exact (Kd.R_reads' HO106.out).2.1); rintro e w18 ⟨rfl, hb⟩; refine ⟨_, rfl, ?_⟩; have n0_ := asd (Kd.R_below (upR <| HO106.out) hb); have n1_ := asd (blk_below (upB BK101.out) hb); have n2_ := asd (below_step (by repeat (first | (with_reducible first | exact HB.out | apply below_alloc | apply pw_below_drewN | apply below_drew1 | refine below_set ?_ GE101.out) | exact HB.out)) hb); clear HO106; clear BK101; clear HB; have HO106 := n0_; have BK101 := n1_; have HB := n2_; clear n0_ n1_ n2_; (try clear hb); (try clear hb2); (try clear hk); (try clear hi); have hcz19_0 : w18.cell? ⟨gb101, 0, none⟩ = some (.int .i64 a0_0) := (blk_cell BK101.out 0).trans rfl; have hcz19_1 : w18.cell? ⟨gb101, 1, none⟩ = some (.slice A0_1 l0_1.length c0_1) := (blk_cell BK101.out 1).trans rfl; have hfz19_0 := blk_frozen BK101.out 0; have hfz19_1 := blk_frozen BK101.out 1) | ((with_reducible refine gate_callee (f := 13) rfl ?_); refine goesL_ (some 21) rfl rfl Try.func13 (by kernel_rfl) rfl #[.agg #[.int .i64 a0_0, .slice A0_1 l0_1.length c0_1]] rfl (by (try simp only [List.map_toArray, List.map_cons, List.map_nil]); first | done | rfl | (simp only [List.length_drop, List.length_take]; rfl)) ?_; (with_reducible refine (laws_toSpace.calls k a0_0 _ _ l0_1 t109 t110 _ ?side1 ?side2 A9.out).mono ?_); (case side1 => repeat (first | exact (Kd.C_below HR0_1.out HB.out) | (with_reducible refine Kd.C_alloc ?_ _) | (with_reducible refine Kd.C_drewN ?_ _) | (with_reducible refine Kd.C_drew ?_))); (case side2 => exact HC0_1.out); rintro e w20 ⟨v111, rfl, ho0, hb⟩; refine ⟨_, rfl, ?_⟩; have n0_ := asd (Kd.R_elder' (upR <| HO106.out) (Kd.R_base ho0) hb); have n1_ := asd (Kd.R_lower (Kd.R_new' ho0 (Kd.R_lt (upR <| HO106.out))) (below_size (by repeat (first | (with_reducible first | exact HB.out | apply below_alloc | apply pw_below_drewN | apply below_drew1 | refine below_set ?_ GE101.out) | exact HB.out)))); have n2_ := asd (blk_below (upB BK101.out) hb); have n3_ := asd (below_step (by repeat (first | (with_reducible first | exact HB.out | apply below_alloc | apply pw_below_drewN | apply below_drew1 | refine below_set ?_ GE101.out) | exact HB.out)) hb); clear HO106; clear BK101; clear HB; have HO106 := n0_; have HO112 := n1_; have BK101 := n2_; have HB := n3_; clear n0_ n1_ n2_ n3_; (try clear hb); (try clear hb2); (try clear hk); (try clear hi); (try clear ho0)) | ((with_reducible refine gate_dst (N := 6) rfl ?_); refine box_event ?hg (N := 6) ?hd (cs := #[.int .i64 0, .slice none 0 0]) (t := 28) ?hr ?_; (case hd => rfl); (case hg => rfl); (case hr => first | (go_simp; done) | (go_simp; rfl)); intro gb113 hg w21 hbox hb; have n0_ := asd (Kd.R_below (upR <| HO106.out) hb); have n1_ := asd (Kd.R_below (upR <| HO112.out) hb); have n2_ := asd (blk_below (upB BK101.out) hb); have n3_ := asd (below_step (by repeat (first | (with_reducible first | exact HB.out | apply below_alloc | apply pw_below_drewN | apply below_drew1 | refine below_set ?_ GE101.out) | exact HB.out)) hb); have n4_ := asd (hbox); have n5_ := asd ((by rw [hg]; exact (below_size (by repeat (first | (with_reducible first | exact HB.out | apply below_alloc | apply pw_below_drewN | apply below_drew1 | refine below_set ?_ GE101.out) | exact HB.out))) : w.heap.size ≤ gb113)); have n6_ := asd ((by rw [hg]; exact (below_size (by repeat (first | (with_reducible first | exact HB.out | apply below_alloc | apply pw_below_drewN | apply below_drew1 | refine below_set ?_ GE101.out) | exact HB.out))) : w.heap.size ≤ gb113)); have n7_ := asd ((by rw [hg]; exact Nat.ne_of_lt (blk_lt (upB BK101.out)) : gb101 ≠ gb113)); have n8_ := asd ((by rw [hg]; exact Nat.ne_of_gt (blk_lt (upB BK101.out)) : gb113 ≠ gb101)); clear HO106; clear HO112; clear BK101; clear HB; have HO106 := n0_; have HO112 := n1_; have BK101 := n2_; have HB := n3_; have BK113 := n4_; have GW113 := n5_; have GE113 := n6_; have NB101_113 := n7_; have NB113_101 := n8_; clear n0_ n1_ n2_ n3_ n4_ n5_ n6_ n7_ n8_; clear hb hbox hg; have hnb22 := NB113_101.out; have hnc22 := NB101_113.out; have hcz23_0 : w21.cell? ⟨gb113, 0, none⟩ = some (.int .i64 0) := (blk_cell BK113.out 0).trans rfl; have hcz23_1 : w21.cell? ⟨gb113, 1, none⟩ = some (.slice none 0 0) := (blk_cell BK113.out 1).trans rfl; have hfz23_0 := blk_frozen BK113.out 0; have hfz23_1 := blk_frozen BK113.out 1; obtain ⟨Ao24, co24, eo24⟩ := Kd.R_slice HO112.out; subst eo24) | ((with_reducible refine gate_callee (f := 14) rfl ?_); refine goesL_ (some 24) rfl rfl Try.func14 (by kernel_rfl) rfl #[.agg #[.int .i64 t109, .slice Ao24 t110.length co24]] rfl (by (try simp only [List.map_toArray, List.map_cons, List.map_nil]); first | done | rfl | (simp only [List.length_drop, List.length_take]; rfl)) ?_; (with_reducible refine (impl_LeastTotal.calls t109 _ _ t110 t114 t115 _ ?side1 ?side2 A10.out).mono ?_); (case side1 => refine (Kd.R_reads' (e := 3) (base := w.heap.size) (ok := fun k_ => (True ∧ some k_ ≠ (.slice Ao17 t104.length co17 : Value).ownBlock)) (n := t110.length) (c := co24) ?_).2.2; exact (upR <| (Kd.R_mono (Kd.R_far (p := ⟨gb113, 1, none⟩) (Kd.R_far (p := ⟨gb113, 0, none⟩) (Kd.R_types HO112.out BK113.out (by decide)) (fun _ hk => hk.2) (.int .i64 t109)) (fun _ hk => hk.2) (.slice Ao24 t110.length co24)) (fun _ h_ => h_.1)))); (case side2 => exact (Kd.R_reads' HO112.out).2.1); rintro e w25 ⟨rfl, hb⟩; refine ⟨_, rfl, ?_⟩; have n0_ := asd (Kd.R_below (upR <| (Kd.R_mono (Kd.R_far (p := ⟨gb113, 1, none⟩) (Kd.R_far (p := ⟨gb113, 0, none⟩) (Kd.R_types HO106.out BK113.out (by decide)) (fun _ hk => hk.2) (.int .i64 t109)) (fun _ hk => hk.2) (.slice Ao24 t110.length co24)) (fun _ h_ => h_.1))) hb); have n1_ := asd (Kd.R_below (upR <| (Kd.R_mono (Kd.R_far (p := ⟨gb113, 1, none⟩) (Kd.R_far (p := ⟨gb113, 0, none⟩) (Kd.R_types HO112.out BK113.out (by decide)) (fun _ hk => hk.2) (.int .i64 t109)) (fun _ hk => hk.2) (.slice Ao24 t110.length co24)) (fun _ h_ => h_.1))) hb); have n2_ := asd (blk_below (g := gb101) (o := .cells #[.int .i64 a0_0, .slice A0_1 l0_1.length c0_1] 24 (0, 0)) (by (with_reducible repeat (first | refine blk_drewN ?_ _ | refine blk_drew ?_ | refine blk_alloc ?_ _)); refine blk_far ?_ NB101_113.out _; (with_reducible repeat (first | refine blk_drewN ?_ _ | refine blk_drew ?_ | refine blk_alloc ?_ _)); refine blk_far ?_ NB101_113.out _; (with_reducible repeat (first | refine blk_drewN ?_ _ | refine blk_drew ?_ | refine blk_alloc ?_ _)); exact BK101.out) hb); have n3_ := asd (blk_below (g := gb113) (o := .cells #[.int .i64 t109, .slice Ao24 t110.length co24] 28 (0, 0)) (by (with_reducible repeat (first | refine blk_drewN ?_ _ | refine blk_drew ?_ | refine blk_alloc ?_ _)); refine blk_put (cs := #[.int .i64 t109, .slice none 0 0]) ?_ 1 _ rfl; (with_reducible repeat (first | refine blk_drewN ?_ _ | refine blk_drew ?_ | refine blk_alloc ?_ _)); refine blk_put (cs := #[.int .i64 0, .slice none 0 0]) ?_ 0 _ rfl; (with_reducible repeat (first | refine blk_drewN ?_ _ | refine blk_drew ?_ | refine blk_alloc ?_ _)); exact BK113.out) hb); have n4_ := asd (below_step (by repeat (first | (with_reducible first | exact HB.out | apply below_alloc | apply pw_below_drewN | apply below_drew1 | refine below_set ?_ GE101.out | refine below_set ?_ GE113.out) | exact HB.out)) hb); clear HO106; clear HO112; clear BK101; clear BK113; clear HB; have HO106 := n0_; have HO112 := n1_; have BK101 := n2_; have BK113 := n3_; have HB := n4_; clear n0_ n1_ n2_ n3_ n4_; (try clear hb); (try clear hb2); (try clear hk); (try clear hi)))
  (try simp only [Act.put, List.setIfInBounds_toArray, List.set_cons_zero, List.set_cons_succ])
  go_cut [34] (fun v34 wc => ∃ (kq : Nat) (x34_10 : Bool), v34 = .bool x34_10 ∧ Aside0 (laws_FnExactLeastTotal.j0 kq x34_10 a0_0 l0_1 t109 t110 = some r) ∧ Aside0 (kq ≤ k) ∧ Aside0 (Kd.R (Kd.int .i64) 3 wc w.heap.size (fun _ => True) (.slice Ao24 t110.length co24) t110) ∧ Aside0 (wc.heap[gb101]? = some (.cells #[.int .i64 a0_0, (.slice A0_1 l0_1.length c0_1)] 24 (0, 0))) ∧ Aside0 (wc.heap[gb113]? = some (.cells #[.int .i64 t109, (.slice Ao24 t110.length co24)] 28 (0, 0))) ∧ Aside0 (Below w.heap.size w wc))
  case first =>
   have H := HC11.out
   clear HC11
   by_cases c26 : t114 = t107
   ·
    rw [if_pos c26] at H
    have c26b0 : (t114 == t107) = true := beq_iff_eq.mpr c26
    have c26b1 : (t114 != t107) = false := bne_eq_false_iff_eq.mpr c26
    clear c26
    (first | rw [c26b0] | (simp only [i64_w, i32_w]; rw [c26b0]) | skip)
    have H' := asd H
    clear H
    go_wp2
    go_meet
    case rel => exact ⟨_, ((t115 != t108)), (by first | rfl | (simp; done) | (simp [*]; done)), H', ⟨by first | omega | exact Nat.le_refl _⟩, ⟨by (with_reducible repeat (first | apply Kd.R_alloc | apply Kd.R_drewN | apply Kd.R_drew)); exact Kd.R_mono HO112.out (fun _ hk => trivial)⟩, ⟨by (with_reducible repeat (first | refine blk_drewN ?_ _ | refine blk_drew ?_ | refine blk_alloc ?_ _)); exact BK101.out⟩, ⟨by (with_reducible repeat (first | refine blk_drewN ?_ _ | refine blk_drew ?_ | refine blk_alloc ?_ _)); exact BK113.out⟩, ⟨by repeat (first | (with_reducible first | exact HB.out | apply below_alloc | apply pw_below_drewN | apply below_drew1 | refine below_set ?_ GE101.out | refine below_set ?_ GE113.out) | exact HB.out)⟩⟩
   ·
    rw [if_neg c26] at H
    have c26b0 : (t114 == t107) = false := beq_eq_false_iff_ne.mpr c26
    have c26b1 : (t114 != t107) = true := bne_iff_ne.mpr c26
    (first | rw [c26b0] | (simp only [i64_w, i32_w]; rw [c26b0]) | skip)
    rcases k with _ | kk_
    ·
     exact absurd H (by simp [laws_FnExactLeastTotal.j0])
    ·
     simp only [laws_FnExactLeastTotal.j0] at H
     rw [if_pos trivial] at H
     exact absurd ((Option.some.inj H).trans hT_.out) (by decide)
  case rest =>
   clear HC11
   try clear c1
   try clear c2
   try clear p2
   try clear c3
   try clear c3b0
   try clear c11
   try clear c12
   try clear c13
   try clear c14
   try clear c22
   try clear c26
   try clear c26b0
   try clear c26b1
   try clear hcz13_0
   try clear hcz13_1
   try clear hcz15_0
   try clear hcz15_1
   try clear hcz19_0
   try clear hcz19_1
   try clear hcz23_0
   try clear hcz23_1
   try clear hcz5_0
   try clear hcz5_1
   try clear hfz13_0
   try clear hfz13_1
   try clear hfz15_0
   try clear hfz15_1
   try clear hfz19_0
   try clear hfz19_1
   try clear hfz23_0
   try clear hfz23_1
   try clear hfz5_0
   try clear hfz5_1
   obtain ⟨kq, x34_10, rfl, HA, HJ10, HO_114001, BK101, BK113, HB⟩ := hcut
   cases kq with
   | zero => exact absurd HA.out (by simp [laws_FnExactLeastTotal.j0])
   | succ kj10 =>
    have H := HA.out
    clear HA
    simp only [laws_FnExactLeastTotal.j0] at H
    by_cases c27 : x34_10 = true
    ·
     subst c27
     have H1 : (some false) = some r := by rw [if_pos rfl] at H; exact H
     clear H
     have H := H1
     clear H1
     exact absurd ((Option.some.inj H).trans hT_.out) (by decide)
    ·
     replace c27 := Bool.eq_false_iff.mpr c27
     subst c27
     have H1 : ((laws_toSpace.f kj10 a0_0 l0_1).bind fun bt116 => ((laws_eqSpace.f kj10 t109 t110 bt116.1 bt116.2).bind fun t120 => (if t120 = true then (some true) else (some false)))) = some r := by rw [if_neg (show ¬ (false = true) by decide)] at H; exact H
     clear H
     have H := H1
     clear H1
     replace H := Option.bind_eq_some_iff.mp H
     obtain ⟨⟨t116, t117⟩, A280, H⟩ := H
     replace H : ((laws_eqSpace.f kj10 t109 t110 t116 t117).bind fun t120 => (if t120 = true then (some true) else (some false))) = some r := H
     have A28 := asd A280
     clear A280
     replace H := Option.bind_eq_some_iff.mp H
     obtain ⟨t120, A290, H⟩ := H
     replace H : (if t120 = true then (some true) else (some false)) = some r := H
     have A29 := asd A290
     clear A290
     by_cases c30 : t120 = true
     ·
      subst c30
      have H1 : (some true) = some r := by rw [if_pos rfl] at H; exact H
      clear H
      have H := H1
      clear H1
      obtain rfl := Option.some.inj H
      try go_wp2
      have n0_ := asd (Kd.R_drew HO_114001.out)
      have n1_ := asd (blk_drew BK101.out)
      have n2_ := asd (blk_drew BK113.out)
      have n3_ := asd (below_drew1 HB.out)
      clear HO_114001
      clear BK101
      clear BK113
      clear HB
      have HO_114001 := n0_
      have BK101 := n1_
      have BK113 := n2_
      have HB := n3_
      clear n0_ n1_ n2_ n3_
      refine start_ (n := 5) (S := fun w' => w'.cell? ⟨gb113, 0, none⟩ = some (.int .i64 t109) ∧ w'.cell? ⟨gb113, 1, none⟩ = some (.slice Ao24 t110.length co24) ∧ w'.cell? ⟨gb101, 0, none⟩ = some (.int .i64 a0_0) ∧ w'.cell? ⟨gb101, 1, none⟩ = some (.slice A0_1 l0_1.length c0_1)) (ds := []) #[false, false, false, false, false] (by kernel_rfl) rfl rfl ⟨(blk_cell BK113.out 0).trans rfl, (blk_cell BK113.out 1).trans rfl, (blk_cell BK101.out 0).trans rfl, (blk_cell BK101.out 1).trans rfl⟩ (fun hHeld => ?_)
      generalize wc.drew = w31 at HO_114001 BK101 BK113 HB hHeld ⊢
      refine take_ (i := 0) (N := some 35) (v := ?_) (a' := ?_) #[true, false, false, false, false] rfl rfl (by kernel_rfl) (fun _ _ _ h => h) (Or.inl ⟨by rfl, ?_⟩) hHeld ?_ ?_
      rotate_left
      ·
       rintro w' ⟨s0, s1, s2, s3⟩
       go_simp
       with_reducible rfl
      rotate_left
      ·
       simp only [Act.put, List.setIfInBounds_toArray, List.set_cons_zero, List.set_cons_succ, i64_w, i32_w]
       rfl
      refine take_ (i := 1) (N := some 36) (v := ?_) (a' := ?_) #[true, true, false, false, false] rfl rfl (by kernel_rfl) (fun _ _ _ h => h) (Or.inl ⟨by rfl, ?_⟩) hHeld ?_ ?_
      rotate_left
      ·
       rintro w' ⟨s0, s1, s2, s3⟩
       go_simp
       with_reducible rfl
      rotate_left
      ·
       simp only [Act.put, List.setIfInBounds_toArray, List.set_cons_zero, List.set_cons_succ, i64_w, i32_w]
       rfl
      refine one_ (i := 2) (N := some 37) #[true, true, true, false, false] rfl rfl (by kernel_rfl) (by decide) (fun K hK => ?_)
      refine goes_ Try.func13 (by kernel_rfl) rfl #[.agg #[.int .i64 a0_0, .slice A0_1 l0_1.length c0_1]] (by rfl) rfl rfl (by (try simp only [List.map_toArray, List.map_cons, List.map_nil]); first | done | rfl | (simp only [List.length_drop, List.length_take]; rfl)) ?_
      with_reducible refine (laws_toSpace.calls kj10 a0_0 _ _ l0_1 t116 t117 _ ?side1 ?side2 A28.out).mono ?_
      (case side1 => repeat (first | exact (Kd.C_below HR0_1.out HB.out) | (with_reducible refine Kd.C_alloc ?_ _) | (with_reducible refine Kd.C_drewN ?_ _) | (with_reducible refine Kd.C_drew ?_)))
      (case side2 => exact HC0_1.out)
      rintro e w32 ⟨v118, rfl, ho0, hb⟩
      refine ⟨_, rfl, ?_⟩
      have n0_ := asd (Kd.R_elder' (upR <| HO_114001.out) (Kd.R_base ho0) hb)
      have n1_ := asd (Kd.R_lower (Kd.R_new' ho0 (Kd.R_lt (upR <| HO_114001.out))) (below_size (by repeat (first | (with_reducible first | exact HB.out | apply below_alloc | apply pw_below_drewN | apply below_drew1 | refine below_set ?_ GE101.out | refine below_set ?_ GE113.out) | exact HB.out))))
      have n2_ := asd (blk_below (upB BK101.out) hb)
      have n3_ := asd (blk_below (upB BK113.out) hb)
      have n4_ := asd (below_step (by repeat (first | (with_reducible first | exact HB.out | apply below_alloc | apply pw_below_drewN | apply below_drew1 | refine below_set ?_ GE101.out | refine below_set ?_ GE113.out) | exact HB.out)) hb)
      clear HO_114001
      clear BK101
      clear BK113
      clear HB
      have HO_114001 := n0_
      have HO119 := n1_
      have BK101 := n2_
      have BK113 := n3_
      have HB := n4_
      clear n0_ n1_ n2_ n3_ n4_
      (try clear hb)
      (try clear hb2)
      (try clear hk)
      (try clear hi)
      (try clear ho0)
      obtain ⟨Ao33, co33, eo33⟩ := Kd.R_slice HO119.out
      (first | subst eo33 | (injection eo33 with f1_ f2_ f3_; have f4_ := f1_.symm; have f5_ := f3_.symm; clear f1_ f2_ f3_; subst f4_; subst f5_))
      refine hK.out _ _ ⟨(blk_cell BK113.out 0).trans rfl, (blk_cell BK113.out 1).trans rfl, (blk_cell BK101.out 0).trans rfl, (blk_cell BK101.out 1).trans rfl⟩ (fun hHeld => ?_)
      clear hK K
      refine norm_ (a' := ?_) ?_ ?_
      rotate_left
      ·
       show Act.put _ (some 37) _ = _
       simp only [Act.put, List.setIfInBounds_toArray, List.set_cons_zero, List.set_cons_succ, i64_w, i32_w]
       rfl
      refine one_ (i := 3) (N := some 38) #[true, true, true, true, false] rfl rfl (by kernel_rfl) (by decide) (fun K hK => ?_)
      refine goes_ Try.func15 (by kernel_rfl) rfl #[.agg #[.int .i64 t109, .slice Ao24 t110.length co24], .agg #[.int .i64 t116, .slice Ao33 t117.length co33]] (by rfl) rfl rfl (by (try simp only [List.map_toArray, List.map_cons, List.map_nil]); first | done | rfl | (simp only [List.length_drop, List.length_take]; rfl)) ?_
      with_reducible refine (laws_eqSpace.calls kj10 t109 _ _ t110 t116 _ _ t117 true _ ?side1 ?side2 ?side3 ?side4 A29.out).mono ?_
      (case side1 => repeat (first | exact (Kd.R_reads' HO_114001.out).2.2 | (with_reducible refine Kd.C_alloc ?_ _) | (with_reducible refine Kd.C_drewN ?_ _) | (with_reducible refine Kd.C_drew ?_)))
      (case side2 => exact (Kd.R_reads' HO_114001.out).2.1)
      (case side3 => repeat (first | exact (Kd.R_reads' HO119.out).2.2 | (with_reducible refine Kd.C_alloc ?_ _) | (with_reducible refine Kd.C_drewN ?_ _) | (with_reducible refine Kd.C_drew ?_)))
      (case side4 => exact (Kd.R_reads' HO119.out).2.1)
      rintro e w34 ⟨rfl, hb⟩
      refine ⟨_, rfl, ?_⟩
      have n0_ := asd (Kd.R_below (upR <| HO_114001.out) hb)
      have n1_ := asd (Kd.R_below (upR <| HO119.out) hb)
      have n2_ := asd (blk_below (upB BK101.out) hb)
      have n3_ := asd (blk_below (upB BK113.out) hb)
      have n4_ := asd (below_step (by repeat (first | (with_reducible first | exact HB.out | apply below_alloc | apply pw_below_drewN | apply below_drew1 | refine below_set ?_ GE101.out | refine below_set ?_ GE113.out) | exact HB.out)) hb)
      clear HO_114001
      clear HO119
      clear BK101
      clear BK113
      clear HB
      have HO_114001 := n0_
      have HO119 := n1_
      have BK101 := n2_
      have BK113 := n3_
      have HB := n4_
      clear n0_ n1_ n2_ n3_ n4_
      (try clear hb)
      (try clear hb2)
      (try clear hk)
      (try clear hi)
      refine hK.out _ _ ⟨(blk_cell BK113.out 0).trans rfl, (blk_cell BK113.out 1).trans rfl, (blk_cell BK101.out 0).trans rfl, (blk_cell BK101.out 1).trans rfl⟩ (fun hHeld => ?_)
      clear hK K
      refine norm_ (a' := ?_) ?_ ?_
      rotate_left
      ·
       show Act.put _ (some 38) _ = _
       simp only [Act.put, List.setIfInBounds_toArray, List.set_cons_zero, List.set_cons_succ, i64_w, i32_w]
       rfl
      refine pure_ (i := 4) (N := some 39) (v := ?_) (a' := ?_) #[true, true, true, true, true] rfl rfl (by kernel_rfl) (fun _ _ _ h => h) (Or.inl ⟨by rfl, ?_⟩) ?_ ?_
      rotate_left
      ·
       intro w'
       go_simp
       with_reducible rfl
      rotate_left
      ·
       simp only [Act.put, List.setIfInBounds_toArray, List.set_cons_zero, List.set_cons_succ, i64_w, i32_w]
       rfl
      refine done_ (by kernel_rfl) ?_
      try go_wp2
      go_ret
      exact ⟨by first | rfl | (simp [errW_none, errW_some] <;> rfl) | (simp [*, errW_none, errW_some] <;> rfl), by repeat (first | (with_reducible first | exact HB.out | apply below_alloc | apply pw_below_drewN | apply below_drew1 | refine below_set ?_ GE101.out | refine below_set ?_ GE113.out) | exact HB.out)⟩
     ·
      replace c30 := Bool.eq_false_iff.mpr c30
      subst c30
      have H1 : (some false) = some r := by rw [if_neg (show ¬ (false = true) by decide)] at H; exact H
      clear H
      have H := H1
      clear H1
      exact absurd ((Option.some.inj H).trans hT_.out) (by decide)

end Go.Proofs.Ytkepeflplmkcmaa.Q
