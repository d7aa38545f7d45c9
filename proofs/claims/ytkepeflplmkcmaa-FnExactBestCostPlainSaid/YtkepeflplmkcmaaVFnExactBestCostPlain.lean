/- The pure side of the law FnExactBestCostPlain: the least cost of all full words is what the reference's table tells. Conditions: none. -/
import Derived.Test.YtkepeflplmkcmaaPx1
import Derived.Test.YtkepeflplmkcmaaPx2
import Derived.Test.YtkepeflplmkcmaaPx4
import Derived.Test.YtkepeflplmkcmaaPx5
import Derived.Test.YtkepeflplmkcmaaPx6
import Derived.Test.YtkepeflplmkcmaaPx7
import Derived.Test.YtkepeflplmkcmaaPx8
import Derived.Test.YtkepeflplmkcmaaOpens
namespace Go.Proofs.Ytkepeflplmkcmaa.Q
open Go.RowKit Go.Proofs.Ytkepeflplmkcmaa.Opens Go.Proofs.YtkepeflplmkcmaaW.PrintWords Go.Proofs.YtkepeflplmkcmaaW.PrintLast Go.Proofs.YtkepeflplmkcmaaW.PrintMore
set_option linter.unusedVariables false
set_option linter.unusedSimpArgs false

/-- THE ONE PURE STATEMENT of FnExactBestCostPlain. -/
def PureFnExactBestCostPlain : Prop := ∀ (a0_0 : Int) (l0_1 : List Int) (l1 : List (S85)), Int64 a0_0 → AllOk Int64 l0_1 → l0_1.length ≤ 9223372036854775807 → AllOk (fun x : S85 => Int64 x.f0 ∧ Int64 x.f1 ∧ Int64 x.f2) l1 → l1.length ≤ 9223372036854775807 → ∃ k, laws_FnExactBestCostPlain.f k a0_0 l0_1 l1 = some true
/-- The greatest cost along a word, from a set on. -/
def costR (t : List S83) : List Int → Nat → Int → Int
  | [], _, m => m
  | i :: B, x, m => costR t B (x ||| 2 ^ i.toNat) (max m (costV t x i))
def setR : List Int → Nat → Nat
  | [], x => x
  | i :: B, x => setR B (x ||| 2 ^ i.toNat)
theorem costR_snoc (t : List S83) : ∀ (A : List Int) (i : Int) (x : Nat) (m : Int), costR t (A ++ [i]) x m = max (costR t A x m) (costV t (setR A x) i) ∧ setR (A ++ [i]) x = setR A x ||| 2 ^ i.toNat
  | [], i, x, m => ⟨rfl, rfl⟩
  | j :: A, i, x, m => costR_snoc t A i _ _
theorem costOf_val {t : List S83} (hf : ∀ x ∈ t, 1 ≤ x.f0 ∧ x.f0 ≤ 9 ∧ 0 ≤ x.f1 ∧ x.f1 ≤ 9 ∧ -100 ≤ x.f2 ∧ x.f2 ≤ 100) (hl : t.length ≤ 7) (G : List Int) (hG : ∀ i ∈ G, 0 ≤ i ∧ i < t.length) (hGl : G.length ≤ 1000) :
    ∀ (B A : List Int) (x : Nat) (w m : Int), A ++ B = G → x < 128 → (A.length = 0 → m = -10000 ∧ B ≠ []) → (A.length ≠ 0 → m = w) → Ev (fun k => impl_costOf.l0 k t w x G G.length A.length) (costR t B x m)
  | [], A, x, w, m, hA, hx, h0, h1 => by
    rw [List.append_nil] at hA
    subst hA
    have hne : A.length ≠ 0 := fun e => (h0 e).2 rfl
    obtain rfl := h1 hne
    exact Ev.succ (g := fun _ => some m) (fun k => by simp only [impl_costOf.l0]; rw [if_neg (by omega)]) (Ev.const rfl)
  | i :: B, A, x, w, m, hA, hx, h0, h1 => by
    have hlt : A.length < G.length := by rw [← hA]; simp
    have hrd : rd G (A.length : Int) = i := by rw [← hA]; exact rd_append A B i
    obtain ⟨i0, i1⟩ := hG i (by rw [← hA]; simp)
    have hws : wrap64 ((A.length : Int) + 1) = A.length + 1 := wrap_succ (by omega) (by omega)
    have h2i : 2 ^ i.toNat < 128 := two_lt128 (by omega)
    have hb := costV_ge hf hl x i i0 i1
    have hc := cost_ok t (x : Int) i (by omega) (by omega) i0 i1 (by omega)
    rw [Int.toNat_natCast] at hc
    have hn := fun w' m' => costOf_val hf hl G hG hGl B (A ++ [i]) (x ||| 2 ^ i.toNat) w' m' (by rw [List.append_assoc]; exact hA) (Nat.or_lt_two_pow (n := 7) hx h2i) (fun h => by rw [List.length_append, List.length_singleton] at h; omega)
    rw [List.length_append, List.length_singleton] at hn
    push_cast at hn
    have hbits : Go.bits .or .i64 (x : Int) (shl .i64 1 i) = ((x ||| 2 ^ i.toNat : Nat) : Int) := by rw [shl_nat i0 (by omega), bits_or x (2 ^ i.toNat) (by omega) (by omega)]
    refine Ev.succ (fun k => by simp only [impl_costOf.l0]; rw [if_pos (by omega), if_pos (by omega), if_pos (by omega), hrd, hws, hbits]) ?_
    refine Ev.bind hc ?_
    show Ev _ (costR t B (x ||| 2 ^ i.toNat) (max m (costV t x i)))
    by_cases hA0 : A.length = 0
    · obtain ⟨rfl, _⟩ := h0 hA0
      rw [show max (-10000) (costV t x i) = costV t x i by omega]
      exact Ev.to (fun k => by rw [if_pos (by omega), if_pos i0]) (hn (costV t x i) (costV t x i) (fun _ => rfl))
    · obtain rfl := h1 hA0
      by_cases hgt : costV t x i > m
      · rw [show max m (costV t x i) = costV t x i by omega]
        exact Ev.to (fun k => by rw [if_neg (by omega), if_pos hgt, if_pos i0]) (hn (costV t x i) (costV t x i) (fun _ => rfl))
      · rw [show max m (costV t x i) = m by omega]
        exact Ev.to (fun k => by rw [if_neg (by omega), if_neg hgt, if_pos i0]) (hn m m (fun _ => rfl))
/-- One more item is looked at: the least cost so far. -/
def stepC (t : List S83) (c : Nat → Int) (x : Nat) (b : Int) (i : Nat) : Int := min b (max (costV t x (i : Int)) (c (x ||| 2 ^ i)))
/-- The least cost behind a set from which so many items are missing. -/
def cmD (t : List S83) (F : List Bool) : Nat → Nat → Int
  | 0, _ => -10000
  | d + 1, x => (itemsN (outerF F x)).foldl (stepC t (cmD t F d) x) 10000
/-- One more cost is known. -/
def updI (st : Int × Bool) (c : Int) : Int × Bool := if c < 10000 ∧ (st.2 = false ∨ c < st.1) then (c, true) else st
theorem updI_two (st : Int × Bool) (A B : Int) : updI (updI st A) B = updI st (min A B) := by
  obtain ⟨o, a⟩ := st
  unfold updI
  cases a <;> (simp only [true_or, and_true, reduceCtorEq, false_or]; split <;> rename_i h1 <;> (try simp only [reduceCtorEq, false_or, true_or, and_true]) <;> split <;> rename_i h2 <;> (first | (rw [if_pos (by omega)]; first | rfl | (congr 1; omega)) | (rw [if_neg (by omega)])))
theorem all_nat {n x : Nat} : (x : Int) = 2 ^ n - 1 ↔ x = 2 ^ n - 1 := by
  have h4 : (2 : Int) ^ n = ((2 ^ n : Nat) : Int) := by push_cast; rfl
  have h3 : 0 < 2 ^ n := Nat.pow_pos (by decide)
  rw [h4]
  generalize 2 ^ n = N at *
  omega
theorem ww {n : Int} {l : List Int} (hS : isSpaceB n l = true) {t : List S83} (htl : (t.length : Int) = n) (hf : ∀ x ∈ t, 1 ≤ x.f0 ∧ x.f0 ≤ 9 ∧ 0 ≤ x.f1 ∧ x.f1 ≤ 9 ∧ -100 ≤ x.f2 ∧ x.f2 ≤ 100) :
    ∀ (d m x : Nat) (ws : List Int) (st : Int × Bool), m + d = n.toNat → GInv n.toNat (famOf l) x m → setR ws 0 = x → ws.length = m → (∀ i ∈ ws, 0 ≤ i ∧ i < t.length) → -10000 ≤ costR t ws 0 (-10000) ∧ costR t ws 0 (-10000) ≤ 1000 →
      Ev2 (fun k k' => wordsW (2 ^ n.toNat - 1) (famOf l) (bestD k' t) k st true ws x) (updI st (max (costR t ws 0 (-10000)) (cmD t (famOf l) d x)), true)
  | 0, m, x, ws, st, hd, hG, hx, hw, hi, hc => by
    obtain ⟨n1, n7, _⟩ := isSpaceB_parts hS
    have hall : (x : Int) = 2 ^ n.toNat - 1 := all_nat.2 ((hG.full (by omega)).2 (by omega))
    refine Ev2.succ (fun k k' => by rw [wordsW, if_pos hall]) ?_
    have hv := costOf_val hf (by omega) ws hi (by omega) ws [] 0 0 (-10000) rfl (by decide) (fun _ => ⟨rfl, fun e => by rw [e] at hw; simp at hw; omega⟩) (fun h => absurd rfl h)
    refine Ev2.bind (Ev2.right (show Ev (fun k => impl_costOf.f k t ws) _ from hv)) ?_
    refine Ev2.const (congrArg some ?_)
    show ((if st.2 = false ∨ costR t ws 0 (-10000) < st.1 then (costR t ws 0 (-10000), true) else st, true) : (Int × Bool) × Bool) = (updI st (max (costR t ws 0 (-10000)) (-10000)), true)
    rw [show max (costR t ws 0 (-10000)) (-10000) = costR t ws 0 (-10000) by omega]
    unfold updI
    congr 1
    by_cases h : st.2 = false ∨ costR t ws 0 (-10000) < st.1
    · rw [if_pos h, if_pos ⟨by omega, h⟩]
    · rw [if_neg h, if_neg (fun hh => h hh.2)]
  | d + 1, m, x, ws, st, hd, hG, hx, hw, hi, hc => by
    obtain ⟨n1, n7, _⟩ := isSpaceB_parts hS
    have hx128 := hG.x128 (n := n.toNat) (by omega)
    have hall : ¬ (x : Int) = 2 ^ n.toNat - 1 := fun e => by
      have := (hG.full (by omega)).1 (all_nat.1 e)
      omega
    refine Ev2.succ (fun k k' => by rw [wordsW, if_neg hall]) ?_
    refine Ev2.bind (Ev2.const (outer_f (famOf l) (famOf_length l) (x : Int) (by omega) (by omega))) ?_
    rw [Int.toNat_natCast]
    have ho : outerF (famOf l) x < 128 := maskOf_lt _
    refine Ev2.bind (Ev2.left (itemsE (x := ((outerF (famOf l) x : Nat) : Int)) (by omega) (by omega))) ?_
    have loop : ∀ (I : List Nat) (b : Int), (∀ i ∈ I, (outerF (famOf l) x).testBit i = true) → Ev2 (fun k k' => loopF (fun st g ws set => wordsW (2 ^ n.toNat - 1) (famOf l) (bestD k' t) k st g ws set) ws x (I.map fun (j : Nat) => (j : Int)) (updI st (max (costR t ws 0 (-10000)) b)) true) (updI st (max (costR t ws 0 (-10000)) (I.foldl (stepC t (cmD t (famOf l) d) x) b)), true) := by
      intro I
      induction I with
      | nil =>
        intro b _
        exact Ev2.const rfl
      | cons i I ih =>
        intro b hI
        obtain ⟨hin, hxi, hG2⟩ := outer_next hS hG (hI i List.mem_cons_self)
        have hcv := costV_ge hf (by omega) x (i : Int) (by omega) (by omega)
        have h2i : 2 ^ i < 128 := two_lt128 (by omega)
        have hbits : Go.bits .or .i64 (x : Int) (shl .i64 1 (i : Int)) = ((x ||| 2 ^ i : Nat) : Int) := by rw [shl_one i (by omega), bits_or x (2 ^ i) (by omega) (by omega)]
        obtain ⟨hs1, hs2⟩ := costR_snoc t ws (i : Int) 0 (-10000)
        rw [hx, Int.toNat_natCast] at hs2
        rw [hx] at hs1
        have hrec := ww hS htl hf d (m + 1) (x ||| 2 ^ i) (ws ++ [(i : Int)]) (updI st (max (costR t ws 0 (-10000)) b)) (by omega) hG2 hs2 (by rw [List.length_append, List.length_singleton, hw]) (fun j hj => by
          rcases List.mem_append.1 hj with h | h
          · exact hi j h
          · rw [List.mem_singleton.1 h]; omega) (by rw [hs1]; omega)
        rw [hs1, updI_two] at hrec
        have hn := ih (stepC t (cmD t (famOf l) d) x b i) (fun j hj => hI j (List.mem_cons_of_mem _ hj))
        rw [show min (max (costR t ws 0 (-10000)) b) (max (max (costR t ws 0 (-10000)) (costV t x (i : Int))) (cmD t (famOf l) d (x ||| 2 ^ i))) = max (costR t ws 0 (-10000)) (stepC t (cmD t (famOf l) d) x b i) by (show _ = max (costR t ws 0 (-10000)) (min b (max (costV t x (i : Int)) (cmD t (famOf l) d (x ||| 2 ^ i)))); omega)] at hrec
        refine Ev2.to (fun k k' => by rw [List.map_cons, loopF, if_pos rfl, if_pos ⟨by omega, by omega⟩, hbits]) ?_
        exact Ev2.bind hrec hn
    have := loop (itemsN (outerF (famOf l) x)) 10000 (fun i hi => itemsN_bit hi)
    rw [show updI st (max (costR t ws 0 (-10000)) 10000) = st from if_neg (fun h => by omega)] at this
    exact this
theorem mem_fam_nat {l : List Int} {x : Nat} (h : (x : Int) ∈ l) (h1 : x < 128) : (famOf l).getD x false = true := by
  have := mem_fam h (by omega) (by omega)
  rwa [Int.toNat_natCast] at this
theorem cnt_most_ : ∀ (n : Fin 8) (x : Fin 128), x.val < 2 ^ n.val → cntN x.val ≤ n.val := by decide +kernel
theorem cnt_most {n x : Nat} (hn : n ≤ 7) (h : x < 2 ^ n) : cntN x ≤ n := by
  have e : 2 ^ n ≤ 2 ^ 7 := Nat.pow_le_pow_right (by decide) hn
  exact cnt_most_ ⟨n, by omega⟩ ⟨x, by omega⟩ h
theorem cmD_ge (t : List S83) (F : List Bool) : ∀ (d x : Nat), -10000 ≤ cmD t F d x
  | 0, _ => Int.le_refl _
  | d + 1, x => by
    have key : ∀ (I : List Nat) (a : Int), -10000 ≤ a → -10000 ≤ I.foldl (stepC t (cmD t F d) x) a := by
      intro I
      induction I with
      | nil => exact fun a h => h
      | cons j I ih =>
        intro a h
        have := cmD_ge t F d (x ||| 2 ^ j)
        exact ih _ (by show -10000 ≤ min a (max (costV t x (j : Int)) (cmD t F d (x ||| 2 ^ j))); omega)
    exact key _ 10000 (by decide)
theorem drop_hit {l : List Int} (hr : Rise l) {j : Nat} (hj : j < l.length) : rd l (j : Int) ∉ l.drop (j + 1) := by
  intro hm
  obtain ⟨q, hq, e⟩ := List.mem_iff_getElem.1 hm
  rw [List.length_drop] at hq
  rw [List.getElem_drop] at e
  have h1 := hr j (j + 1 + q) (by omega) (by omega)
  rw [rd_get (i := j + 1 + q) (by omega)] at h1
  omega
theorem drop_far {l : List Int} (hr : Rise l) {j : Nat} (hj : j < l.length) {v : Int} (hv : v ∈ l) (hgt : rd l (j : Int) < v) : v ∈ l.drop (j + 1) := by
  obtain ⟨q, hq, e⟩ := List.mem_iff_getElem.1 hv
  have hqj : j < q := by
    rcases Nat.lt_or_ge j q with h | h
    · exact h
    · rcases Nat.lt_or_ge q j with h2 | h2
      · have := hr q j h2 hj
        rw [rd_get hq] at this
        omega
      · obtain rfl : q = j := by omega
        rw [rd_get hq] at hgt
        omega
  refine List.mem_iff_getElem.2 ⟨q - (j + 1), by rw [List.length_drop]; omega, ?_⟩
  rw [List.getElem_drop]
  rw [← e]
  congr 1
  omega
theorem most_max (a b : Int) : spec_l1Most.f a b = some (max a b) := by
  unfold spec_l1Most.f
  split <;> exact congrArg some (by omega)
theorem least_min (a b : Int) : spec_l1Least.f a b = some (min a b) := by
  unfold spec_l1Least.f
  split <;> exact congrArg some (by omega)
/-- The least cost when a further item is looked at, among the sets from one on. -/
def finC (t : List S83) (c : Nat → Int) (l : List Int) (x i j : Nat) (best : Int) : Int := if x.testBit i = false ∧ ((x ||| 2 ^ i : Nat) : Int) ∈ l.drop j then min best (max (costV t x (i : Int)) (c (x ||| 2 ^ i))) else best
theorem finC_end {t : List S83} {c : Nat → Int} {l : List Int} {x i j : Nat} {best : Int} (h : l.length ≤ j) : finC t c l x i j best = best := if_neg (fun h2 => by
  rw [List.drop_of_length_le h] at h2
  cases h2.2)
theorem finC_in {t : List S83} {c : Nat → Int} {l : List Int} {x i j : Nat} {best : Int} (h : x.testBit i = true) : finC t c l x i j best = best := if_neg (fun h2 => by
  rw [h] at h2
  cases h2.1)
theorem finC_hit {t : List S83} {c : Nat → Int} {l : List Int} (hr : Rise l) {x i j : Nat} {best : Int} (hj : j < l.length) (hb : x.testBit i = false) (h : rd l (j : Int) = ((x ||| 2 ^ i : Nat) : Int)) : finC t c l x i (j + 1) (min best (max (costV t x (i : Int)) (c (x ||| 2 ^ i)))) = finC t c l x i j best := by
  unfold finC
  rw [if_neg (fun h2 => drop_hit hr hj (by rw [h]; exact h2.2)), if_pos ⟨hb, by rw [List.drop_eq_getElem_cons hj, ← rd_get hj, h]; exact List.mem_cons_self⟩]
theorem finC_miss {t : List S83} {c : Nat → Int} {l : List Int} {x i j : Nat} {best : Int} (hj : j < l.length) (h : rd l (j : Int) ≠ ((x ||| 2 ^ i : Nat) : Int)) : finC t c l x i (j + 1) best = finC t c l x i j best := by
  have hiff : ((x ||| 2 ^ i : Nat) : Int) ∈ l.drop j ↔ ((x ||| 2 ^ i : Nat) : Int) ∈ l.drop (j + 1) := by
    rw [List.drop_eq_getElem_cons hj, List.mem_cons]
    constructor
    · rintro (h2 | h2)
      · rw [rd_get hj] at h
        exact absurd h2.symm h
      · exact h2
    · exact .inr
  unfold finC
  by_cases hc : x.testBit i = false ∧ ((x ||| 2 ^ i : Nat) : Int) ∈ l.drop j
  · rw [if_pos hc, if_pos ⟨hc.1, hiff.1 hc.2⟩]
  · rw [if_neg hc, if_neg (fun h2 => hc ⟨h2.1, hiff.2 h2.2⟩)]
section
variable {n : Int} {l : List Int} (hS : isSpaceB n l = true) {t : List S83} (htl : (t.length : Int) = n) (hf : ∀ x ∈ t, 1 ≤ x.f0 ∧ x.f0 ≤ 9 ∧ 0 ≤ x.f1 ∧ x.f1 ≤ 9 ∧ -100 ≤ x.f2 ∧ x.f2 ≤ 100)
include hS htl hf
theorem gt_l2 {k0 : Nat} (hk : k0 < l.length) {X : List S79} (hX : X.length = l.length) {x m d : Nat} (hG : GInv n.toNat (famOf l) x m) (hmd : m + (d + 1) = n.toNat) (hT : ∀ j : Nat, k0 < j → j < l.length → ∀ m', GInv n.toNat (famOf l) (rd l (j : Int)).toNat m' → (rd_T79 X (j : Int)).f0 = cmD t (famOf l) (n.toNat - m') (rd l (j : Int)).toNat) {i : Nat} (hi : i < n.toNat) (P : List S79 → Prop) :
    ∀ (dd j : Nat) (best ways : Int), l.length - j = dd → k0 < j → j ≤ l.length → (∀ ways', ∃ T, Ev (fun k => spec_grTable.l1 k t 10000 X k0 x t.length ((i : Int) + 1) n l (finC t (cmD t (famOf l) d) l x i j best) ways') T ∧ P T) → ∃ T, Ev (fun k => spec_grTable.l2 k t 10000 X k0 x i (j : Int) t.length i n l best ways) T ∧ P T := by
  obtain ⟨n1, n7, _⟩ := isSpaceB_parts hS
  have hlen := isSpaceB_len hS
  have hr := risingB_rise (isSpaceB_parts hS).2.2.2.1
  have hx128 := hG.x128 (n := n.toNat) (by omega)
  have h2i : 2 ^ i < 128 := two_lt128 (by omega)
  have HBITS : Aside0 (Go.bits .or .i64 (x : Int) (shl .i64 1 (i : Int)) = ((x ||| 2 ^ i : Nat) : Int)) := ⟨by rw [shl_one i (by omega), bits_or x (2 ^ i) (by omega) (by omega)]⟩
  have HOR : Aside0 (x ||| 2 ^ i < 128) := ⟨Nat.or_lt_two_pow (n := 7) hx128 h2i⟩
  have HCV : Aside0 (costV t x (i : Int) ≤ 10000) := ⟨Int.le_trans (costV_ge hf (by omega) x (i : Int) (by omega) (by omega)).2 (by decide)⟩
  have HG : Aside0 (Ev (fun k => spec_grCost.f k t (x : Int) (i : Int)) (costV t x (i : Int))) := ⟨by
    have hg := grCost_ok t (x : Int) (i : Int) (by omega) (by omega) (by omega) (by omega)
    rwa [Int.toNat_natCast] at hg⟩
  have HIN : Aside0 (spec_spIn.f (x : Int) (i : Int) = some (x.testBit i)) := ⟨spIn_ok x i (by omega)⟩
  have hi7 : i < 7 := by omega
  have hmd2 : n.toNat - (m + 1) = d := by omega
  have htl2 : (i : Int) < (t.length : Int) := by omega
  clear h2i hx128 n7
  intro dd
  induction dd with
  | zero =>
    intro j best ways hd hkj hj H
    obtain ⟨T, h1, h2⟩ := H ways
    rw [finC_end (by omega)] at h1
    exact ⟨T, Ev.succ (fun k => by simp only [spec_grTable.l2]; rw [if_neg (by omega), wrap_succ (by omega) (by omega)]) h1, h2⟩
  | succ dd ih =>
    intro j best ways hd hkj hj H
    have hlt : j < l.length := by omega
    have HWS : Aside0 (wrap64 ((j : Int) + 1) = ((j + 1 : Nat) : Int)) := ⟨by rw [wrap_succ (by omega) (by omega)]; push_cast; rfl⟩
    have hd1 : l.length - (j + 1) = dd := by omega
    have hd2 : k0 < j + 1 := by omega
    have hd3 : j + 1 ≤ l.length := by omega
    have hz1 : (j : Int) < (l.length : Int) := by omega
    have hz2 : (0 : Int) ≤ (j : Int) := by omega
    have hz3 : (j : Int) < (X.length : Int) := by omega
    have hz4 : (0 : Int) ≤ (i : Int) := by omega
    have miss : finC t (cmD t (famOf l) d) l x i (j + 1) best = finC t (cmD t (famOf l) d) l x i j best → ∃ T, Ev (fun k => spec_grTable.j3 k t 10000 X k0 x i j t.length i false n l best ways) T ∧ P T := by
      intro e
      obtain ⟨T, h1, h2⟩ := ih (j + 1) best ways hd1 hd2 hd3 (fun w' => by rw [e]; exact H w')
      exact ⟨T, Ev.succ (fun k => by simp only [spec_grTable.j3]; rw [if_neg (by decide), HWS.out]) h1, h2⟩
    cases hb : x.testBit i with
    | true =>
      obtain ⟨T, h1, h2⟩ := miss (by rw [finC_in hb, finC_in hb])
      refine ⟨T, Ev.succ (fun k => by simp only [spec_grTable.l2]; rw [if_pos hz1]) ?_, h2⟩
      refine Ev.bindc HIN.out ?_
      exact Ev.to (fun k => by rw [hb, if_pos rfl]) h1
    | false =>
      have enter : ∀ T, Ev (fun k => spec_grTable.j3 k t 10000 X k0 x i j t.length i (rd l (j : Int) == ((x ||| 2 ^ i : Nat) : Int)) n l best ways) T → Ev (fun k => spec_grTable.l2 k t 10000 X k0 x i j t.length i n l best ways) T := by
        intro T hT2
        refine Ev.succ (fun k => by simp only [spec_grTable.l2]; rw [if_pos hz1]) ?_
        refine Ev.bindc HIN.out ?_
        exact Ev.to (fun k => by rw [hb, if_neg (by decide), if_pos hz2, if_pos hz4, HBITS.out]) hT2
      by_cases he : rd l (j : Int) = ((x ||| 2 ^ i : Nat) : Int)
      · have hmem : ((x ||| 2 ^ i : Nat) : Int) ∈ l := by rw [← he]; exact rd_mem hz2 hz1
        have hob : (outerF (famOf l) x).testBit i = true := by
          unfold outerF
          rw [maskOf_bit _ _ hi7, hb, mem_fam_nat hmem HOR.out]
          rfl
        obtain ⟨_, _, hG2⟩ := outer_next hS hG hob
        have hval := hT j hkj hlt (m + 1) (by rw [he, Int.toNat_natCast]; exact hG2)
        rw [he, Int.toNat_natCast, hmd2] at hval
        obtain ⟨T, h1, h2⟩ := ih (j + 1) (min best (max (costV t x (i : Int)) (cmD t (famOf l) d (x ||| 2 ^ i)))) (wrap64 (ways + (rd_T79 X (j : Int)).f1)) hd1 hd2 hd3 (fun w' => by rw [finC_hit hr hlt hb he]; exact H w')
        refine ⟨T, enter T ?_, h2⟩
        rw [show (rd l (j : Int) == ((x ||| 2 ^ i : Nat) : Int)) = true from beq_iff_eq.2 he]
        refine Ev.succ (fun k => by simp only [spec_grTable.j3]; rw [if_pos trivial]) ?_
        refine Ev.bind HG.out ?_
        refine Ev.to (fun k => by rw [if_pos hz2, if_pos hz3]) ?_
        refine Ev.bindc (show spec_l1Most.f (costV t x (i : Int)) (rd_T79 X (j : Int)).f0 = some (max (costV t x (i : Int)) (cmD t (famOf l) d (x ||| 2 ^ i))) from by rw [hval]; exact most_max _ _) ?_
        refine Ev.bindc (least_min best _) ?_
        exact Ev.to (fun k => by rw [if_pos HCV.out, HWS.out]) h1
      · obtain ⟨T, h1, h2⟩ := miss (finC_miss hlt he)
        refine ⟨T, enter T ?_, h2⟩
        rw [show (rd l (j : Int) == ((x ||| 2 ^ i : Nat) : Int)) = false from beq_eq_false_iff_ne.2 he]
        exact h1
theorem gt_l1 {k0 : Nat} (hk : k0 < l.length) {X : List S79} (hX : X.length = l.length) {x m d : Nat} (hxk : rd l (k0 : Int) = (x : Int)) (hG : GInv n.toNat (famOf l) x m) (hmd : m + (d + 1) = n.toNat) (hT : ∀ j : Nat, k0 < j → j < l.length → ∀ m', GInv n.toNat (famOf l) (rd l (j : Int)).toNat m' → (rd_T79 X (j : Int)).f0 = cmD t (famOf l) (n.toNat - m') (rd l (j : Int)).toNat) (P : List S79 → Prop) :
    ∀ (di i : Nat) (best ways : Int), n.toNat - i = di → i ≤ n.toNat → (∀ ways', ∃ T, Ev (fun k => spec_grTable.l0 k t 10000 (X.set k0 ⟨((List.range' i di).filter fun i => (outerF (famOf l) x).testBit i).foldl (stepC t (cmD t (famOf l) d) x) best, ways'⟩) ((k0 : Int) - 1) n l) T ∧ P T) → ∃ T, Ev (fun k => spec_grTable.l1 k t 10000 X k0 x t.length (i : Int) n l best ways) T ∧ P T := by
  obtain ⟨n1, n7, _⟩ := isSpaceB_parts hS
  have hlen := isSpaceB_len hS
  have HR := Aside0.mk (risingB_rise (isSpaceB_parts hS).2.2.2.1)
  have hx128 := hG.x128 (n := n.toNat) (by omega)
  have HX1 : Aside0 (wrap64 ((k0 : Int) - 1) = (k0 : Int) - 1) := ⟨wrap_in (by omega) (by omega)⟩
  have HX2 : Aside0 (wrap64 ((k0 : Int) + 1) = ((k0 + 1 : Nat) : Int)) := ⟨by rw [wrap_succ (by omega) (by omega)]; push_cast; rfl⟩
  have hk0 : (0 : Int) ≤ (k0 : Int) := by omega
  have hkX : (k0 : Int) < (X.length : Int) := by omega
  intro di
  induction di with
  | zero =>
    intro i best ways hd hi H
    have hni : ¬ (i : Int) < (t.length : Int) := by omega
    obtain ⟨T, h1, h2⟩ := H ways
    have h1 : Ev (fun k => spec_grTable.l0 k t 10000 (X.set k0 ⟨best, ways⟩) ((k0 : Int) - 1) n l) T := h1
    exact ⟨T, Ev.succ (fun k => by simp only [spec_grTable.l1]; rw [if_neg hni, if_pos hk0, if_pos hkX, Int.toNat_natCast, HX1.out]) h1, h2⟩
  | succ di ih =>
    intro i best ways hd hi H
    have hin : i < n.toNat := by omega
    have hni : (i : Int) < (t.length : Int) := by omega
    have hi7 : i < 7 := by omega
    have hd1 : n.toNat - (i + 1) = di := by omega
    have hd2 : i + 1 ≤ n.toNat := by omega
    have hor : x ||| 2 ^ i < 128 := Nat.or_lt_two_pow (n := 7) hx128 (two_lt128 hi7)
    have hiff : (x.testBit i = false ∧ ((x ||| 2 ^ i : Nat) : Int) ∈ l.drop (k0 + 1)) ↔ (outerF (famOf l) x).testBit i = true := by
      unfold outerF
      rw [maskOf_bit _ _ hi7, Bool.and_eq_true, Bool.not_eq_true']
      constructor
      · rintro ⟨h1, h2⟩
        exact ⟨h1, mem_fam_nat (List.mem_of_mem_drop h2) hor⟩
      · rintro ⟨h1, h2⟩
        refine ⟨h1, drop_far HR.out hk (fam_mem h2) ?_⟩
        rw [hxk]
        exact Int.ofNat_lt.2 (or_greater h1)
    have hfin : ((List.range' (i + 1) di).filter fun i => (outerF (famOf l) x).testBit i).foldl (stepC t (cmD t (famOf l) d) x) (finC t (cmD t (famOf l) d) l x i (k0 + 1) best) = ((List.range' i (di + 1)).filter fun i => (outerF (famOf l) x).testBit i).foldl (stepC t (cmD t (famOf l) d) x) best := by
      rw [List.range'_succ, List.filter_cons]
      unfold finC
      by_cases hc : (outerF (famOf l) x).testBit i = true
      · rw [if_pos hc, List.foldl_cons, if_pos (hiff.2 hc)]
        rfl
      · rw [if_neg hc, if_neg (fun h => hc (hiff.1 h))]
    obtain ⟨T, h1, h2⟩ := gt_l2 hS htl hf hk hX hG hmd hT hin P (l.length - (k0 + 1)) (k0 + 1) best ways rfl (Nat.lt_succ_self _) hk (fun w' => by
      refine ih (i + 1) _ w' hd1 hd2 (fun w2 => ?_)
      rw [hfin]
      exact H w2)
    exact ⟨T, Ev.succ (fun k => by simp only [spec_grTable.l1]; rw [if_pos hni, HX2.out]) h1, h2⟩
theorem gt_l0 : ∀ (kk : Nat) (X : List S79), kk < l.length → X.length = l.length → (∀ j : Nat, kk ≤ j → j < l.length → ∀ m', GInv n.toNat (famOf l) (rd l (j : Int)).toNat m' → (rd_T79 X (j : Int)).f0 = cmD t (famOf l) (n.toNat - m') (rd l (j : Int)).toNat) → ∃ T, Ev (fun k => spec_grTable.l0 k t 10000 X ((kk : Int) - 1) n l) T ∧ T.length = l.length ∧ (rd_T79 T 0).f0 = cmD t (famOf l) n.toNat 0
  | 0, X, hk, hX, hT => by
    obtain ⟨n1, n7, hz⟩ := isSpaceB_parts hS
    have hr := risingB_rise (isSpaceB_parts hS).2.2.2.1
    have h0 : rd l ((0 : Nat) : Int) = 0 := by
      have hm : (0 : Int) ∈ l := by
        have := fam_mem (learn_of_space hS).zero
        exact_mod_cast this
      obtain ⟨q, hq, e⟩ := List.mem_iff_getElem.1 hm
      have h1 := (isSpaceB_128 hS _ (rd_mem (l := l) (i := ((0 : Nat) : Int)) (by omega) (by omega))).1
      rcases Nat.eq_zero_or_pos q with rfl | hp
      · rw [rd_get hq]
        exact e
      · have h2 := hr 0 q hp hq
        rw [rd_get hq, e] at h2
        omega
    have hg := GInv.start hS
    have := hT 0 (Nat.le_refl _) hk 0 (by rw [h0]; exact hg)
    rw [h0] at this
    exact ⟨X, Ev.succ (fun k => by simp only [spec_grTable.l0]; rw [if_neg (by omega)]) (Ev.const rfl), hX, this⟩
  | kk + 1, X, hk, hX, hT => by
    obtain ⟨n1, n7, _⟩ := isSpaceB_parts hS
    have hlen := isSpaceB_len hS
    have hr := risingB_rise (isSpaceB_parts hS).2.2.2.1
    have hmem := rd_mem (l := l) (i := (kk : Int)) (by omega) (by omega)
    obtain ⟨x0, x1⟩ := isSpaceB_128 hS _ hmem
    obtain ⟨x, hx⟩ := Int.eq_ofNat_of_zero_le x0
    have hxl : (x : Int) ∈ l := by rw [← hx]; exact hmem
    have hlt2 : x < 2 ^ n.toNat := by
      have := (isSpaceB_mem hS _ hxl).2
      exact_mod_cast this
    have hG : GInv n.toNat (famOf l) x (cntN x) := ⟨mem_fam_nat hxl (by omega), hlt2, rfl⟩
    have hne : cntN x ≠ n.toNat := by
      intro e
      have h1 := (hG.full (by omega)).2 e
      have h2 := hr kk (kk + 1) (by omega) hk
      have h3 := (isSpaceB_mem hS _ (rd_mem (l := l) (i := ((kk + 1 : Nat) : Int)) (by omega) (by omega))).2
      have h4 : ((2 ^ n.toNat : Nat) : Int) = 2 ^ n.toNat := by push_cast; rfl
      have h5 : 0 < 2 ^ n.toNat := Nat.pow_pos (by decide)
      omega
    have hle : cntN x ≤ n.toNat := by
      have := cnt_most (n := n.toNat) (by omega) hlt2
      exact this
    obtain ⟨d, hd⟩ : ∃ d, cntN x + (d + 1) = n.toNat := ⟨n.toNat - cntN x - 1, by omega⟩
    have key := gt_l1 hS htl hf (k0 := kk) (by omega) hX hx hG hd (fun j hj hjl m' hm' => hT j (by omega) hjl m' hm') (fun T => T.length = l.length ∧ (rd_T79 T 0).f0 = cmD t (famOf l) n.toNat 0) n.toNat 0 10000 0 rfl (Nat.zero_le _) (fun w' => by
      refine gt_l0 kk _ (by omega) (by rw [List.length_set]; exact hX) (fun j hj hjl m' hm' => ?_)
      by_cases e : j = kk
      · subst e
        rw [hx, Int.toNat_natCast] at hm' ⊢
        have hm2 : m' = cntN x := hm'.cnt.symm
        subst hm2
        show ((X.set j _).getD ((j : Int)).toNat _).f0 = _
        rw [Int.toNat_natCast, List.getD_eq_getElem?_getD, List.getElem?_set, if_pos rfl, if_pos (by omega)]
        show List.foldl _ _ _ = _
        rw [show n.toNat - cntN x = d + 1 by omega]
        show _ = (itemsN (outerF (famOf l) x)).foldl _ _
        congr 1
        unfold itemsN
        rw [show [0, 1, 2, 3, 4, 5, 6] = List.range' 0 7 from rfl, show (7 : Nat) = n.toNat + (7 - n.toNat) by omega, ← List.range'_append_1, List.filter_append]
        rw [show ((List.range' (0 + n.toNat) (7 - n.toNat)).filter fun i => (outerF (famOf l) x).testBit i) = [] from List.filter_eq_nil_iff.2 (fun j hj hb => by
          have h1 := (outer_next hS hG hb).1
          have h2 := List.mem_range'_1.1 hj
          omega), List.append_nil]
      · have h1 := hT j (by omega) hjl m' hm'
        show ((X.set kk _).getD ((j : Int)).toNat _).f0 = _
        rw [Int.toNat_natCast, List.getD_eq_getElem?_getD, List.getElem?_set, if_neg (fun h => e h.symm)]
        rw [← h1]
        show _ = (X.getD ((j : Int)).toNat _).f0
        rw [Int.toNat_natCast, List.getD_eq_getElem?_getD])
    obtain ⟨T, h1, h2, h3⟩ := key
    have h1 : Ev (fun k => spec_grTable.l1 k t 10000 X kk x t.length 0 n l 10000 0) T := h1
    have hkk : (((kk + 1 : Nat) : Int) - 1) = (kk : Int) := by push_cast; omega
    refine ⟨T, Ev.succ (fun k => by simp only [spec_grTable.l0]; rw [hkk, if_pos (by omega), if_pos (by omega), if_pos (by omega), hx]) h1, h2, h3⟩
end
theorem cmD_lt {n : Int} {l : List Int} (hS : isSpaceB n l = true) {t : List S83} (htl : (t.length : Int) = n) (hf : ∀ x ∈ t, 1 ≤ x.f0 ∧ x.f0 ≤ 9 ∧ 0 ≤ x.f1 ∧ x.f1 ≤ 9 ∧ -100 ≤ x.f2 ∧ x.f2 ≤ 100) : ∀ (d m x : Nat), m + d = n.toNat → GInv n.toNat (famOf l) x m → cmD t (famOf l) d x ≤ 1000
  | 0, m, x, _, _ => by show (-10000 : Int) ≤ 1000; omega
  | d + 1, m, x, hd, hG => by
    obtain ⟨n1, n7, _⟩ := isSpaceB_parts hS
    have hx128 := hG.x128 (n := n.toNat) (by omega)
    have hne : x ≠ 2 ^ n.toNat - 1 := fun e => by
      have := (hG.full (by omega)).1 e
      omega
    obtain ⟨b, _, hb, hG2, _⟩ := greedy_next hS (fun _ => 0) hG hne
    have hbx : x.testBit b = false := by
      cases e : x.testBit b with
      | false => rfl
      | true =>
        have h1 : x ||| 2 ^ b = x := by
          apply Nat.eq_of_testBit_eq
          intro j
          rw [Nat.testBit_or, Nat.testBit_two_pow]
          by_cases hj : b = j
          · subst hj; rw [e]; rfl
          · rw [decide_eq_false hj, Bool.or_false]
        have h2 := hG2.cnt
        rw [h1, hG.cnt] at h2
        omega
    have hob : b ∈ itemsN (outerF (famOf l) x) := (itemsN_mem _ _).2 ⟨by omega, by
      unfold outerF
      rw [maskOf_bit _ _ (by omega), hbx, hG2.mem]
      rfl⟩
    have hc := costV_ge hf (by omega) x (b : Int) (by omega) (by omega)
    have ih := cmD_lt hS htl hf d (m + 1) (x ||| 2 ^ b) (by omega) hG2
    have key : ∀ (I : List Nat) (a : Int), I.foldl (stepC t (cmD t (famOf l) d) x) a ≤ a ∧ ∀ i ∈ I, I.foldl (stepC t (cmD t (famOf l) d) x) a ≤ max (costV t x (i : Int)) (cmD t (famOf l) d (x ||| 2 ^ i)) := by
      intro I
      induction I with
      | nil => exact fun a => ⟨Int.le_refl _, fun i hi => by cases hi⟩
      | cons j I ihI =>
        intro a
        obtain ⟨h1, h2⟩ := ihI (stepC t (cmD t (famOf l) d) x a j)
        have h3 : stepC t (cmD t (famOf l) d) x a j = min a (max (costV t x (j : Int)) (cmD t (famOf l) d (x ||| 2 ^ j))) := rfl
        rw [List.foldl_cons]
        refine ⟨by omega, fun i hi => ?_⟩
        rcases List.mem_cons.1 hi with rfl | hi
        · omega
        · exact h2 i hi
    have := (key _ 10000).2 b hob
    show List.foldl _ _ _ ≤ _
    omega
theorem bestCostPlain_both (n : Int) (l : List Int) (t : List S83) (hlen : l.length < 1048577) (ht : t.length < 1048577) : ∃ r, Ev (fun k => spec_BestCostPlain.f k n l t) r ∧ Ev (fun k => impl_BestCostPlain.f k n l t) r := by
  unfold spec_BestCostPlain.f impl_BestCostPlain.f
  cases hg : isSpaceB n l && areTasksB t n with
  | false =>
    refine ⟨(0, false), ?_, ?_⟩
    · refine Ev.bind (grGiven_ok n l t (by omega) (by omega)) ?_
      exact Ev.to (fun k => by rw [hg, if_neg (by decide)]) (Ev.const rfl)
    · refine Ev.bindc (together_ok n l t) ?_
      exact Ev.to (fun k => by rw [hg, if_neg (by decide)]) (Ev.const rfl)
  | true =>
    have hS : isSpaceB n l = true := by
      cases h : isSpaceB n l with
      | true => rfl
      | false => rw [h] at hg; cases hg
    have hT : areTasksB t n = true := by rw [hS] at hg; exact hg
    obtain ⟨n1, n7, htl, hf⟩ := areTasks_facts hT
    have hll := isSpaceB_len hS
    have hr := risingB_rise (isSpaceB_parts hS).2.2.2.1
    have hG0 : GInv n.toNat (famOf l) 0 0 := GInv.start hS
    have hl0 : 0 < l.length := List.length_pos_of_mem (fam_mem hG0.mem)
    refine ⟨(cmD t (famOf l) n.toNat 0, true), ?_, ?_⟩
    · refine Ev.bind (grGiven_ok n l t (by omega) (by omega)) ?_
      refine Ev.to (fun k => by rw [hg, if_pos rfl]) ?_
      obtain ⟨T, h1, h2, h3⟩ := gt_l0 hS htl hf (l.length - 1) ((List.replicate l.length z79).set (l.length - 1) ⟨-10000, 1⟩) (by omega) (by rw [List.length_set, List.length_replicate]) (fun j hj hjl m' hm' => by
        obtain rfl : j = l.length - 1 := by omega
        have hall := (isSpaceB_parts hS).2.2.2.2.2.1
        rw [getD_pow l n1 n7, decide_eq_true_eq] at hall
        obtain ⟨q, hq, e⟩ := List.mem_iff_getElem.1 hall
        have hmem := rd_mem (l := l) (i := ((l.length - 1 : Nat) : Int)) (by omega) (by omega)
        have h3 := (isSpaceB_mem hS _ hmem).2
        have h4 : rd l ((l.length - 1 : Nat) : Int) = 2 ^ n.toNat - 1 := by
          rcases Nat.lt_or_ge q (l.length - 1) with h | h
          · have := hr q (l.length - 1) h (by omega)
            rw [rd_get hq, e] at this
            omega
          · obtain rfl : q = l.length - 1 := by omega
            rw [rd_get hq, e]
        rw [h4, ← toNat_pow (n := n) rfl] at hm'
        rw [h4]
        have hm2 := (hm'.full (by omega)).1 rfl
        rw [hm2, Nat.sub_self]
        show (rd_T79 _ _).f0 = (-10000 : Int)
        unfold rd_T79
        rw [Int.toNat_natCast, List.getD_eq_getElem?_getD, List.getElem?_set, if_pos rfl, if_pos (by rw [List.length_replicate]; omega)]
        rfl)
      refine Ev.bind (show Ev (fun k => spec_grTable.f k n l t 10000) T from ?_) ?_
      · unfold spec_grTable.f
        have w1 : wrap64 ((l.length : Int) - 1) = ((l.length - 1 : Nat) : Int) := by rw [wrap_in (by omega) (by omega)]; omega
        have w2 : wrap64 ((l.length : Int) - 2) = ((l.length - 1 : Nat) : Int) - 1 := by rw [wrap_in (by omega) (by omega)]; omega
        refine Ev.to (fun k => by rw [if_pos (by omega), if_pos (by omega), Int.toNat_natCast]) ?_
        refine Ev.bindc rfl ?_
        refine Ev.to (fun k => by rw [List.length_replicate, w1, w2, if_pos (by omega), if_pos (by omega), Int.toNat_natCast]) ?_
        exact h1
      · exact Ev.to (fun k => by rw [if_pos (by omega), h3]) (Ev.const rfl)
    · refine Ev.bindc (together_ok n l t) ?_
      refine Ev.to (fun k => by rw [hg, if_pos rfl]) ?_
      have hw := ww hS htl hf n.toNat 0 0 [] (0, false) (by omega) hG0 rfl rfl (fun i hi => by cases hi) (by show (-10000 : Int) ≤ -10000 ∧ (-10000 : Int) ≤ 1000; omega)
      have hcm := cmD_lt hS htl hf n.toNat 0 0 (by omega) hG0
      have hfin : updI (0, false) (max (costR t [] 0 (-10000)) (cmD t (famOf l) n.toNat 0)) = (max (-10000) (cmD t (famOf l) n.toNat 0), true) := by
        show updI (0, false) (max (-10000) (cmD t (famOf l) n.toNat 0)) = _
        exact if_pos ⟨by omega, .inl rfl⟩
      rw [hfin] at hw
      have hge : -10000 ≤ cmD t (famOf l) n.toNat 0 := cmD_ge t (famOf l) n.toNat 0
      rw [show max (-10000) (cmD t (famOf l) n.toNat 0) = cmD t (famOf l) n.toNat 0 by omega] at hw
      refine Ev.bind (show Ev (fun k => impl_Space_words.run k n l (bestD k t) (0, false)) (cmD t (famOf l) n.toNat 0, true) from ?_) (Ev.const rfl)
      unfold impl_Space_words.run
      refine Ev.bindc (all_ok n l (by omega) n7) ?_
      refine Ev.bindc (family_f hS) ?_
      refine Ev.bindc (show slices_Clone_int_int.f [] = some [] from ?_) ?_
      · unfold slices_Clone_int_int.f
        rw [if_pos (by simp)]
      · refine Ev.bind (show Ev (fun k => impl_Space_setOf.f k n l []) (0, true) from ?_) ?_
        · unfold impl_Space_setOf.f
          refine Ev.bindc (family_f hS) ?_
          exact Ev.succ (fun k => by simp only [impl_Space_setOf.l0]; rw [if_neg (by simp)]) (Ev.const rfl)
        · exact Ev.bind (Ev2.diag hw) (Ev.const rfl)
theorem FnExactBestCostPlain : PureFnExactBestCostPlain := by
  intro n0 l0 l1 _ _ hl0 _ hl1
  refine Ev.rounds ?_
  unfold laws_FnExactBestCostPlain.f
  by_cases hb0 : (1048576 : Int) < l0.length
  · refine Ev.bindc (szSpace_over n0 l0 _ (by omega) hl0 hb0 (by omega)) ?_
    exact Ev.to (fun k => by rw [if_pos (by decide)]) (Ev.const rfl)
  · refine Ev.bindc (szSpace_fits n0 l0 _ (by omega) (by omega)) ?_
    refine Ev.to (fun k => by rw [if_neg (by omega)]) ?_
    by_cases hb1 : (1048576 - l0.length : Int) < l1.length
    · refine Ev.bindc (szTaskS_over l1 _ (by omega) hl1 hb1 (by omega)) ?_
      exact Ev.to (fun k => by rw [if_pos (by decide)]) (Ev.const rfl)
    · refine Ev.bindc (szTaskS_fits l1 _ (by omega) (by omega)) ?_
      refine Ev.to (fun k => by rw [if_neg (by omega)]) ?_
      have hm1 : (l1.map taskOf).length = l1.length := List.length_map _
      obtain ⟨⟨r0, r1⟩, h1, h2⟩ := bestCostPlain_both n0 l0 (l1.map taskOf) (by omega) (by omega)
      have a0_ := toSpace_ok n0 l0 (by omega)
      have e0_ := eqSpace_refl n0 l0 (by omega)
      have a1_ := toTaskS_ok l1 (by omega)
      have e1_ := eqTaskS_refl (l1.map taskOf) (by omega)
      repeat (first | exact Ev.const rfl | (with_reducible refine Ev.bind h1 ?_) | (with_reducible refine Ev.bind h2 ?_) | (with_reducible refine Ev.bind a0_ ?_) | (with_reducible refine Ev.bind e0_ ?_) | (with_reducible refine Ev.bind a1_ ?_) | (with_reducible refine Ev.bind e1_ ?_) | refine Ev.to (fun k => by rw [if_pos rfl]) ?_ | refine Ev.to (fun k => by rw [if_neg (by omega)]) ?_ | refine Ev.to (fun k => by rw [if_neg (by simp)]) ?_ | refine Ev.succ (fun k => by simp only [laws_FnExactBestCostPlain.j0]; rw [if_neg (by simp)]) ?_ | refine Ev.succ (fun k => by simp only [laws_FnExactBestCostPlain.j1]; rw [if_neg (by simp)]) ?_ | refine Ev.succ (fun k => by simp only [laws_FnExactBestCostPlain.j2]; rw [if_neg (by simp)]) ?_ | refine Ev.succ (fun k => by simp only [laws_FnExactBestCostPlain.j3]; rw [if_neg (by simp)]) ?_)


end Go.Proofs.Ytkepeflplmkcmaa.Q
