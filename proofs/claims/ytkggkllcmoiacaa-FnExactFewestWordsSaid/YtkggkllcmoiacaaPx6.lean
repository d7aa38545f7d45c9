/- Contracts of functions that the laws reach: a call returns what the plain Lean function of the same name tells. Conditions: those of each theorem. Made by gen.py, a program of this session, over the print of the translation. -/
import Derived.Test.YtkggkllcmoiacaaPx0
import Derived.Test.YtkggkllcmoiacaaPx1
import Derived.Test.YtkggkllcmoiacaaPx2
import Derived.Test.YtkggkllcmoiacaaPx3
import Derived.Test.YtkggkllcmoiacaaPx4
import Derived.Test.YtkggkllcmoiacaaPx5
namespace Go.Proofs.Ytkggkllcmoiacaa.Q
open Go.RowKit Go.Proofs.YtkggkllcmoiacaaW.PrintWords Go.Proofs.YtkggkllcmoiacaaW.PrintLast Go.Proofs.YtkggkllcmoiacaaW.PrintMore
attribute [local go_sem] max2_int min2_int max_two min_two max_three min_three max_four min_four   -- for this text's walks alone
set_option linter.unusedVariables false
set_option linter.unusedSimpArgs false

-- HAND impl_followers_1: function 59
def partV (x y : Int) : Bool := Go.bits .andNot .i64 x y == 0
/-- What follows in chains: one more is put in its place, from a place u on. (Fuel; what is tried; what follows.) -/
def putL (s : List Int) : Nat → List Bool → List Int → Int → Int → Option (Bool × List Bool × List Int)
  | 0, _, _, _, _ => none
  | k + 1, t, o, v, u => if 0 ≤ v ∧ v < (s.length : Int) then (if u < (s.length : Int) then
      (if u = v then putL s k t o v (u + 1) else if partV (rd s u) (rd s v) = false then putL s k t o v (u + 1) else if rdOf false t u = true then putL s k t o v (u + 1)
       else if rd o u < 0 then some (true, t.set u.toNat true, o.set u.toNat v)
       else (putL s k (t.set u.toNat true) o (rd o u) 0).bind fun r => if r.1 = true then some (true, r.2.1, r.2.2.set u.toNat v) else putL s k r.2.1 r.2.2 v (u + 1))
    else some (false, t, o)) else none
theorem putL_len (s : List Int) : ∀ (k : Nat) (t : List Bool) (o : List Int) (v u : Int) (r : Bool × List Bool × List Int), putL s k t o v u = some r → r.2.1.length = t.length ∧ r.2.2.length = o.length
  | 0, t, o, v, u, r, h => by simp [putL] at h
  | k + 1, t, o, v, u, r, h => by
    unfold putL at h
    split at h
    · split at h
      · split at h
        · exact putL_len s k _ _ _ _ _ h
        · split at h
          · exact putL_len s k _ _ _ _ _ h
          · split at h
            · exact putL_len s k _ _ _ _ _ h
            · split at h
              · obtain rfl := Option.some.inj h
                exact ⟨List.length_set .., List.length_set ..⟩
              · obtain ⟨r1, h1, h2⟩ := Option.bind_eq_some_iff.1 h
                have i1 := putL_len s k _ _ _ _ _ h1
                rw [List.length_set] at i1
                split at h2
                · obtain rfl := Option.some.inj h2
                  exact ⟨i1.1, by rw [← i1.2]; exact List.length_set ..⟩
                · have i2 := putL_len s k _ _ _ _ _ h2
                  exact ⟨i2.1.trans i1.1, i2.2.trans i1.2⟩
      · obtain rfl := Option.some.inj h
        exact ⟨rfl, rfl⟩
    · cases h
/-- The four variables in memory, the two rows of the call's own. -/
structure PutS (w0 w : World) (g1 g2 g3 g4 : Nat) (A : Option Addr) (c : Nat) (s : List Int) (bt ct bo co : Nat) (t : List Bool) (o : List Int) : Prop where
  bel : Below w0.heap.size w0 w
  b1 : w.heap[g1]? = some (.cells #[.slice A s.length c] 22 (0, 0))
  b2 : w.heap[g2]? = some (.cells #[.slice (some ⟨bt, 0, none⟩) s.length ct] 59 (0, 0))
  b3 : w.heap[g3]? = some (.cells #[.slice (some ⟨bo, 0, none⟩) s.length co] 22 (0, 0))
  b4 : w.heap[g4]? = some (.cells #[.func (.func 59) #[] #[.pointer (some ⟨g1, 0, none⟩), .pointer (some ⟨g2, 0, none⟩), .pointer (some ⟨g3, 0, none⟩), .pointer (some ⟨g4, 0, none⟩)]] 48 (0, 0))
  rt : Kd.R Kd.bool 4 w w0.heap.size (fun _ => True) (.slice (some ⟨bt, 0, none⟩) s.length ct) t
  ro : Kd.R (Kd.int .i64) 3 w w0.heap.size (fun _ => True) (.slice (some ⟨bo, 0, none⟩) s.length co) o
section
variable {w0 w W : World} {g1 g2 g3 g4 : Nat} {A : Option Addr} {c : Nat} {s : List Int} {bt ct bo co : Nat} {t : List Bool} {o : List Int}
theorem PutS.below (h : PutS w0 w g1 g2 g3 g4 A c s bt ct bo co t o) (hb : Below w.heap.size w W) : PutS w0 W g1 g2 g3 g4 A c s bt ct bo co t o :=
  ⟨below_step h.bel hb, blk_below h.b1 hb, blk_below h.b2 hb, blk_below h.b3 hb, blk_below h.b4 hb, Kd.R_below h.rt hb, Kd.R_below h.ro hb⟩
theorem PutS.drewN (h : PutS w0 w g1 g2 g3 g4 A c s bt ct bo co t o) (m : Nat) : PutS w0 (w.drewN m) g1 g2 g3 g4 A c s bt ct bo co t o := h.below (pw_below_drewN (Below.refl _ _) m)
theorem PutS.nebt (h : PutS w0 w g1 g2 g3 g4 A c s bt ct bo co t o) {g tp : Nat} {cs : Array Value} (hb : w.heap[g]? = some (.cells cs tp (0, 0))) (ht : 4 ≠ tp) : g ≠ bt := fun e => Kd.R_ne h.rt hb ht (by rw [e]; rfl)
theorem PutS.nebo (h : PutS w0 w g1 g2 g3 g4 A c s bt ct bo co t o) {g tp : Nat} {cs : Array Value} (hb : w.heap[g]? = some (.cells cs tp (0, 0))) (ht : 3 ≠ tp) : g ≠ bo := fun e => Kd.R_ne h.ro hb ht (by rw [e]; rfl)
theorem PutS.two (h : PutS w0 w g1 g2 g3 g4 A c s bt ct bo co t o) : bt ≠ bo := by
  obtain ⟨cs, hcs⟩ := Kd.R_typed h.rt bt rfl
  exact h.nebo hcs (by decide)
theorem PutS.setT (h : PutS w0 w g1 g2 g3 g4 A c s bt ct bo co t o) (i : Int) : PutS w0 (w.setCell ⟨bt, i.toNat, none⟩ (.bool true)) g1 g2 g3 g4 A c s bt ct bo co (t.set i.toNat true) o :=
  ⟨below_set h.bel (Kd.R_base h.rt bt rfl), blk_far h.b1 (p := ⟨bt, i.toNat, none⟩) (h.nebt h.b1 (by decide)) _, blk_far h.b2 (p := ⟨bt, i.toNat, none⟩) (h.nebt h.b2 (by decide)) _, blk_far h.b3 (p := ⟨bt, i.toNat, none⟩) (h.nebt h.b3 (by decide)) _, blk_far h.b4 (p := ⟨bt, i.toNat, none⟩) (h.nebt h.b4 (by decide)) _, Kd.R_putn h.rt i true,
    Kd.R_mono (Kd.R_far (p := ⟨bt, i.toNat, none⟩) (Kd.R_tight rfl h.ro) (fun k hk e => h.two (Option.some.inj (show some bt = some bo from by rw [show bt = k from e.symm]; exact hk))) _) (fun _ _ => trivial)⟩
theorem PutS.setO (h : PutS w0 w g1 g2 g3 g4 A c s bt ct bo co t o) (i x : Int) : PutS w0 (w.setCell ⟨bo, i.toNat, none⟩ (.int .i64 x)) g1 g2 g3 g4 A c s bt ct bo co t (o.set i.toNat x) :=
  ⟨below_set h.bel (Kd.R_base h.ro bo rfl), blk_far h.b1 (p := ⟨bo, i.toNat, none⟩) (h.nebo h.b1 (by decide)) _, blk_far h.b2 (p := ⟨bo, i.toNat, none⟩) (h.nebo h.b2 (by decide)) _, blk_far h.b3 (p := ⟨bo, i.toNat, none⟩) (h.nebo h.b3 (by decide)) _, blk_far h.b4 (p := ⟨bo, i.toNat, none⟩) (h.nebo h.b4 (by decide)) _,
    Kd.R_mono (Kd.R_far (p := ⟨bo, i.toNat, none⟩) (Kd.R_tight rfl h.rt) (fun k hk e => h.two (Option.some.inj (show some bt = some bo from by rw [show bo = k from e.symm]; exact hk.symm))) _) (fun _ _ => trivial), Kd.R_putn h.ro i x⟩
theorem PutS.tlen (h : PutS w0 w g1 g2 g3 g4 A c s bt ct bo co t o) : t.length = s.length := (Kd.R_reads' h.rt).1.symm
theorem PutS.olen (h : PutS w0 w g1 g2 g3 g4 A c s bt ct bo co t o) : o.length = s.length := (Kd.R_reads' h.ro).1.symm
end
set_option maxHeartbeats 2000000 in
set_option maxRecDepth 100000 in
theorem impl_followers_1.calls (A : Option Addr) (c : Nat) (s : List Int) (g1 g2 g3 g4 bt ct bo co : Nat) (w0 : World) (hs : Kd.C (Kd.int .i64) w0 A s.length s) (hc : s.length ≤ c) : ∀ (k : Nat) (t : List Bool) (o : List Int) (v : Int) (r : Bool) (t' : List Bool) (o' : List Int) (w : World) (hS : PutS w0 w g1 g2 g3 g4 A c s bt ct bo co t o) (h : putL s k t o v 0 = some (r, t', o')),
    Calls Try.prog 59 #[.int .i64 v, .pointer (some ⟨g1, 0, none⟩), .pointer (some ⟨g2, 0, none⟩), .pointer (some ⟨g3, 0, none⟩), .pointer (some ⟨g4, 0, none⟩)] w fun e w' => e = .returned (.bool r) ∧ PutS w0 w' g1 g2 g3 g4 A c s bt ct bo co t' o' := by
  have HSR := Aside0.mk hs
  have hmx := Kd.C_max hs
  have HC := Aside0.mk hc
  clear hs hc
  intro k
  induction k using Nat.strongRecOn with
  | ind k ih =>
  intro t o v r t' o' w hS h
  have HS := Aside0.mk hS
  have H' := Aside0.mk h
  have IH := Aside0.mk ih
  clear hS h ih
  have q1 : w.cell? ⟨g1, 0, none⟩ = some (.slice A s.length c) := (blk_cell HS.out.b1 0).trans rfl
  go_enter Try.func59, Try.ntmps59
  go_wp2
  clear q1
  go_loopg [11] k (fun kq v11 wr => ∃ (u : Int) (t1 : List Bool) (o1 : List Int), v11 = .int .i64 u ∧ Aside0 (0 ≤ u) ∧ Aside0 (putL s kq t1 o1 v u = some (r, t', o')) ∧ Aside0 (kq ≤ k) ∧ Aside0 (PutS w0 wr g1 g2 g3 g4 A c s bt ct bo co t1 o1))
  case atStart => exact ⟨0, t, o, rfl, ⟨Int.le_refl _⟩, H', ⟨Nat.le_refl _⟩, HS⟩
  case round =>
    clear H' HS
    obtain ⟨u, t1, o1, rfl, hu, HA, HK, HS⟩ := hrel
    cases gk with
    | zero => exact absurd HA.out (by simp [putL])
    | succ kn =>
      have H := HA.out
      clear HA
      unfold putL at H
      have hu0 := hu.out
      by_cases hv : 0 ≤ v ∧ v < (s.length : Int)
      · rw [if_pos hv] at H
        obtain ⟨hv0, hv1⟩ := hv
        by_cases hlt : u < (s.length : Int)
        · rw [if_pos hlt] at H
          have q1 : wr.cell? ⟨g1, 0, none⟩ = some (.slice A s.length c) := (blk_cell HS.out.b1 0).trans rfl
          have HRD := Aside0.mk (Kd.C_below HSR.out HS.out.bel)
          obtain ⟨ad, e, hcu⟩ := Kd.at_int HRD.out u hu0 hlt
          cases e
          obtain ⟨ad2, e2, hcv⟩ := Kd.at_int HRD.out v hv0 hv1
          cases e2
          have hHRD := HRD
          clear HRD
          obtain ⟨x, hx⟩ : ∃ x, x = rd s u := ⟨_, rfl⟩
          obtain ⟨y, hy⟩ : ∃ y, y = rd s v := ⟨_, rfl⟩
          rw [← hx] at H hcu
          rw [← hy] at H hcv
          clear hx hy
          by_cases c1 : u = v
          · rw [if_pos c1] at H
            have H' := Aside0.mk H
            have c1b : (u == v) = true := beq_iff_eq.mpr c1
            clear H
            go_wp2
            go_roundg kn
            case measure => have := HK.out; omega
            case rel => exact ⟨u + 1, t1, o1, by first | rfl | go_num, ⟨by omega⟩, H', ⟨by have := HK.out; omega⟩, HS⟩
          · rw [if_neg c1] at H
            have c1b : (u == v) = false := beq_eq_false_iff_ne.mpr c1
            cases hp : partV x y with
            | false =>
              rw [hp, if_pos rfl] at H
              have H' := Aside0.mk H
              have HP := Aside0.mk (show impl_part.f x y = some false from congrArg some hp)
              clear H hp
              go_wp2_with (first | (go_at_call 60; (with_reducible refine (impl_part.calls x y false _ HP.out).mono ?_); rintro e w' ⟨rfl, ⟨nd, rfl⟩⟩; (try first | exact ⟨rfl, _, World.drewN_drewN _ _ _⟩ | exact ⟨rfl, _, Eq.trans (World.drewN_drewN _ _ _) (congrArg (World.drewN _) (Nat.add_assoc _ _ _))⟩)))
              go_roundg kn
              case measure => have := HK.out; omega
              case rel => exact ⟨u + 1, t1, o1, by first | rfl | go_num, ⟨by omega⟩, H', ⟨by have := HK.out; omega⟩, ⟨by first | exact HS.out | exact HS.out.drewN _⟩⟩
            | true =>
              rw [hp, if_neg (by decide)] at H
              have HP := Aside0.mk (show impl_part.f x y = some true from congrArg some hp)
              clear hp
              cases hb : rdOf false t1 u with
              | true =>
                rw [hb, if_pos rfl] at H
                have H' := Aside0.mk H
                have HBT := Aside0.mk hb
                clear H hb
                go_wp2_with (go_at_call 60; (with_reducible refine (impl_part.calls x y true _ HP.out).mono ?_); rintro e w' ⟨rfl, ⟨nd, rfl⟩⟩; have HS2 := Aside0.mk (HS.out.drewN nd); generalize World.drewN wr nd = W2 at *; have q2 : W2.cell? ⟨g2, 0, none⟩ = some (.slice (some ⟨bt, 0, none⟩) s.length ct) := (blk_cell HS2.out.b2 0).trans rfl; obtain ⟨hct, hft⟩ := Kd.R_celln false HS2.out.rt u hu0 hlt; rw [HBT.out] at hct)
                go_roundg kn
                case measure => have := HK.out; omega
                case rel => exact ⟨u + 1, t1, o1, by first | rfl | go_num, ⟨by omega⟩, H', ⟨by have := HK.out; omega⟩, HS2⟩
              | false =>
                rw [hb, if_neg (by decide)] at H
                have HBT := Aside0.mk hb
                clear hb
                by_cases hn : rd o1 u < 0
                · rw [if_pos hn] at H
                  obtain ⟨rfl, rfl, rfl⟩ : true = r ∧ t1.set u.toNat true = t' ∧ o1.set u.toNat v = o' := by simpa using H
                  clear H
                  go_wp2_with (go_at_call 60; (with_reducible refine (impl_part.calls x y true _ HP.out).mono ?_); rintro e w' ⟨rfl, ⟨nd, rfl⟩⟩; have HS2 := Aside0.mk (HS.out.drewN nd); generalize World.drewN wr nd = W2 at *; have q2 : W2.cell? ⟨g2, 0, none⟩ = some (.slice (some ⟨bt, 0, none⟩) s.length ct) := (blk_cell HS2.out.b2 0).trans rfl; obtain ⟨hct, hft⟩ := Kd.R_celln false HS2.out.rt u hu0 hlt; rw [HBT.out] at hct)
                  have HS3 := Aside0.mk (HS2.out.setT u)
                  generalize World.setCell W2 ⟨bt, u.toNat, none⟩ (.bool true) = W3 at *
                  have q3 : W3.cell? ⟨g3, 0, none⟩ = some (.slice (some ⟨bo, 0, none⟩) s.length co) := (blk_cell HS3.out.b3 0).trans rfl
                  obtain ⟨hco, hfo⟩ := Kd.R_celln 0 HS3.out.ro u hu0 hlt
                  rw [show rdOf 0 o1 u = rd o1 u from rfl] at hco
                  generalize rd o1 u = z at *
                  have hzb : decide (z < 0) = true := decide_eq_true hn
                  go_quiet (fail)
                  go_wp2
                  go_ret
                  exact ⟨rfl, by first | exact HS3.out.setO u v | exact (HS3.out.drewN _).setO u v⟩
                · rw [if_neg hn] at H
                  obtain ⟨⟨r1, t2, o2⟩, hrec, H⟩ := Option.bind_eq_some_iff.1 H
                  have HREC := Aside0.mk hrec
                  have HH := Aside0.mk H
                  clear H hrec
                  go_wp2_with (go_at_call 60; (with_reducible refine (impl_part.calls x y true _ HP.out).mono ?_); rintro e w' ⟨rfl, ⟨nd, rfl⟩⟩; have HS2 := Aside0.mk (HS.out.drewN nd); generalize World.drewN wr nd = W2 at *; have q2 : W2.cell? ⟨g2, 0, none⟩ = some (.slice (some ⟨bt, 0, none⟩) s.length ct) := (blk_cell HS2.out.b2 0).trans rfl; obtain ⟨hct, hft⟩ := Kd.R_celln false HS2.out.rt u hu0 hlt; rw [HBT.out] at hct)
                  have HS3 := Aside0.mk (HS2.out.setT u)
                  generalize World.setCell W2 ⟨bt, u.toNat, none⟩ (.bool true) = W3 at *
                  have q3 : W3.cell? ⟨g3, 0, none⟩ = some (.slice (some ⟨bo, 0, none⟩) s.length co) := (blk_cell HS3.out.b3 0).trans rfl
                  have q4 : W3.cell? ⟨g4, 0, none⟩ = some (.func (.func 59) #[] #[.pointer (some ⟨g1, 0, none⟩), .pointer (some ⟨g2, 0, none⟩), .pointer (some ⟨g3, 0, none⟩), .pointer (some ⟨g4, 0, none⟩)]) := (blk_cell HS3.out.b4 0).trans rfl
                  obtain ⟨hco, hfo⟩ := Kd.R_celln 0 HS3.out.ro u hu0 hlt
                  rw [show rdOf 0 o1 u = rd o1 u from rfl] at hco
                  generalize rd o1 u = z at *
                  have hzb : decide (z < 0) = false := decide_eq_false (by omega)
                  go_still_tail 11, (by kernel_rfl)
                  change wpList _ _ _ _ _ W3.drew
                  have HS4 : Aside0 (PutS w0 W3.drew g1 g2 g3 g4 (some ad) c s bt ct bo co (t1.set u.toNat true) o1) := ⟨HS3.out.below (below_drew (Below.refl _ _))⟩
                  generalize World.drew W3 = W4 at *
                  cases r1 with
                  | true =>
                    have H := HH.out
                    rw [if_pos rfl] at H
                    obtain ⟨rfl, rfl, rfl⟩ : true = r ∧ t2 = t' ∧ o2.set u.toNat v = o' := by simpa using H
                    clear H
                    go_wp2_with (go_at_call 59; (refine (IH.out kn (by have := HK.out; omega) (t1.set u.toNat true) o1 z true t2 o2 _ HS4.out HREC.out).mono ?_); rintro e W5 ⟨rfl, hS5⟩; have HS5 := Aside0.mk hS5; have q5 : W5.cell? ⟨g3, 0, none⟩ = some (.slice (some ⟨bo, 0, none⟩) s.length co) := (blk_cell hS5.b3 0).trans rfl; obtain ⟨hco5, hfo5⟩ := Kd.R_celln 0 hS5.ro u hu0 hlt; clear hS5)
                    go_ret
                    exact ⟨rfl, HS5.out.setO u v⟩
                  | false =>
                    have H := HH.out
                    rw [if_neg (by decide)] at H
                    have H' := Aside0.mk H
                    clear H
                    go_wp2_with (go_at_call 59; (refine (IH.out kn (by have := HK.out; omega) (t1.set u.toNat true) o1 z false t2 o2 _ HS4.out HREC.out).mono ?_); rintro e W5 ⟨rfl, hS5⟩; have HS5 := Aside0.mk hS5; clear hS5)
                    go_roundg kn
                    case measure => have := HK.out; omega
                    case rel => exact ⟨u + 1, t2, o2, by first | rfl | go_num, ⟨by omega⟩, H', ⟨by have := HK.out; omega⟩, HS5⟩
        · rw [if_neg hlt] at H
          obtain ⟨rfl, rfl, rfl⟩ : false = r ∧ t1 = t' ∧ o1 = o' := by simpa using H
          clear H
          go_wp2
          go_ret
          exact ⟨rfl, HS.out⟩
      · rw [if_neg hv] at H
        cases H

-- HAND with impl.followers$1+spec.cnGet+spec.cnParts
/-- Both search alike. -/
theorem put_ok {s : List Int} (hsz : s.length < 1048577) (hup : ∀ x y : Nat, x < s.length → y < s.length → x ≠ y → partV (rd s x) (rd s y) = true → x < y) (m d : Nat) (b o : List Int) (t : List Bool) (u v : Nat) (hP : Pair s.length b o) (ht : t.length = s.length) (hv : v < s.length) (hs : 0 ≤ rd b v → rdOf false t (rd b v) = true) (hm : unT t ≤ m) (hd : s.length - u ≤ d) (hu : u ≤ s.length) :
    ∃ (r : Bool) (b' o' : List Int) (t' : List Bool), Ev (fun k => putL s k t o v u) (r, t', o') ∧ Ev (fun k => spec_cnGet.l0 k s b o t v s s.length u) (r, b', o', t') ∧ t'.length = s.length ∧ (∀ y : Nat, rdOf false t y = true → rdOf false t' y = true) ∧ unT t' ≤ unT t ∧ (r = false → b' = b ∧ o' = o) ∧ (r = true → Got s.length v b o t b' o') := by
  have hwu : wrap64 ((u : Int) + 1) = u + 1 := wrap_succ (by omega) (by omega)
  have hv0 : 0 ≤ (v : Int) ∧ (v : Int) < (s.length : Int) := ⟨by omega, by omega⟩
  by_cases hlt : u < s.length
  · have hltz : (u : Int) < (s.length : Int) := by omega
    have cont : ∀ t2 : List Bool, t2.length = s.length → (∀ y : Nat, rdOf false t y = true → rdOf false t2 y = true) → unT t2 ≤ unT t → ∃ (r : Bool) (b' o' : List Int) (t' : List Bool), Ev (fun k => putL s k t2 o v ((u : Int) + 1)) (r, t', o') ∧ Ev (fun k => spec_cnGet.l0 k s b o t2 v s s.length ((u : Int) + 1)) (r, b', o', t') ∧ t'.length = s.length ∧ (∀ y : Nat, rdOf false t y = true → rdOf false t' y = true) ∧ unT t' ≤ unT t ∧ (r = false → b' = b ∧ o' = o) ∧ (r = true → Got s.length v b o t b' o') := by
      intro t2 hl2 hs2 hm2
      obtain ⟨r, b', o', t', h1, h2, h3, h4, h5, h6, h7⟩ := put_ok hsz hup m (d - 1) b o t2 (u + 1) v hP hl2 hv (fun h0 => by
        obtain ⟨j, hj, e⟩ := nat_of h0 (hP.rb v hv).2
        have := hs h0
        rw [e] at this ⊢
        exact hs2 j this) (by omega) (by omega) (by omega)
      exact ⟨r, b', o', t', h1, h2, h3, fun y hy => h4 y (hs2 y hy), by omega, h6, fun h => (h7 h).mono hP hs2⟩
    by_cases huv : (u : Int) = (v : Int)
    · obtain ⟨r, b', o', t', h1, h2, h3⟩ := cont t ht (fun _ h => h) (Nat.le_refl _)
      exact ⟨r, b', o', t', Ev.succ (fun k => by simp only [putL]; rw [if_pos hv0, if_pos hltz, if_pos huv]) h1, Ev.succ (fun k => by simp only [spec_cnGet.l0]; rw [if_pos hltz, if_pos (by omega), if_pos hltz, if_pos huv.symm]) (Ev.succ (fun k => by simp only [spec_cnGet.j1, if_true, hwu]) h2), h3⟩
    · have hvu : ¬ (v : Int) = (u : Int) := fun e => huv e.symm
      cases hp : partV (rd s u) (rd s v) with
      | false =>
        obtain ⟨r, b', o', t', h1, h2, h3⟩ := cont t ht (fun _ h => h) (Nat.le_refl _)
        have hcn : spec_cnParts.f (rd s u) (rd s v) = some false := congrArg some hp
        refine ⟨r, b', o', t', Ev.succ (fun k => by simp only [putL]; rw [if_pos hv0, if_pos hltz, if_neg huv, if_pos hp]) h1, Ev.succ (fun k => by simp only [spec_cnGet.l0]; rw [if_pos hltz, if_pos (by omega), if_pos hltz, if_neg hvu, if_pos hv0.1, if_pos hv0.2]) (Ev.bindc hcn (Ev.to (fun k => by rw [if_neg (by decide)]) (Ev.succ (fun k => by simp only [spec_cnGet.j1, if_true, hwu]) h2))), h3⟩
      | true =>
        have hcn : spec_cnParts.f (rd s u) (rd s v) = some true := congrArg some hp
        have hult : (u : Int) < (t.length : Int) := by omega
        have hpn : ¬ partV (rd s u) (rd s v) = false := by rw [hp]; decide
        cases hb : rdOf false t (u : Int) with
        | true =>
          obtain ⟨r, b', o', t', h1, h2, h3⟩ := cont t ht (fun _ h => h) (Nat.le_refl _)
          refine ⟨r, b', o', t', Ev.succ (fun k => by simp only [putL]; rw [if_pos hv0, if_pos hltz, if_neg huv, if_neg hpn, if_pos hb]) h1, Ev.succ (fun k => by simp only [spec_cnGet.l0]; rw [if_pos hltz, if_pos (by omega), if_pos hltz, if_neg hvu, if_pos hv0.1, if_pos hv0.2]) (Ev.bindc hcn (Ev.to (fun k => by rw [if_pos rfl, if_pos hult, hb]) (Ev.succ (fun k => by simp only [spec_cnGet.j1, if_true, hwu]) h2))), h3⟩
        | false =>
          have hbn : ¬ rdOf false t (u : Int) = true := by rw [hb]; decide
          have huv2 : u < v := hup u v hlt hv (fun e => huv (by rw [e])) hp
          have huto : (u : Int) < (o.length : Int) := by rw [hP.lo]; exact hltz
          have hvb : (v : Int) < (b.length : Int) := by rw [hP.lb]; exact hv0.2
          have hsu := unT_set (t := t) (i := u) (by omega) hb
          have hset : ∀ y : Nat, rdOf false t y = true → rdOf false (t.set u true) y = true := fun y hy => tset_up (by omega) hy
          by_cases ho : rd o u < 0
          · refine ⟨true, b.set v u, o.set u v, t.set u true, Ev.succ (fun k => by simp only [putL]; rw [if_pos hv0, if_pos hltz, if_neg huv, if_neg hpn, if_neg hbn, if_pos ho]) (Ev.const (by rw [Int.toNat_natCast])), Ev.succ (fun k => by simp only [spec_cnGet.l0]; rw [if_pos hltz, if_pos (by omega), if_pos hltz, if_neg hvu, if_pos hv0.1, if_pos hv0.2]) (Ev.bindc hcn (Ev.to (fun k => by rw [if_pos rfl, if_pos hult, hb]) (Ev.succ (fun k => by simp only [spec_cnGet.j1]; rw [if_neg (by decide), if_pos (by omega), if_pos hult]) (Ev.bindc rfl (Ev.to (fun k => by rw [if_pos huto, if_pos ho, if_pos hv0.1, if_pos hvb]) (Ev.const (by rw [Int.toNat_natCast, Int.toNat_natCast]))))))), by rw [List.length_set]; exact ht, hset, by omega, (fun h => Bool.noConfusion h), fun _ => got_base hP hv hlt ht hb hs ho huv2⟩
          · obtain ⟨i, hi, hoi⟩ := nat_of (x := rd o u) (by omega) (hP.ro u hlt).2
            have hbi : rd b i = (u : Int) := (hP.bo i u hi hlt).2 hoi
            have hm1 : 0 < m := by omega
            obtain ⟨r1, b1, o1, t1, e1, e2, l1, s1, u1, f1, g1⟩ := put_ok hsz hup (m - 1) s.length b o (t.set u true) 0 i hP (by rw [List.length_set]; exact ht) hi (fun _ => by rw [hbi, tset t (by omega), if_pos rfl]) (by omega) (by omega) (by omega)
            have e2' : Ev (fun k => spec_cnGet.f k s b o (t.set u true) i) (r1, b1, o1, t1) := Ev.succ (fun k => by simp only [spec_cnGet.f]; rfl) e2
            have E1 : ∀ {q : Bool × List Bool × List Int}, Ev (fun k => (putL s k (t.set u true) o i 0).bind fun r => if r.1 = true then some (true, r.2.1, r.2.2.set (u : Int).toNat v) else putL s k r.2.1 r.2.2 v ((u : Int) + 1)) q → Ev (fun k => putL s k t o v u) q := fun h => Ev.succ (fun k => by simp only [putL]; rw [if_pos hv0, if_pos hltz, if_neg huv, if_neg hpn, if_neg hbn, if_neg ho, hoi, Int.toNat_natCast]) h
            have E2 : ∀ {q : Bool × List Int × List Int × List Bool}, Ev (fun k => (spec_cnGet.f k s b o (t.set u true) i).bind fun bt110 => (if bt110.1 = true then (if 0 ≤ (v : Int) then (if (v : Int) < (b.length : Int) then (some (true, (bt110.2.1.set (v : Int).toNat u), (bt110.2.2.1.set (u : Int).toNat v), bt110.2.2.2)) else (none)) else (none)) else (spec_cnGet.l0 k s bt110.2.1 bt110.2.2.1 bt110.2.2.2 v s s.length ((u : Int) + 1)))) q → Ev (fun k => spec_cnGet.l0 k s b o t v s s.length u) q := fun h => Ev.succ (fun k => by simp only [spec_cnGet.l0]; rw [if_pos hltz, if_pos (by omega), if_pos hltz, if_neg hvu, if_pos hv0.1, if_pos hv0.2]) (Ev.bindc hcn (Ev.to (fun k => by rw [if_pos rfl, if_pos hult, hb]) (Ev.succ (fun k => by simp only [spec_cnGet.j1]; rw [if_neg (by decide), if_pos (by omega), if_pos hult]) (Ev.bindc rfl (Ev.to (fun k => by rw [if_pos huto, if_neg ho, hoi, hwu, Int.toNat_natCast]) h)))))
            cases r1 with
            | true =>
              refine ⟨true, b1.set v u, o1.set u v, t1, E1 (Ev.bind e1 (Ev.to (fun k => by rw [if_pos rfl]) (Ev.const (by rw [Int.toNat_natCast])))), E2 (Ev.bind e2' (Ev.to (fun k => by rw [if_pos rfl, if_pos hv0.1, if_pos hvb]) (Ev.const (by rw [Int.toNat_natCast, Int.toNat_natCast])))), l1, fun y hy => s1 y (hset y hy), by omega, (fun h => Bool.noConfusion h), fun _ => got_step hP hv hlt hi ht hb hs hoi huv2 (g1 rfl)⟩
            | false =>
              obtain ⟨rfl, rfl⟩ := f1 rfl
              obtain ⟨r, b', o', t', h1, h2, h3⟩ := cont t1 l1 (fun y hy => s1 y (hset y hy)) (by omega)
              exact ⟨r, b', o', t', E1 (Ev.bind e1 (Ev.to (fun k => if_neg Bool.false_ne_true) h1)), E2 (Ev.bind e2' (Ev.to (fun k => if_neg Bool.false_ne_true) h2)), h3⟩
  · obtain rfl : u = s.length := by omega
    exact ⟨false, b, o, t, Ev.succ (fun k => by simp only [putL]; rw [if_pos hv0, if_neg (by omega)]) (Ev.const rfl), Ev.succ (fun k => by simp only [spec_cnGet.l0]; rw [if_neg (by omega)]) (Ev.const rfl), ht, fun _ h => h, Nat.le_refl _, fun _ => ⟨rfl, rfl⟩, (fun h => Bool.noConfusion h)⟩
termination_by (m, d)

-- HAND with impl.part+impl.followers$1
theorem partV_le {x y : Int} (hx : 0 ≤ x ∧ x < 128) (hy : 0 ≤ y ∧ y < 128) (h : partV x y = true) : x ≤ y := by
  unfold partV at h
  rw [beq_iff_eq] at h
  obtain ⟨a, ha⟩ := Int.eq_ofNat_of_zero_le hx.1
  obtain ⟨b, hb⟩ := Int.eq_ofNat_of_zero_le hy.1
  subst ha
  subst hb
  rw [bits_nd a b (by omega) (by omega)] at h
  have h0 : nd a b = 0 := by exact_mod_cast h
  have h1 : a &&& b = a := by
    apply Nat.eq_of_testBit_eq
    intro i
    have := congrArg (fun z => z.testBit i) h0
    simp only [nd_testBit, Nat.zero_testBit] at this
    rw [Nat.testBit_and]
    cases ea : a.testBit i <;> cases eb : b.testBit i <;> simp_all
  have h2 : a &&& b ≤ b := Nat.and_le_right
  omega
theorem parts_up {s : List Int} (hr : Rise s) (hM : ∀ x ∈ s, 0 ≤ x ∧ x < 128) : ∀ x y : Nat, x < s.length → y < s.length → x ≠ y → partV (rd s x) (rd s y) = true → x < y := by
  intro x y hx hy hne h
  have h1 := partV_le (hM _ (rd_mem (by omega) (by omega))) (hM _ (rd_mem (by omega) (by omega))) h
  rcases Nat.lt_or_ge x y with h2 | h2
  · exact h2
  · have := hr y x (by omega) hx
    omega

-- HAND impl_followers: function 47
/-- Each is put once: so many are still to go, from one on. -/
def folL (s : List Int) (k : Nat) : Nat → Int → List Int → Option (List Int)
  | 0, _, o => some o
  | m + 1, v, o => (putL s k (List.replicate s.length false) o v 0).bind fun r => folL s k m (v + 1) r.2.2
theorem folL_len (s : List Int) (k : Nat) : ∀ (m : Nat) (v : Int) (o r : List Int), folL s k m v o = some r → r.length = o.length
  | 0, _, o, r, h => by rw [show o = r from Option.some.inj h]
  | m + 1, v, o, r, h => by
    obtain ⟨r1, h1, h2⟩ := Option.bind_eq_some_iff.1 h
    exact (folL_len s k m _ _ _ h2).trans (putL_len s k _ _ _ _ _ h1).2
def impl_followers.f (k : Nat) (s : List Int) : Option (List Int) := if s.length ≤ 1024 then folL s k s.length 0 (List.replicate s.length (-1)) else none
theorem putL_mono (s : List Int) : ∀ (k : Nat) (t : List Bool) (o : List Int) (v u : Int), LeO (putL s k t o v u) (putL s (k + 1) t o v u)
  | 0, t, o, v, u => LeO.none _
  | k + 1, t, o, v, u => by
    rw [putL, putL]
    refine LeO.ite (LeO.ite (LeO.ite (putL_mono s k _ _ _ _) (LeO.ite (putL_mono s k _ _ _ _) (LeO.ite (putL_mono s k _ _ _ _) (LeO.ite (LeO.refl _) (LeO.bind (putL_mono s k _ _ _ _) fun r => LeO.ite (LeO.refl _) (putL_mono s k _ _ _ _)))))) (LeO.refl _)) (LeO.refl _)
theorem folL_mono (s : List Int) (k : Nat) : ∀ (m : Nat) (v : Int) (o : List Int), LeO (folL s k m v o) (folL s (k + 1) m v o)
  | 0, _, _ => LeO.refl _
  | m + 1, v, o => LeO.bind (putL_mono s k _ _ _ _) fun r => folL_mono s k m _ _
theorem impl_followers.mono (y0 : List Int) (k : Nat) : LeO (impl_followers.f k y0) (impl_followers.f (k + 1) y0) := by
  unfold impl_followers.f
  exact LeO.ite (folL_mono _ _ _ _ _) (LeO.refl _)
theorem R_var {α : Type} {d : Kd α} {e tp base i g : Nat} {W : World} {v : Value} {xs : List α} {cs : Array Value} (h : Kd.R d e W base (fun _ => True) v xs) (hE : d.E = []) (hb : W.heap[g]? = some (.cells cs tp (0, 0))) (ht : e ≠ tp) (u : Value) : Kd.R d e (W.setCell ⟨g, i, none⟩ u) base (fun _ => True) v xs :=
  Kd.R_mono (Kd.R_far (p := ⟨g, i, none⟩) (Kd.R_tight hE h) (fun k hk e1 => Kd.R_ne h hb ht (by rw [show g = k from e1.symm]; exact hk)) u) (fun _ _ => trivial)
/-- What the loop keeps: the two variables in memory, the row of what follows. -/
structure FolS (w W : World) (g1 g3 : Nat) (A : Option Addr) (c : Nat) (s : List Int) (A3 : Option Addr) (c3 : Nat) (o : List Int) : Prop where
  bel : Below w.heap.size w W
  b1 : W.heap[g1]? = some (.cells #[.slice A s.length c] 22 (0, 0))
  b3 : W.heap[g3]? = some (.cells #[.slice A3 s.length c3] 22 (0, 0))
  ne : g1 ≠ g3
  ge1 : w.heap.size ≤ g1
  ge3 : w.heap.size ≤ g3
  ro : Kd.R (Kd.int .i64) 3 W w.heap.size (fun _ => True) (.slice A3 s.length c3) o
theorem FolS.below {w W W2 : World} {g1 g3 c c3 : Nat} {A A3 : Option Addr} {s o : List Int} (h : FolS w W g1 g3 A c s A3 c3 o) (hb : Below W.heap.size W W2) : FolS w W2 g1 g3 A c s A3 c3 o :=
  ⟨below_step h.bel hb, blk_below h.b1 hb, blk_below h.b3 hb, h.ne, h.ge1, h.ge3, Kd.R_below h.ro hb⟩
theorem FolS.var {w W : World} {g1 g3 c c3 g i tp : Nat} {A A3 : Option Addr} {s o : List Int} {cs : Array Value} (h : FolS w W g1 g3 A c s A3 c3 o) (hg : W.heap[g]? = some (.cells cs tp (0, 0))) (ht : 3 ≠ tp) (h1 : g1 ≠ g) (h3 : g3 ≠ g) (hw : w.heap.size ≤ g) (u : Value) : FolS w (W.setCell ⟨g, i, none⟩ u) g1 g3 A c s A3 c3 o :=
  ⟨below_set h.bel hw, blk_far h.b1 (p := ⟨g, i, none⟩) h1 _, blk_far h.b3 (p := ⟨g, i, none⟩) h3 _, h.ne, h.ge1, h.ge3, R_var h.ro rfl hg ht u⟩
theorem R_addr {α : Type} {d : Kd α} {e base n c : Nat} {ok : Nat → Prop} {W : World} {A : Option Addr} {xs : List α} (h : Kd.R d e W base ok (.slice A n c) xs) (hn : 0 < xs.length) : ∃ b, A = some ⟨b, 0, none⟩ := by
  obtain ⟨b, cb, e, _⟩ := Kd.R_form h hn
  injection e with e1
  exact ⟨b, e1⟩
theorem two_new (W : World) (o o' : Obj) : ((W.alloc o).alloc o').heap[W.heap.size + 1]? = some o' ∧ ((W.alloc o).alloc o').heap[W.heap.size]? = some o := by
  have h1 := blk_new (W.alloc o) o'
  rw [World.size_alloc] at h1
  exact ⟨h1, blk_alloc (blk_new W o) o'⟩
/-- Ahead of the closure's call (the walk stores a function value). -/
theorem fol_start {w W5 : World} {g1 g3 c c3 c5 b3 b5 : Nat} {A : Option Addr} {s o : List Int} (h : FolS w W5 g1 g3 A c s (some ⟨b3, 0, none⟩) c3 o) (h5 : Kd.R Kd.bool 4 W5 w.heap.size (fun _ => True) (.slice (some ⟨b5, 0, none⟩) s.length c5) (List.replicate s.length false)) :
    PutS w ((W5.alloc (.cells #[.slice (some ⟨b5, 0, none⟩) s.length c5] 59)).alloc (.cells #[.func (.func 59) #[] #[.pointer (some ⟨g1, 0, none⟩), .pointer (some ⟨W5.heap.size, 0, none⟩), .pointer (some ⟨g3, 0, none⟩), .pointer (some ⟨W5.heap.size + 1, 0, none⟩)]] 48)) g1 W5.heap.size g3 (W5.heap.size + 1) A c s b5 c5 b3 c3 (List.replicate s.length false) o := by
  have hb := below_alloc (below_alloc (Below.refl W5.heap.size W5) (.cells #[.slice (some ⟨b5, 0, none⟩) s.length c5] 59)) (.cells #[.func (.func 59) #[] #[.pointer (some ⟨g1, 0, none⟩), .pointer (some ⟨W5.heap.size, 0, none⟩), .pointer (some ⟨g3, 0, none⟩), .pointer (some ⟨W5.heap.size + 1, 0, none⟩)]] 48)
  have hf := h.below hb
  exact ⟨hf.bel, hf.b1, (two_new _ _ _).2, hf.b3, (two_new _ _ _).1, Kd.R_below h5 hb, hf.ro⟩
set_option maxHeartbeats 2000000 in
set_option maxRecDepth 100000 in
theorem impl_followers.calls (k : Nat) (A0 : Option Addr) (c0 : Nat) (l0 : List Int) (r : List Int) (w : World) (hr0 : Kd.C (Kd.int .i64) w A0 l0.length l0) (hc0 : l0.length ≤ c0) (h : impl_followers.f k l0 = some r) :
    Calls Try.prog 47 #[.slice A0 l0.length c0] w fun e w' => ∃ v0_ : Value, e = .returned (v0_) ∧ Kd.R (Kd.int .i64) 3 w' w.heap.size (fun _ => True) v0_ r ∧ Below w.heap.size w w' := by
  unfold impl_followers.f at h
  by_cases hn : l0.length ≤ 1024
  · rw [if_pos hn] at h
    have H := Aside0.mk h
    have HR0 := Aside0.mk hr0
    have HC0 := Aside0.mk hc0
    have HB := Aside0.mk (Below.refl w.heap.size w)
    clear h hr0 hc0
    go_enter Try.func47, Try.ntmps47
    go_wp2_with (first | ((with_reducible refine gate_dst (N := 1) rfl ?_); refine box_event ?hg (N := 1) ?hd (cs := #[.slice A0 l0.length c0]) (t := 22) ?hr ?_; (case hd => rfl); (case hg => rfl); (case hr => first | (go_simp; done) | (go_simp; rfl)); intro g1 g1e W1 g1b W1b; have HB1 := Aside0.mk (below_step (by repeat (first | exact HB.out | apply pw_below_drewN | apply below_drew1 | apply below_alloc)) W1b); have BK1 := Aside0.mk g1b; have GE1 := Aside0.mk ((by rw [g1e]; exact below_size (by repeat (first | exact HB.out | apply pw_below_drewN | apply below_drew1 | apply below_alloc))) : w.heap.size ≤ g1); have q1 : W1.cell? ⟨g1, 0, none⟩ = some (.slice A0 l0.length c0) := (blk_cell BK1.out 0).trans rfl; clear W1b g1b g1e) | ((with_reducible refine gate_dst (N := 7) rfl ?_); refine Kd.R_lit (Kd.int .i64) _ 3 ?hg (N := 7) ?hd (xs := ([-1] : List Int)) (inner := [.int .i64 (-1)]) (ok := fun _ => True) (okp := fun _ => True) ?hr ?hp (fun _ hk => hk) trivial (Below.refl _ _) (Nat.le_refl _) (by simp) ?_; (case hd => rfl); (case hg => rfl); (case hr => first | (go_simp; done) | (go_simp; rfl)); (case hp => exact (Reps.one (show Kd.M (Kd.int .i64) _ _ _ (-1) [.int .i64 (-1)] from rfl) (Reps.none _ _))); intro v7 W2 hR7 hb7 hg7 hn7; have HB2 := Aside0.mk (below_step HB1.out hb7); have BK12 := Aside0.mk (blk_below BK1.out hb7); obtain ⟨A7, c7, e7, hc7, hC7⟩ := Kd.R_reads hR7; subst e7; have HC7 := Aside0.mk hc7; have HR7 := Aside0.mk hC7; have q2 : W2.cell? ⟨g1, 0, none⟩ = some (.slice A0 l0.length c0) := (blk_cell BK12.out 0).trans rfl; clear hR7 hb7 hg7 hn7 hc7 hC7 q1) | (go_at_call 58; (refine (slices_Repeat_int_int.calls A7 c7 (-1) l0.length W2 HR7.out HC7.out hn).mono ?_); rintro e W3 ⟨v3, rfl, hR3, hb3⟩; have HR3 := Aside0.mk (Kd.R_lower hR3 (below_size HB2.out)); have HB3 := Aside0.mk (below_step HB2.out hb3); have BK13 := Aside0.mk (blk_below BK12.out hb3); obtain ⟨A3, c3, e3⟩ := Kd.R_slice hR3; rw [List.length_replicate] at e3; subst e3; clear hR3 hb3 q2) | ((with_reducible refine gate_dst (N := 3) rfl ?_); refine box_event ?hg (N := 3) ?hd (cs := #[.slice none 0 0]) (t := 22) ?hr ?_; (case hd => rfl); (case hg => rfl); (case hr => first | (go_simp; done) | (go_simp; rfl)); intro g3 g3e W4 g3b W4b; have HB4 := Aside0.mk (below_step (by repeat (first | exact HB3.out | apply pw_below_drewN | apply below_drew1 | apply below_alloc)) W4b); have BK3 := Aside0.mk g3b; have GE3 := Aside0.mk ((by rw [g3e]; exact below_size (by repeat (first | exact HB3.out | apply pw_below_drewN | apply below_drew1 | apply below_alloc))) : w.heap.size ≤ g3); have hne : g1 ≠ g3 := (by have := blk_lt BK13.out; omega); have BK14 := Aside0.mk (blk_below BK13.out W4b); have HR4 := Aside0.mk (Kd.R_below HR3.out W4b); have hc3 : W4.cell? ⟨g3, 0, none⟩ = some (.slice none 0 0) := (blk_cell BK3.out 0).trans rfl; have hf3 : W4.frozen? ⟨g3, 0, none⟩ = false := blk_frozen BK3.out 0; have HF := Aside0.mk (⟨below_set HB4.out GE3.out, blk_far BK14.out (p := ⟨g3, 0, none⟩) hne _, blk_put BK3.out 0 _ rfl, hne, GE1.out, GE3.out, R_var HR4.out rfl BK3.out (by decide) _⟩ : FolS w (W4.setCell ⟨g3, 0, none⟩ (.slice A3 l0.length c3)) g1 g3 A0 c0 l0 A3 c3 (List.replicate l0.length (-1))); have q4 := (blk_cell HF.out.b1 0).trans rfl; clear W4b g3b g3e))
    clear hc3 hf3 q4 HB1 BK1 HB2 BK12 HC7 HR7 HB3 BK13 HR3 BK3 BK14 HR4 HB4 GE1 GE3
    go_loopg [13] l0.length (fun kq v13 wr => ∃ (j : Nat) (o : List Int), v13 = .int .i64 (j : Int) ∧ Aside0 (j + kq = l0.length) ∧ Aside0 (folL l0 k kq (j : Int) o = some r) ∧ Aside0 (FolS w wr g1 g3 A0 c0 l0 A3 c3 o))
    case atStart => exact ⟨0, _, rfl, ⟨by omega⟩, H, HF⟩
    case round =>
      clear H HF
      obtain ⟨j, o, rfl, hj, H, HF⟩ := hrel
      have hjl := hj.out
      cases gk with
      | zero =>
        obtain rfl : j = l0.length := by omega
        have hlt : ¬ (l0.length : Int) < (l0.length : Int) := by omega
        obtain rfl : o = r := Option.some.inj H.out
        have q3 : wr.cell? ⟨g3, 0, none⟩ = some (.slice A3 l0.length c3) := (blk_cell HF.out.b3 0).trans rfl
        go_wp2
        go_ret
        exact ⟨_, rfl, HF.out.ro, HF.out.bel⟩
      | succ kn =>
        have hlt : (j : Int) < (l0.length : Int) := by omega
        obtain ⟨⟨r1, t1, o1⟩, hp, hf⟩ := Option.bind_eq_some_iff.1 H.out
        have HP := Aside0.mk hp
        have HN := Aside0.mk hf
        clear H hp hf
        have q1 : wr.cell? ⟨g1, 0, none⟩ = some (.slice A0 l0.length c0) := (blk_cell HF.out.b1 0).trans rfl
        have hz5 : List.replicate (l0.length : Int).toNat false = List.replicate l0.length false := by rw [Int.toNat_natCast]
        have HZ5 := Aside0.mk hz5
        clear hz5
        go_wp2_with (first | ((with_reducible refine gate_dst (N := 18) rfl ?_); refine Kd.R_make Kd.bool _ 4 rfl (N := 18) rfl 59 _ _ rfl (l0.length : Int) rfl rfl Try.underlying59 (.bool false) 1 info4 rfl (by decide) (by omega) false (ok := fun _ => True) (okp := fun _ => True) rfl (fun _ hk => hk) trivial (by omega) (by omega) (Below.refl _ _) (Nat.le_refl _) ?_; intro v18 W5 hR5 hb5 hg5 hn5; rw [HZ5.out] at hR5; have HR5 := Aside0.mk (Kd.R_lower hR5 (below_size HF.out.bel)); have HF5 := Aside0.mk (HF.out.below hb5); obtain ⟨A5, c5, e5⟩ := Kd.R_slice hR5; rw [List.length_replicate] at e5; subst e5; obtain ⟨b5, eb5⟩ := R_addr hR5 (by rw [List.length_replicate]; omega); subst eb5; obtain ⟨b3, eb3⟩ := R_addr HF.out.ro (by have := (Kd.R_reads' HF.out.ro).1; omega); subst eb3; clear hR5 hb5 hg5 hn5 q1) | (go_at_call 59; (refine (impl_followers_1.calls A0 c0 l0 g1 W5.heap.size g3 (W5.heap.size + 1) b5 c5 b3 c3 w HR0.out HC0.out k (List.replicate l0.length false) o (j : Int) r1 t1 o1 _ (fol_start HF5.out HR5.out) HP.out).mono ?_); rintro e W7 ⟨rfl, hS7⟩; have HF7 := Aside0.mk (⟨hS7.bel, hS7.b1, hS7.b3, HF5.out.ne, HF5.out.ge1, HF5.out.ge3, hS7.ro⟩ : FolS w W7 g1 g3 A0 c0 l0 (some ⟨b3, 0, none⟩) c3 o1); clear hS7))
        go_roundg kn
        case measure => exact Nat.le_refl _
        case rel => exact ⟨j + 1, o1, by first | rfl | go_num, ⟨by omega⟩, HN, HF7⟩
  · rw [if_neg hn] at h
    cases h

-- HAND with impl.followers+impl.followers$1+spec.cnMatch+spec.cnGet+spec.cnParts+slices.Repeat[[]int,int]
theorem match_fill {s : List Int} (hsz : s.length < 1048577) {r : List Int} (h : Ev (fun k => spec_cnMatch.l1 k s (List.replicate s.length (-1)) (List.replicate s.length (-1)) s.length 0) r) : ∀ (d i : Nat), s.length - i = d → i ≤ s.length → Ev (fun k => spec_cnMatch.l0 k s (repL (-1) s.length i) (repL (-1) s.length i) s.length i) r
  | 0, i, hd, hi => by
    obtain rfl : i = s.length := by omega
    exact Ev.succ (fun k => by simp only [spec_cnMatch.l0]; rw [if_neg (by omega), repL_all]) h
  | d + 1, i, hd, hi => by
    have hn := match_fill hsz h d (i + 1) (by omega) (by omega)
    push_cast at hn
    have hws : wrap64 ((i : Int) + 1) = i + 1 := wrap_succ (by omega) (by omega)
    have hl := repL_len (-1) hi
    exact Ev.succ (fun k => by simp only [spec_cnMatch.l0]; rw [if_pos (by omega), if_pos (by omega), if_pos (by rw [hl]; omega), if_pos (by rw [hl]; omega), hws, Int.toNat_natCast, repL_set (-1) (by omega)]) hn
theorem top_ok {s : List Int} (hsz : s.length < 1048577) (hup : ∀ x y : Nat, x < s.length → y < s.length → x ≠ y → partV (rd s x) (rd s y) = true → x < y) : ∀ (d i : Nat) (b o : List Int), s.length - i = d → i ≤ s.length → Pair s.length b o → (∀ x : Nat, i ≤ x → x < s.length → rd b x < 0) → cntP b = cntP o →
    ∃ b' o' : List Int, Ev (fun k => folL s k d i o) o' ∧ Ev (fun k => spec_cnMatch.l1 k s b o s.length i) b' ∧ Pair s.length b' o' ∧ cntP b' = cntP o'
  | 0, i, b, o, hd, hi, hP, hb, hc => ⟨b, o, Ev.const rfl, Ev.succ (fun k => by simp only [spec_cnMatch.l1]; rw [if_neg (by omega)]) (Ev.const rfl), hP, hc⟩
  | d + 1, i, b, o, hd, hi, hP, hb, hc => by
    have hlt : i < s.length := by omega
    have hbi := hb i (Nat.le_refl _) hlt
    have hws : wrap64 ((i : Int) + 1) = i + 1 := wrap_succ (by omega) (by omega)
    obtain ⟨r, b1, o1, t1, e1, e2, _, _, _, hF, hT⟩ := put_ok hsz hup (unT (List.replicate s.length false)) s.length b o (List.replicate s.length false) 0 i hP List.length_replicate hlt (fun h => absurd hbi (by omega)) (Nat.le_refl _) (by omega) (Nat.zero_le _)
    have key : Pair s.length b1 o1 ∧ (∀ x : Nat, i + 1 ≤ x → x < s.length → rd b1 x < 0) ∧ cntP b1 = cntP o1 := by
      cases r with
      | false =>
        obtain ⟨rfl, rfl⟩ := hF rfl
        exact ⟨hP, fun x hx hx2 => hb x (by omega) hx2, hc⟩
      | true =>
        have G := hT rfl
        refine ⟨⟨G.lb, G.lo, G.rb, G.ro, fun x y hx hy => G.bo x y hx hy (by omega), G.up⟩, fun x hx hx2 => ?_, ?_⟩
        · rw [G.keep x hx2 (by omega) (.inl (hb x (by omega) hx2))]
          exact hb x (by omega) hx2
        · rw [G.cb, G.co, if_pos hbi, hc]
    obtain ⟨b2, o2, f1, f2, hP2, hc2⟩ := top_ok hsz hup d (i + 1) b1 o1 (by omega) (by omega) key.1 key.2.1 key.2.2
    push_cast at f1 f2
    refine ⟨b2, o2, Ev.bind e1 f1, Ev.succ (fun k => by simp only [spec_cnMatch.l1]; rw [if_pos (by omega), if_pos (by omega), if_pos (by omega), Int.toNat_natCast, hws]) (Ev.bind (Ev.succ (fun k => by simp only [spec_cnGet.f]; rfl) e2) f2), hP2, hc2⟩
theorem rd_rep (n x : Nat) (h : x < n) (v : Int) : rd (List.replicate n v) (x : Int) = v := by
  rw [rd_get (by rw [List.length_replicate]; exact h), List.getElem_replicate]
theorem match_ok {s : List Int} (hlen : s.length ≤ 1024) (hup : ∀ x y : Nat, x < s.length → y < s.length → x ≠ y → partV (rd s x) (rd s y) = true → x < y) :
    ∃ b o : List Int, Ev (fun k => impl_followers.f k s) o ∧ Ev (fun k => spec_cnMatch.f k s) b ∧ Pair s.length b o ∧ cntP b = cntP o := by
  have hr := fun (x : Nat) (hx : x < s.length) => rd_rep s.length x hx (-1)
  obtain ⟨b, o, f1, f2, hP, hc⟩ := top_ok (s := s) (by omega) hup s.length 0 (List.replicate s.length (-1)) (List.replicate s.length (-1)) (by omega) (Nat.zero_le _) ⟨List.length_replicate, List.length_replicate, fun x hx => by rw [hr x hx]; omega, fun x hx => by rw [hr x hx]; omega, fun x y hx hy => by rw [hr x hx, hr y hy]; constructor <;> (intro h; omega), fun y hy h => by rw [hr y hy] at h; omega⟩ (fun x _ hx => by rw [hr x hx]; decide) rfl
  refine ⟨b, o, ?_, ?_, hP, hc⟩
  · unfold impl_followers.f
    exact Ev.to (fun k => by rw [if_pos hlen]; rfl) f1
  · unfold spec_cnMatch.f
    have := match_fill (s := s) (by omega) (r := b) f2 s.length 0 (by omega) (Nat.zero_le _)
    exact Ev.to (fun k => by rw [if_pos (by omega), if_pos (by omega), Int.toNat_natCast]; rfl) this

-- HAND with impl.followers+impl.followers$1+spec.cnMatch+impl.part
/-- The paths of a space: both match them alike. -/
theorem pathsMatch {n : Int} {l : List Int} (hS : isSpaceB n l = true) : (pathsL (famOf l) l).length ≤ 1024 ∧ ∃ b o : List Int, Ev (fun k => impl_followers.f k (pathsL (famOf l) l)) o ∧ Ev (fun k => spec_cnMatch.f k (pathsL (famOf l) l)) b ∧ Pair (pathsL (famOf l) l).length b o ∧ cntP b = cntP o := by
  have hr := risingB_rise (isSpaceB_parts hS).2.2.2.1
  have hll := isSpaceB_len hS
  have hPl : (pathsL (famOf l) l).length ≤ 1024 := Nat.le_trans (List.length_filter_le _ _) (by omega)
  exact ⟨hPl, match_ok hPl (parts_up (paths_rise hr) (fun x hx => isSpaceB_128 hS x (pathsL_mem hx).1))⟩

/-! ### impl_width: function 28 -/
def impl_width.l0 : Nat → Int → List Int → Int → Int → Option (Int)
  | 0, _, _, _, _ => none
  | k + 1, x3, x7, x8, x9 => if x9 < x8 then (if 0 ≤ x9 then (if x9 < (x7.length : Int) then (if (rd x7 x9) < 0 then (impl_width.l0 k (wrap64 (x3 + 1)) x7 x8 (wrap64 (x9 + 1))) else (impl_width.l0 k x3 x7 x8 (wrap64 (x9 + 1)))) else (none)) else (none)) else (some x3)
def impl_width.f (k : Nat) (l0 : List Int) : Option (Int) := (impl_followers.f k l0).bind fun t101 => (impl_width.l0 k 0 t101 (t101.length : Int) 0)
theorem impl_width.mono_l : ∀ k, (∀ y0 y1 y2 y3, LeO (impl_width.l0 k y0 y1 y2 y3) (impl_width.l0 (k + 1) y0 y1 y2 y3))
  | 0 => fun _ _ _ _ r h => by simp [impl_width.l0] at h
  | k + 1 => by
    have ih0 := impl_width.mono_l k
    · intro y0 y1 y2 y3
      unfold impl_width.l0
      repeat' first
      | (with_reducible exact ih0 _ _ _ _)
      | (with_reducible exact impl_followers.mono _ _)
      | (with_reducible exact LeO.refl _)
      | (with_reducible exact LeO.none _)
      | (with_reducible refine LeO.ite ?_ ?_)
      | (with_reducible refine LeO.bind ?_ (fun _ => ?_))
      | exact ih0 _ _ _ _
      | exact impl_followers.mono _ _
      | exact LeO.none _
      | refine LeO.ite ?_ ?_
      | refine LeO.bind ?_ (fun _ => ?_)
theorem impl_width.mono : ∀ a0 k, LeO (impl_width.f k a0) (impl_width.f (k + 1) a0) := by
  intro a0 k
  have ih0 := impl_width.mono_l k
  unfold impl_width.f
  repeat' first
      | (with_reducible exact ih0 _ _ _ _)
      | (with_reducible exact impl_followers.mono _ _)
      | (with_reducible exact LeO.refl _)
      | (with_reducible exact LeO.none _)
      | (with_reducible refine LeO.ite ?_ ?_)
      | (with_reducible refine LeO.bind ?_ (fun _ => ?_))
      | exact ih0 _ _ _ _
      | exact impl_followers.mono _ _
      | exact LeO.none _
      | refine LeO.ite ?_ ?_
      | refine LeO.bind ?_ (fun _ => ?_)
set_option maxHeartbeats 8000000 in
set_option maxRecDepth 100000 in
theorem impl_width.calls (k : Nat) (A0 : Option Addr) (c0 : Nat) (l0 : List Int) (r : Int) (w : World) (hr0 : Kd.C (Kd.int .i64) w A0 l0.length l0) (hc0 : l0.length ≤ c0) (h : impl_width.f k l0 = some r) :
    Calls Try.prog 28 #[.slice A0 l0.length c0] w fun e w' => e = .returned (.int .i64 r) ∧ Below w.heap.size w w' := by
  have HR0 := Aside0.mk hr0
  have HC0 := Aside0.mk hc0
  clear hr0 hc0
  have HB := Aside0.mk (Below.refl w.heap.size w)
  have H : ((impl_followers.f k l0).bind fun t101 => (impl_width.l0 k 0 t101 (t101.length : Int) 0)) = some r := h
  clear h
  replace H := Option.bind_eq_some_iff.mp H
  obtain ⟨t101, A20, H⟩ := H
  replace H : (impl_width.l0 k 0 t101 (t101.length : Int) 0) = some r := H
  have A2 := Aside0.mk A20
  clear A20
  have H' := Aside0.mk H
  clear H
  go_enter Try.func28, Try.ntmps28
  go_wp2_with (first | ((with_reducible refine gate_callee (f := 47) rfl ?_); refine goesL_ (some 7) rfl rfl Try.func47 (by kernel_rfl) rfl #[.slice A0 l0.length c0] rfl (by (try simp only [List.map_toArray, List.map_cons, List.map_nil]); first | done | rfl | (simp only [List.length_drop, List.length_take]; rfl)) ?_; (with_reducible refine (impl_followers.calls k _ _ l0 t101 _ ?side1 ?side2 A2.out).mono ?_); (case side1 => repeat (first | exact HR0.out | (with_reducible refine Kd.C_alloc ?_ _) | (with_reducible refine Kd.C_drewN ?_ _) | (with_reducible refine Kd.C_drew ?_))); (case side2 => exact HC0.out); rintro e w3 ⟨v102, rfl, ho0, hb⟩; refine ⟨_, rfl, ?_⟩; have n0_ := Aside0.mk (Kd.R_lower ho0 (below_size (by repeat (first | (with_reducible first | exact HB.out | apply below_alloc | apply pw_below_drewN | apply below_drew1) | exact HB.out)))); have n1_ := Aside0.mk (below_step (by repeat (first | (with_reducible first | exact HB.out | apply below_alloc | apply pw_below_drewN | apply below_drew1) | exact HB.out)) hb); clear HB; have HO103 := n0_; have HB := n1_; clear n0_ n1_; (try clear hb); (try clear hb2); (try clear hk); (try clear hi); (try clear ho0); obtain ⟨Ao4, co4, eo4⟩ := Kd.R_slice HO103.out; subst eo4))
  go_loopg [3, 9] k (fun kq v3 v9 w' => ∃ (x3_1 : Int) (x9_1 : Int), v3 = .int .i64 x3_1 ∧ v9 = .int .i64 x9_1 ∧ Aside0 (impl_width.l0 kq x3_1 t101 (t101.length : Int) x9_1 = some r) ∧ Aside0 (kq ≤ k) ∧ Aside0 (Kd.R (Kd.int .i64) 3 w' w.heap.size (fun _ => True) (.slice Ao4 t101.length co4) t101) ∧ Aside0 (Below w.heap.size w w'))
  case atStart => exact ⟨(0), (0), (by first | rfl | (simp; done) | (simp [*]; done)), (by first | rfl | (simp; done) | (simp [*]; done)), H', ⟨Nat.le_refl _⟩, ⟨by (with_reducible repeat (first | apply Kd.R_alloc | apply Kd.R_drewN | apply Kd.R_drew)); exact HO103.out⟩, ⟨by repeat (first | (with_reducible first | exact HB.out | apply below_alloc | apply pw_below_drewN | apply below_drew1) | exact HB.out)⟩⟩
  case round =>
    clear H'
    try clear c2
    try clear p2
    try clear c4
    obtain ⟨x3_1, x9_1, rfl, rfl, HA, HK1, HO_7, HB⟩ := hrel
    cases gk with
    | zero => exact absurd HA.out (by simp [impl_width.l0])
    | succ k1 =>
      have H := HA.out
      clear HA
      simp only [impl_width.l0] at H
      by_cases c5 : x9_1 < (t101.length : Int)
      · rw [if_pos c5] at H
        have c5b0 : decide (x9_1 < (t101.length : Int)) = true := decide_eq_true c5
        clear c5
        by_cases c6 : 0 ≤ x9_1
        · rw [if_pos c6] at H
          have c6b0 : decide (0 ≤ x9_1) = true := decide_eq_true c6
          clear c6
          by_cases c7 : x9_1 < (t101.length : Int)
          · rw [if_pos c7] at H
            have c7b0 : decide (x9_1 < (t101.length : Int)) = true := decide_eq_true c7
            clear c7
            by_cases c8 : (rd t101 x9_1) < 0
            · rw [if_pos c8] at H
              have c8b0 : decide ((rd t101 x9_1) < 0) = true := decide_eq_true c8
              clear c8
              have H' := Aside0.mk H
              clear H
              have p104 : 0 ≤ (x9_1 : Int) := of_decide_eq_true (by first | (with_reducible assumption) | assumption)
              have q104 : x9_1 < (t101.length : Int) := of_decide_eq_true (by first | (with_reducible assumption) | assumption)
              obtain ⟨ad104, e104, hx104_0⟩ := Kd.at_int (Kd.R_reads' HO_7.out).2.2 x9_1 p104 q104
              cases e104
              replace p104 := eq_true p104
              replace q104 := eq_true q104
              go_wp2
              go_roundg k1
              case measure => have := HK1.out; omega
              case rel => exact ⟨(wrap64 (x3_1 + 1)), (wrap64 (x9_1 + 1)), (by first | rfl | (simp; done) | (simp [*]; done)), (by first | rfl | (simp; done) | (simp [*]; done)), H', ⟨by have := HK1.out; omega⟩, ⟨by (with_reducible repeat (first | apply Kd.R_alloc | apply Kd.R_drewN | apply Kd.R_drew)); exact HO_7.out⟩, ⟨by repeat (first | (with_reducible first | exact HB.out | apply below_alloc | apply pw_below_drewN | apply below_drew1) | exact HB.out)⟩⟩
            · rw [if_neg c8] at H
              have c8b0 : decide ((rd t101 x9_1) < 0) = false := decide_eq_false c8
              clear c8
              have H' := Aside0.mk H
              clear H
              have p104 : 0 ≤ (x9_1 : Int) := of_decide_eq_true (by first | (with_reducible assumption) | assumption)
              have q104 : x9_1 < (t101.length : Int) := of_decide_eq_true (by first | (with_reducible assumption) | assumption)
              obtain ⟨ad104, e104, hx104_0⟩ := Kd.at_int (Kd.R_reads' HO_7.out).2.2 x9_1 p104 q104
              cases e104
              replace p104 := eq_true p104
              replace q104 := eq_true q104
              go_wp2
              go_roundg k1
              case measure => have := HK1.out; omega
              case rel => exact ⟨(x3_1), (wrap64 (x9_1 + 1)), (by first | rfl | (simp; done) | (simp [*]; done)), (by first | rfl | (simp; done) | (simp [*]; done)), H', ⟨by have := HK1.out; omega⟩, ⟨by (with_reducible repeat (first | apply Kd.R_alloc | apply Kd.R_drewN | apply Kd.R_drew)); exact HO_7.out⟩, ⟨by repeat (first | (with_reducible first | exact HB.out | apply below_alloc | apply pw_below_drewN | apply below_drew1) | exact HB.out)⟩⟩
          · rw [if_neg c7] at H
            exact absurd H (by simp)
        · rw [if_neg c6] at H
          exact absurd H (by simp)
      · rw [if_neg c5] at H
        have c5b0 : decide (x9_1 < (t101.length : Int)) = false := decide_eq_false c5
        clear c5
        obtain rfl := Option.some.inj H
        go_wp2
        go_ret
        exact ⟨by first | rfl | (simp [errW_none, errW_some] <;> rfl) | (simp [*, errW_none, errW_some] <;> rfl), by repeat (first | (with_reducible first | exact HB.out | apply below_alloc | apply pw_below_drewN | apply below_drew1) | exact HB.out)⟩

-- HAND with impl.width+impl.followers
theorem width_loop (o : List Int) (hlen : o.length < 1048577) : ∀ (d i : Nat) (m : Nat), o.length - i = d → i ≤ o.length → m ≤ i → Ev (fun k => impl_width.l0 k m o o.length i) ((m + (o.drop i).countP (fun x => decide (x < 0)) : Nat) : Int)
  | 0, i, m, hd, hi, hm => by
    rw [List.drop_of_length_le (by omega)]
    exact Ev.succ (g := fun _ => some (m : Int)) (fun k => by simp only [impl_width.l0]; rw [if_neg (by omega)]) (Ev.const rfl)
  | d + 1, i, m, hd, hi, hm => by
    have hlt : i < o.length := by omega
    have hn := fun m' h' => width_loop o hlen d (i + 1) m' (by omega) (by omega) h'
    push_cast at hn
    have hws : wrap64 ((i : Int) + 1) = i + 1 := wrap_succ (by omega) (by omega)
    have hwm : wrap64 ((m : Int) + 1) = m + 1 := wrap_succ (by omega) (by omega)
    rw [List.drop_eq_getElem_cons hlt, List.countP_cons]
    by_cases h : o[i] < 0
    · rw [if_pos (decide_eq_true h)]
      refine Ev.succ (fun k => by simp only [impl_width.l0]; rw [if_pos (by omega), if_pos (by omega), if_pos (by omega), rd_get hlt, if_pos h, hws, hwm]) ?_
      have := hn (m + 1) (by omega)
      push_cast at this
      exact Ev.val this (by push_cast; omega)
    · rw [if_neg (by rw [decide_eq_true_eq]; exact h)]
      exact Ev.succ (fun k => by simp only [impl_width.l0]; rw [if_pos (by omega), if_pos (by omega), if_pos (by omega), rd_get hlt, if_neg h, hws]) (hn m (by omega))
theorem width_ok {s o : List Int} (ho : Ev (fun k => impl_followers.f k s) o) (hlen : o.length < 1048577) : Ev (fun k => impl_width.f k s) ((o.countP (fun x => decide (x < 0)) : Nat) : Int) := by
  unfold impl_width.f
  refine Ev.bind ho ?_
  have := width_loop o hlen o.length 0 0 (by omega) (Nat.zero_le _) (Nat.le_refl _)
  rw [List.drop_zero, Nat.zero_add] at this
  exact this

/-! ### bits_OnesCount64: function 67 -/
def bits_OnesCount64.f (a0 : Int) : Option (Int) := some (Go.bits .and .i64 (wrap64 (IntKind.u64.wrap ((IntKind.u64.wrap ((IntKind.u64.wrap ((Go.bits .and .u64 (IntKind.u64.wrap (((IntKind.u64.wrap ((Go.bits .and .u64 ((IntKind.u64.wrap ((Go.bits .and .u64 (a0 / 2) 6148914691236517205) + (Go.bits .and .u64 a0 6148914691236517205))) / 4) 3689348814741910323) + (Go.bits .and .u64 (IntKind.u64.wrap ((Go.bits .and .u64 (a0 / 2) 6148914691236517205) + (Go.bits .and .u64 a0 6148914691236517205))) 3689348814741910323))) / 16) + (IntKind.u64.wrap ((Go.bits .and .u64 ((IntKind.u64.wrap ((Go.bits .and .u64 (a0 / 2) 6148914691236517205) + (Go.bits .and .u64 a0 6148914691236517205))) / 4) 3689348814741910323) + (Go.bits .and .u64 (IntKind.u64.wrap ((Go.bits .and .u64 (a0 / 2) 6148914691236517205) + (Go.bits .and .u64 a0 6148914691236517205))) 3689348814741910323))))) 1085102592571150095) + ((Go.bits .and .u64 (IntKind.u64.wrap (((IntKind.u64.wrap ((Go.bits .and .u64 ((IntKind.u64.wrap ((Go.bits .and .u64 (a0 / 2) 6148914691236517205) + (Go.bits .and .u64 a0 6148914691236517205))) / 4) 3689348814741910323) + (Go.bits .and .u64 (IntKind.u64.wrap ((Go.bits .and .u64 (a0 / 2) 6148914691236517205) + (Go.bits .and .u64 a0 6148914691236517205))) 3689348814741910323))) / 16) + (IntKind.u64.wrap ((Go.bits .and .u64 ((IntKind.u64.wrap ((Go.bits .and .u64 (a0 / 2) 6148914691236517205) + (Go.bits .and .u64 a0 6148914691236517205))) / 4) 3689348814741910323) + (Go.bits .and .u64 (IntKind.u64.wrap ((Go.bits .and .u64 (a0 / 2) 6148914691236517205) + (Go.bits .and .u64 a0 6148914691236517205))) 3689348814741910323))))) 1085102592571150095) / 256))) + ((IntKind.u64.wrap ((Go.bits .and .u64 (IntKind.u64.wrap (((IntKind.u64.wrap ((Go.bits .and .u64 ((IntKind.u64.wrap ((Go.bits .and .u64 (a0 / 2) 6148914691236517205) + (Go.bits .and .u64 a0 6148914691236517205))) / 4) 3689348814741910323) + (Go.bits .and .u64 (IntKind.u64.wrap ((Go.bits .and .u64 (a0 / 2) 6148914691236517205) + (Go.bits .and .u64 a0 6148914691236517205))) 3689348814741910323))) / 16) + (IntKind.u64.wrap ((Go.bits .and .u64 ((IntKind.u64.wrap ((Go.bits .and .u64 (a0 / 2) 6148914691236517205) + (Go.bits .and .u64 a0 6148914691236517205))) / 4) 3689348814741910323) + (Go.bits .and .u64 (IntKind.u64.wrap ((Go.bits .and .u64 (a0 / 2) 6148914691236517205) + (Go.bits .and .u64 a0 6148914691236517205))) 3689348814741910323))))) 1085102592571150095) + ((Go.bits .and .u64 (IntKind.u64.wrap (((IntKind.u64.wrap ((Go.bits .and .u64 ((IntKind.u64.wrap ((Go.bits .and .u64 (a0 / 2) 6148914691236517205) + (Go.bits .and .u64 a0 6148914691236517205))) / 4) 3689348814741910323) + (Go.bits .and .u64 (IntKind.u64.wrap ((Go.bits .and .u64 (a0 / 2) 6148914691236517205) + (Go.bits .and .u64 a0 6148914691236517205))) 3689348814741910323))) / 16) + (IntKind.u64.wrap ((Go.bits .and .u64 ((IntKind.u64.wrap ((Go.bits .and .u64 (a0 / 2) 6148914691236517205) + (Go.bits .and .u64 a0 6148914691236517205))) / 4) 3689348814741910323) + (Go.bits .and .u64 (IntKind.u64.wrap ((Go.bits .and .u64 (a0 / 2) 6148914691236517205) + (Go.bits .and .u64 a0 6148914691236517205))) 3689348814741910323))))) 1085102592571150095) / 256))) / 65536))) + ((IntKind.u64.wrap ((IntKind.u64.wrap ((Go.bits .and .u64 (IntKind.u64.wrap (((IntKind.u64.wrap ((Go.bits .and .u64 ((IntKind.u64.wrap ((Go.bits .and .u64 (a0 / 2) 6148914691236517205) + (Go.bits .and .u64 a0 6148914691236517205))) / 4) 3689348814741910323) + (Go.bits .and .u64 (IntKind.u64.wrap ((Go.bits .and .u64 (a0 / 2) 6148914691236517205) + (Go.bits .and .u64 a0 6148914691236517205))) 3689348814741910323))) / 16) + (IntKind.u64.wrap ((Go.bits .and .u64 ((IntKind.u64.wrap ((Go.bits .and .u64 (a0 / 2) 6148914691236517205) + (Go.bits .and .u64 a0 6148914691236517205))) / 4) 3689348814741910323) + (Go.bits .and .u64 (IntKind.u64.wrap ((Go.bits .and .u64 (a0 / 2) 6148914691236517205) + (Go.bits .and .u64 a0 6148914691236517205))) 3689348814741910323))))) 1085102592571150095) + ((Go.bits .and .u64 (IntKind.u64.wrap (((IntKind.u64.wrap ((Go.bits .and .u64 ((IntKind.u64.wrap ((Go.bits .and .u64 (a0 / 2) 6148914691236517205) + (Go.bits .and .u64 a0 6148914691236517205))) / 4) 3689348814741910323) + (Go.bits .and .u64 (IntKind.u64.wrap ((Go.bits .and .u64 (a0 / 2) 6148914691236517205) + (Go.bits .and .u64 a0 6148914691236517205))) 3689348814741910323))) / 16) + (IntKind.u64.wrap ((Go.bits .and .u64 ((IntKind.u64.wrap ((Go.bits .and .u64 (a0 / 2) 6148914691236517205) + (Go.bits .and .u64 a0 6148914691236517205))) / 4) 3689348814741910323) + (Go.bits .and .u64 (IntKind.u64.wrap ((Go.bits .and .u64 (a0 / 2) 6148914691236517205) + (Go.bits .and .u64 a0 6148914691236517205))) 3689348814741910323))))) 1085102592571150095) / 256))) + ((IntKind.u64.wrap ((Go.bits .and .u64 (IntKind.u64.wrap (((IntKind.u64.wrap ((Go.bits .and .u64 ((IntKind.u64.wrap ((Go.bits .and .u64 (a0 / 2) 6148914691236517205) + (Go.bits .and .u64 a0 6148914691236517205))) / 4) 3689348814741910323) + (Go.bits .and .u64 (IntKind.u64.wrap ((Go.bits .and .u64 (a0 / 2) 6148914691236517205) + (Go.bits .and .u64 a0 6148914691236517205))) 3689348814741910323))) / 16) + (IntKind.u64.wrap ((Go.bits .and .u64 ((IntKind.u64.wrap ((Go.bits .and .u64 (a0 / 2) 6148914691236517205) + (Go.bits .and .u64 a0 6148914691236517205))) / 4) 3689348814741910323) + (Go.bits .and .u64 (IntKind.u64.wrap ((Go.bits .and .u64 (a0 / 2) 6148914691236517205) + (Go.bits .and .u64 a0 6148914691236517205))) 3689348814741910323))))) 1085102592571150095) + ((Go.bits .and .u64 (IntKind.u64.wrap (((IntKind.u64.wrap ((Go.bits .and .u64 ((IntKind.u64.wrap ((Go.bits .and .u64 (a0 / 2) 6148914691236517205) + (Go.bits .and .u64 a0 6148914691236517205))) / 4) 3689348814741910323) + (Go.bits .and .u64 (IntKind.u64.wrap ((Go.bits .and .u64 (a0 / 2) 6148914691236517205) + (Go.bits .and .u64 a0 6148914691236517205))) 3689348814741910323))) / 16) + (IntKind.u64.wrap ((Go.bits .and .u64 ((IntKind.u64.wrap ((Go.bits .and .u64 (a0 / 2) 6148914691236517205) + (Go.bits .and .u64 a0 6148914691236517205))) / 4) 3689348814741910323) + (Go.bits .and .u64 (IntKind.u64.wrap ((Go.bits .and .u64 (a0 / 2) 6148914691236517205) + (Go.bits .and .u64 a0 6148914691236517205))) 3689348814741910323))))) 1085102592571150095) / 256))) / 65536))) / 4294967296)))) 127)
set_option maxHeartbeats 8000000 in
set_option maxRecDepth 100000 in
theorem bits_OnesCount64.calls (a0 : Int) (r : Int) (w : World) (h : bits_OnesCount64.f a0 = some r) :
    Calls Try.prog 67 #[.int .u64 a0] w fun e w' => e = .returned (.int .i64 r) ∧ Drawn0 w w' := by
  have H : (some (Go.bits .and .i64 (wrap64 (IntKind.u64.wrap ((IntKind.u64.wrap ((IntKind.u64.wrap ((Go.bits .and .u64 (IntKind.u64.wrap (((IntKind.u64.wrap ((Go.bits .and .u64 ((IntKind.u64.wrap ((Go.bits .and .u64 (a0 / 2) 6148914691236517205) + (Go.bits .and .u64 a0 6148914691236517205))) / 4) 3689348814741910323) + (Go.bits .and .u64 (IntKind.u64.wrap ((Go.bits .and .u64 (a0 / 2) 6148914691236517205) + (Go.bits .and .u64 a0 6148914691236517205))) 3689348814741910323))) / 16) + (IntKind.u64.wrap ((Go.bits .and .u64 ((IntKind.u64.wrap ((Go.bits .and .u64 (a0 / 2) 6148914691236517205) + (Go.bits .and .u64 a0 6148914691236517205))) / 4) 3689348814741910323) + (Go.bits .and .u64 (IntKind.u64.wrap ((Go.bits .and .u64 (a0 / 2) 6148914691236517205) + (Go.bits .and .u64 a0 6148914691236517205))) 3689348814741910323))))) 1085102592571150095) + ((Go.bits .and .u64 (IntKind.u64.wrap (((IntKind.u64.wrap ((Go.bits .and .u64 ((IntKind.u64.wrap ((Go.bits .and .u64 (a0 / 2) 6148914691236517205) + (Go.bits .and .u64 a0 6148914691236517205))) / 4) 3689348814741910323) + (Go.bits .and .u64 (IntKind.u64.wrap ((Go.bits .and .u64 (a0 / 2) 6148914691236517205) + (Go.bits .and .u64 a0 6148914691236517205))) 3689348814741910323))) / 16) + (IntKind.u64.wrap ((Go.bits .and .u64 ((IntKind.u64.wrap ((Go.bits .and .u64 (a0 / 2) 6148914691236517205) + (Go.bits .and .u64 a0 6148914691236517205))) / 4) 3689348814741910323) + (Go.bits .and .u64 (IntKind.u64.wrap ((Go.bits .and .u64 (a0 / 2) 6148914691236517205) + (Go.bits .and .u64 a0 6148914691236517205))) 3689348814741910323))))) 1085102592571150095) / 256))) + ((IntKind.u64.wrap ((Go.bits .and .u64 (IntKind.u64.wrap (((IntKind.u64.wrap ((Go.bits .and .u64 ((IntKind.u64.wrap ((Go.bits .and .u64 (a0 / 2) 6148914691236517205) + (Go.bits .and .u64 a0 6148914691236517205))) / 4) 3689348814741910323) + (Go.bits .and .u64 (IntKind.u64.wrap ((Go.bits .and .u64 (a0 / 2) 6148914691236517205) + (Go.bits .and .u64 a0 6148914691236517205))) 3689348814741910323))) / 16) + (IntKind.u64.wrap ((Go.bits .and .u64 ((IntKind.u64.wrap ((Go.bits .and .u64 (a0 / 2) 6148914691236517205) + (Go.bits .and .u64 a0 6148914691236517205))) / 4) 3689348814741910323) + (Go.bits .and .u64 (IntKind.u64.wrap ((Go.bits .and .u64 (a0 / 2) 6148914691236517205) + (Go.bits .and .u64 a0 6148914691236517205))) 3689348814741910323))))) 1085102592571150095) + ((Go.bits .and .u64 (IntKind.u64.wrap (((IntKind.u64.wrap ((Go.bits .and .u64 ((IntKind.u64.wrap ((Go.bits .and .u64 (a0 / 2) 6148914691236517205) + (Go.bits .and .u64 a0 6148914691236517205))) / 4) 3689348814741910323) + (Go.bits .and .u64 (IntKind.u64.wrap ((Go.bits .and .u64 (a0 / 2) 6148914691236517205) + (Go.bits .and .u64 a0 6148914691236517205))) 3689348814741910323))) / 16) + (IntKind.u64.wrap ((Go.bits .and .u64 ((IntKind.u64.wrap ((Go.bits .and .u64 (a0 / 2) 6148914691236517205) + (Go.bits .and .u64 a0 6148914691236517205))) / 4) 3689348814741910323) + (Go.bits .and .u64 (IntKind.u64.wrap ((Go.bits .and .u64 (a0 / 2) 6148914691236517205) + (Go.bits .and .u64 a0 6148914691236517205))) 3689348814741910323))))) 1085102592571150095) / 256))) / 65536))) + ((IntKind.u64.wrap ((IntKind.u64.wrap ((Go.bits .and .u64 (IntKind.u64.wrap (((IntKind.u64.wrap ((Go.bits .and .u64 ((IntKind.u64.wrap ((Go.bits .and .u64 (a0 / 2) 6148914691236517205) + (Go.bits .and .u64 a0 6148914691236517205))) / 4) 3689348814741910323) + (Go.bits .and .u64 (IntKind.u64.wrap ((Go.bits .and .u64 (a0 / 2) 6148914691236517205) + (Go.bits .and .u64 a0 6148914691236517205))) 3689348814741910323))) / 16) + (IntKind.u64.wrap ((Go.bits .and .u64 ((IntKind.u64.wrap ((Go.bits .and .u64 (a0 / 2) 6148914691236517205) + (Go.bits .and .u64 a0 6148914691236517205))) / 4) 3689348814741910323) + (Go.bits .and .u64 (IntKind.u64.wrap ((Go.bits .and .u64 (a0 / 2) 6148914691236517205) + (Go.bits .and .u64 a0 6148914691236517205))) 3689348814741910323))))) 1085102592571150095) + ((Go.bits .and .u64 (IntKind.u64.wrap (((IntKind.u64.wrap ((Go.bits .and .u64 ((IntKind.u64.wrap ((Go.bits .and .u64 (a0 / 2) 6148914691236517205) + (Go.bits .and .u64 a0 6148914691236517205))) / 4) 3689348814741910323) + (Go.bits .and .u64 (IntKind.u64.wrap ((Go.bits .and .u64 (a0 / 2) 6148914691236517205) + (Go.bits .and .u64 a0 6148914691236517205))) 3689348814741910323))) / 16) + (IntKind.u64.wrap ((Go.bits .and .u64 ((IntKind.u64.wrap ((Go.bits .and .u64 (a0 / 2) 6148914691236517205) + (Go.bits .and .u64 a0 6148914691236517205))) / 4) 3689348814741910323) + (Go.bits .and .u64 (IntKind.u64.wrap ((Go.bits .and .u64 (a0 / 2) 6148914691236517205) + (Go.bits .and .u64 a0 6148914691236517205))) 3689348814741910323))))) 1085102592571150095) / 256))) + ((IntKind.u64.wrap ((Go.bits .and .u64 (IntKind.u64.wrap (((IntKind.u64.wrap ((Go.bits .and .u64 ((IntKind.u64.wrap ((Go.bits .and .u64 (a0 / 2) 6148914691236517205) + (Go.bits .and .u64 a0 6148914691236517205))) / 4) 3689348814741910323) + (Go.bits .and .u64 (IntKind.u64.wrap ((Go.bits .and .u64 (a0 / 2) 6148914691236517205) + (Go.bits .and .u64 a0 6148914691236517205))) 3689348814741910323))) / 16) + (IntKind.u64.wrap ((Go.bits .and .u64 ((IntKind.u64.wrap ((Go.bits .and .u64 (a0 / 2) 6148914691236517205) + (Go.bits .and .u64 a0 6148914691236517205))) / 4) 3689348814741910323) + (Go.bits .and .u64 (IntKind.u64.wrap ((Go.bits .and .u64 (a0 / 2) 6148914691236517205) + (Go.bits .and .u64 a0 6148914691236517205))) 3689348814741910323))))) 1085102592571150095) + ((Go.bits .and .u64 (IntKind.u64.wrap (((IntKind.u64.wrap ((Go.bits .and .u64 ((IntKind.u64.wrap ((Go.bits .and .u64 (a0 / 2) 6148914691236517205) + (Go.bits .and .u64 a0 6148914691236517205))) / 4) 3689348814741910323) + (Go.bits .and .u64 (IntKind.u64.wrap ((Go.bits .and .u64 (a0 / 2) 6148914691236517205) + (Go.bits .and .u64 a0 6148914691236517205))) 3689348814741910323))) / 16) + (IntKind.u64.wrap ((Go.bits .and .u64 ((IntKind.u64.wrap ((Go.bits .and .u64 (a0 / 2) 6148914691236517205) + (Go.bits .and .u64 a0 6148914691236517205))) / 4) 3689348814741910323) + (Go.bits .and .u64 (IntKind.u64.wrap ((Go.bits .and .u64 (a0 / 2) 6148914691236517205) + (Go.bits .and .u64 a0 6148914691236517205))) 3689348814741910323))))) 1085102592571150095) / 256))) / 65536))) / 4294967296)))) 127)) = some r := h
  clear h
  obtain rfl := Option.some.inj H
  go_enter Try.func67, Try.ntmps67
  go_wp2
  go_ret
  exact ⟨by first | rfl | (simp; done) | (simp [*]; done), by repeat (first | exact Drawn0.refl _ | apply Drawn0.step)⟩

/-! ### bits_OnesCount: function 61 -/
def bits_OnesCount.f (a0 : Int) : Option (Int) := (bits_OnesCount64.f a0).bind fun t101 => (some t101)
set_option maxHeartbeats 8000000 in
set_option maxRecDepth 100000 in
theorem bits_OnesCount.calls (a0 : Int) (r : Int) (w : World) (h : bits_OnesCount.f a0 = some r) :
    Calls Try.prog 61 #[.int .u64 a0] w fun e w' => e = .returned (.int .i64 r) ∧ Drawn0 w w' := by
  have H : ((bits_OnesCount64.f a0).bind fun t101 => (some t101)) = some r := h
  clear h
  replace H := Option.bind_eq_some_iff.mp H
  obtain ⟨t101, A20, H⟩ := H
  replace H : (some t101) = some r := H
  have A2 := Aside0.mk A20
  clear A20
  obtain rfl := Option.some.inj H
  go_enter Try.func61, Try.ntmps61
  go_wp2_with (first | ((with_reducible refine gate_callee (f := 67) rfl ?_); refine goesL_ (some 7) rfl rfl Try.func67 (by kernel_rfl) rfl #[.int .u64 a0] rfl (by (try simp only [List.map_toArray, List.map_cons, List.map_nil]); first | done | rfl | (simp only [List.length_drop, List.length_take]; rfl)) ?_; (with_reducible refine (bits_OnesCount64.calls a0 t101 _ A2.out).mono ?_); rintro e w' ⟨rfl, ⟨nd, rfl⟩⟩; refine ⟨_, rfl, ?_⟩))
  go_ret
  exact ⟨by first | rfl | (simp; done) | (simp [*]; done), by repeat (first | exact Drawn0.refl _ | apply Drawn0.step)⟩

/-! ### impl_count: function 48 -/
def impl_count.f (a0 : Int) : Option (Int) := (bits_OnesCount.f (IntKind.u64.wrap (a0))).bind fun t101 => (some t101)
set_option maxHeartbeats 8000000 in
set_option maxRecDepth 100000 in
theorem impl_count.calls (a0 : Int) (r : Int) (w : World) (h : impl_count.f a0 = some r) :
    Calls Try.prog 48 #[.int .i64 a0] w fun e w' => e = .returned (.int .i64 r) ∧ Drawn0 w w' := by
  have H : ((bits_OnesCount.f (IntKind.u64.wrap (a0))).bind fun t101 => (some t101)) = some r := h
  clear h
  replace H := Option.bind_eq_some_iff.mp H
  obtain ⟨t101, A20, H⟩ := H
  replace H : (some t101) = some r := H
  have A2 := Aside0.mk A20
  clear A20
  obtain rfl := Option.some.inj H
  go_enter Try.func48, Try.ntmps48
  go_wp2_with (first | ((with_reducible refine gate_callee (f := 61) rfl ?_); refine goesL_ (some 5) rfl rfl Try.func61 (by kernel_rfl) rfl #[.int .u64 (IntKind.u64.wrap (a0))] rfl (by (try simp only [List.map_toArray, List.map_cons, List.map_nil]); first | done | rfl | (simp only [List.length_drop, List.length_take]; rfl)) ?_; (with_reducible refine (bits_OnesCount.calls (IntKind.u64.wrap (a0)) t101 _ A2.out).mono ?_); rintro e w' ⟨rfl, ⟨nd, rfl⟩⟩; refine ⟨_, rfl, ?_⟩))
  go_ret
  exact ⟨by first | rfl | (simp; done) | (simp [*]; done), by repeat (first | exact Drawn0.refl _ | apply Drawn0.step)⟩

-- HAND with impl.count+math/bits.OnesCount+math/bits.OnesCount64
theorem count_ok128 : ∀ x : Fin 128, impl_count.f ((x.val : Nat) : Int) = some ((cntN x.val : Nat) : Int) := by decide +kernel
theorem count_ok {x : Int} (h : I128 x) : impl_count.f x = some (cntN x.toNat : Int) := by
  have := count_ok128 ⟨x.toNat, by have := h.2; have := h.1; omega⟩
  rwa [show ((x.toNat : Nat) : Int) = x by have := h.1; omega] at this

/-! ### impl_Space_paths: function 29 -/
def impl_Space_paths.l0 : Nat → List Bool → List Int → List Int → Int → Int → Option (List Int)
  | 0, _, _, _, _, _ => none
  | k + 1, x3, x4, x11, x12, x13 => if x13 < x12 then (if 0 ≤ x13 then (if x13 < (x11.length : Int) then ((impl_family_inner.f x3 (rd x11 x13)).bind fun t109 => ((impl_count.f t109).bind fun t110 => (if t110 = 1 then (if x4.length < 17592186044416 then (impl_Space_paths.l0 k x3 (x4 ++ [rd x11 x13]) x11 x12 (wrap64 (x13 + 1))) else (none)) else (impl_Space_paths.l0 k x3 x4 x11 x12 (wrap64 (x13 + 1)))))) else (none)) else (none)) else (some x4)
def impl_Space_paths.f (k : Nat) (a0_0 : Int) (l0_1 : List Int) : Option (List Int) := (impl_Space_family.f a0_0 l0_1).bind fun t102 => (impl_Space_paths.l0 k t102 (([] : List Int)) l0_1 (l0_1.length : Int) 0)
theorem impl_Space_paths.mono_l : ∀ k, (∀ y0 y1 y2 y3 y4, LeO (impl_Space_paths.l0 k y0 y1 y2 y3 y4) (impl_Space_paths.l0 (k + 1) y0 y1 y2 y3 y4))
  | 0 => fun _ _ _ _ _ r h => by simp [impl_Space_paths.l0] at h
  | k + 1 => by
    have ih0 := impl_Space_paths.mono_l k
    · intro y0 y1 y2 y3 y4
      unfold impl_Space_paths.l0
      repeat' first
      | (with_reducible exact ih0 _ _ _ _ _)
      | (with_reducible exact LeO.refl _)
      | (with_reducible exact LeO.none _)
      | (with_reducible refine LeO.ite ?_ ?_)
      | (with_reducible refine LeO.bind ?_ (fun _ => ?_))
      | exact ih0 _ _ _ _ _
      | exact LeO.none _
      | refine LeO.ite ?_ ?_
      | refine LeO.bind ?_ (fun _ => ?_)
theorem impl_Space_paths.mono : ∀ a0 a1 k, LeO (impl_Space_paths.f k a0 a1) (impl_Space_paths.f (k + 1) a0 a1) := by
  intro a0 a1 k
  have ih0 := impl_Space_paths.mono_l k
  unfold impl_Space_paths.f
  repeat' first
      | (with_reducible exact ih0 _ _ _ _ _)
      | (with_reducible exact LeO.refl _)
      | (with_reducible exact LeO.none _)
      | (with_reducible refine LeO.ite ?_ ?_)
      | (with_reducible refine LeO.bind ?_ (fun _ => ?_))
      | exact ih0 _ _ _ _ _
      | exact LeO.none _
      | refine LeO.ite ?_ ?_
      | refine LeO.bind ?_ (fun _ => ?_)
set_option maxHeartbeats 8000000 in
set_option maxRecDepth 100000 in
theorem impl_Space_paths.calls (k : Nat) (a0_0 : Int) (A0_1 : Option Addr) (c0_1 : Nat) (l0_1 : List Int) (r : List Int) (w : World) (hr0_1 : Kd.C (Kd.int .i64) w A0_1 l0_1.length l0_1) (hc0_1 : l0_1.length ≤ c0_1) (h : impl_Space_paths.f k a0_0 l0_1 = some r) :
    Calls Try.prog 29 #[.agg #[.int .i64 a0_0, .slice A0_1 l0_1.length c0_1]] w fun e w' => ∃ v0_ : Value, e = .returned (v0_) ∧ Kd.R (Kd.int .i64) 3 w' w.heap.size (fun _ => True) v0_ r ∧ Below w.heap.size w w' := by
  have hu28 := Try.underlying28
  have HR0_1 := Aside0.mk hr0_1
  have HC0_1 := Aside0.mk hc0_1
  clear hr0_1 hc0_1
  have HB := Aside0.mk (Below.refl w.heap.size w)
  have H : ((impl_Space_family.f a0_0 l0_1).bind fun t102 => (impl_Space_paths.l0 k t102 (([] : List Int)) l0_1 (l0_1.length : Int) 0)) = some r := h
  clear h
  replace H := Option.bind_eq_some_iff.mp H
  obtain ⟨t102, A20, H⟩ := H
  replace H : (impl_Space_paths.l0 k t102 (([] : List Int)) l0_1 (l0_1.length : Int) 0) = some r := H
  have A2 := Aside0.mk A20
  clear A20
  have HLt102 := Aside0.mk (impl_Space_family.len A2.out)
  obtain ⟨y105, hy105⟩ : ∃ y_ : List Int, y_ = (([] : List Int)) := ⟨_, rfl⟩
  replace H : (impl_Space_paths.l0 k t102 y105 l0_1 (l0_1.length : Int) 0) = some r := by first | (rw [hy105]; with_reducible exact H) | (have H2_ := (Option.bind_some _ _).symm.trans H; rw [hy105]; with_reducible exact H2_) | (have H2_ := (Option.bind_some _ _).symm.trans H; with_reducible exact H2_) | with_reducible exact H | (rw [hy105]; exact H) | exact H
  have Ny105 := Aside0.mk hy105
  clear hy105
  have H' := Aside0.mk H
  clear H
  go_enter Try.func29, Try.ntmps29
  go_wp2_with (first | ((with_reducible refine gate_dst (N := 1) rfl ?_); refine box_event ?hg (N := 1) ?hd (cs := #[.int .i64 a0_0, .slice A0_1 l0_1.length c0_1]) (t := 28) ?hr ?_; (case hd => rfl); (case hg => rfl); (case hr => first | (go_simp; done) | (go_simp; rfl)); intro gb101 hg w3 hbox hb; have n0_ := Aside0.mk (below_step (by repeat (first | (with_reducible first | exact HB.out | apply below_alloc | apply pw_below_drewN | apply below_drew1) | exact HB.out)) hb); have n1_ := Aside0.mk (hbox); have n2_ := Aside0.mk ((by rw [hg]; exact (below_size (by repeat (first | (with_reducible first | exact HB.out | apply below_alloc | apply pw_below_drewN | apply below_drew1) | exact HB.out))) : w.heap.size ≤ gb101)); have n3_ := Aside0.mk ((by rw [hg]; exact (below_size (by repeat (first | (with_reducible first | exact HB.out | apply below_alloc | apply pw_below_drewN | apply below_drew1) | exact HB.out))) : w.heap.size ≤ gb101)); clear HB; have HB := n0_; have BK101 := n1_; have GW101 := n2_; have GE101 := n3_; clear n0_ n1_ n2_ n3_; clear hb hbox hg; have hcz4_0 : w3.cell? ⟨gb101, 0, none⟩ = some (.int .i64 a0_0) := (blk_cell BK101.out 0).trans rfl; have hcz4_1 : w3.cell? ⟨gb101, 1, none⟩ = some (.slice A0_1 l0_1.length c0_1) := (blk_cell BK101.out 1).trans rfl; have hfz4_0 := blk_frozen BK101.out 0; have hfz4_1 := blk_frozen BK101.out 1) | ((with_reducible refine gate_callee (f := 44) rfl ?_); refine goesL_ (some 8) rfl rfl Try.func44 (by kernel_rfl) rfl #[.agg #[.int .i64 a0_0, .slice A0_1 l0_1.length c0_1]] rfl (by (try simp only [List.map_toArray, List.map_cons, List.map_nil]); first | done | rfl | (simp only [List.length_drop, List.length_take]; rfl)) ?_; (with_reducible refine (impl_Space_family.calls a0_0 _ _ l0_1 t102 _ ?side1 ?side2 A2.out).mono ?_); (case side1 => repeat (first | exact (Kd.C_below HR0_1.out HB.out) | (with_reducible refine Kd.C_alloc ?_ _) | (with_reducible refine Kd.C_drewN ?_ _) | (with_reducible refine Kd.C_drew ?_))); (case side2 => exact HC0_1.out); rintro e w5 ⟨v103, rfl, ho0, hb⟩; refine ⟨_, rfl, ?_⟩; have n0_ := Aside0.mk (Kd.R_lower ho0 (below_size (by repeat (first | (with_reducible first | exact HB.out | apply below_alloc | apply pw_below_drewN | apply below_drew1 | refine below_set ?_ GE101.out) | exact HB.out)))); have n1_ := Aside0.mk (blk_below (g := gb101) (o := .cells #[.int .i64 a0_0, .slice A0_1 l0_1.length c0_1] 28 (0, 0)) (by (with_reducible repeat (first | refine blk_drewN ?_ _ | refine blk_drew ?_ | refine blk_alloc ?_ _)); exact BK101.out) hb); have n2_ := Aside0.mk (below_step (by repeat (first | (with_reducible first | exact HB.out | apply below_alloc | apply pw_below_drewN | apply below_drew1 | refine below_set ?_ GE101.out) | exact HB.out)) hb); clear BK101; clear HB; have HO104 := n0_; have BK101 := n1_; have HB := n2_; clear n0_ n1_ n2_; (try clear hb); (try clear hb2); (try clear hk); (try clear hi); (try clear ho0)) | ((with_reducible refine gate_dst (N := 9) rfl ?_); refine Kd.R_lit (Kd.int .i64) _ 3 ?hg (N := 9) ?hd (xs := ([] : List Int)) (inner := []) (ok := fun _ => True) (okp := fun _ => True) ?hr ?hp (fun _ hk => hk) trivial (Below.refl _ _) (Nat.le_refl _) (by simp) ?_; (case hd => rfl); (case hg => rfl); (case hr => first | (go_simp; done) | (go_simp; rfl)); (case hp => exact (Reps.none _ _)); intro v106 w6 ho7 hb hg_ hnew_; clear hg_ hnew_; (first | rw [← Ny105.out] at ho7 | (simp only [Int.reduceToNat] at ho7; rw [← Ny105.out] at ho7)); have n0_ := Aside0.mk (Kd.R_below (by (with_reducible repeat (first | apply Kd.R_alloc | apply Kd.R_drewN | apply Kd.R_drew)); exact HO104.out) hb); have n1_ := Aside0.mk (Kd.R_lower ho7 (below_size (by repeat (first | (with_reducible first | exact HB.out | apply below_alloc | apply pw_below_drewN | apply below_drew1 | refine below_set ?_ GE101.out) | exact HB.out)))); have n2_ := Aside0.mk (blk_below (g := gb101) (o := .cells #[.int .i64 a0_0, .slice A0_1 l0_1.length c0_1] 28 (0, 0)) (by (with_reducible repeat (first | refine blk_drewN ?_ _ | refine blk_drew ?_ | refine blk_alloc ?_ _)); exact BK101.out) hb); have n3_ := Aside0.mk (below_step (by repeat (first | (with_reducible first | exact HB.out | apply below_alloc | apply pw_below_drewN | apply below_drew1 | refine below_set ?_ GE101.out) | exact HB.out)) hb); clear HO104; clear BK101; clear HB; have HO104 := n0_; have HO107 := n1_; have BK101 := n2_; have HB := n3_; clear n0_ n1_ n2_ n3_; clear hb ho7; have hcz8_0 : w6.cell? ⟨gb101, 0, none⟩ = some (.int .i64 a0_0) := (blk_cell BK101.out 0).trans rfl; have hcz8_1 : w6.cell? ⟨gb101, 1, none⟩ = some (.slice A0_1 l0_1.length c0_1) := (blk_cell BK101.out 1).trans rfl; have hfz8_0 := blk_frozen BK101.out 0; have hfz8_1 := blk_frozen BK101.out 1))
  go_loopg [4, 13] k (fun kq v4 v13 w' => ∃ (x4_1 : List Int) (x13_1 : Int), v13 = .int .i64 x13_1 ∧ Aside0 (impl_Space_paths.l0 kq t102 x4_1 l0_1 (l0_1.length : Int) x13_1 = some r) ∧ Aside0 (kq ≤ k) ∧ Aside0 (Kd.R Kd.bool 62 w' w.heap.size (fun _ => True) v103 t102) ∧ Aside0 (Kd.R (Kd.int .i64) 3 w' w.heap.size (fun _ => True) v4 x4_1) ∧ Aside0 (w'.heap[gb101]? = some (.cells #[.int .i64 a0_0, (.slice A0_1 l0_1.length c0_1)] 28 (0, 0))) ∧ Aside0 (Below w.heap.size w w'))
  case atStart => exact ⟨(y105), (0), (by first | rfl | (simp; done) | (simp [*]; done)), H', ⟨Nat.le_refl _⟩, ⟨by (with_reducible repeat (first | apply Kd.R_alloc | apply Kd.R_drewN | apply Kd.R_drew)); exact HO104.out⟩, ⟨by (with_reducible repeat (first | apply Kd.R_alloc | apply Kd.R_drewN | apply Kd.R_drew)); exact HO107.out⟩, ⟨by (with_reducible repeat (first | refine blk_drewN ?_ _ | refine blk_drew ?_ | refine blk_alloc ?_ _)); exact BK101.out⟩, ⟨by repeat (first | (with_reducible first | exact HB.out | apply below_alloc | apply pw_below_drewN | apply below_drew1 | refine below_set ?_ GE101.out) | exact HB.out)⟩⟩
  case round =>
    clear H'
    try clear c2
    try clear p2
    try clear c4
    try clear hcz4_0
    try clear hcz4_1
    try clear hcz8_0
    try clear hcz8_1
    try clear hfz4_0
    try clear hfz4_1
    try clear hfz8_0
    try clear hfz8_1
    obtain ⟨x4_1, x13_1, rfl, HA, HK1, HO_3, HO_4, BK101, HB⟩ := hrel
    cases gk with
    | zero => exact absurd HA.out (by simp [impl_Space_paths.l0])
    | succ k1 =>
      have H := HA.out
      clear HA
      simp only [impl_Space_paths.l0] at H
      by_cases c9 : x13_1 < (l0_1.length : Int)
      · rw [if_pos c9] at H
        have c9b0 : decide (x13_1 < (l0_1.length : Int)) = true := decide_eq_true c9
        clear c9
        by_cases c10 : 0 ≤ x13_1
        · rw [if_pos c10] at H
          have c10b0 : decide (0 ≤ x13_1) = true := decide_eq_true c10
          clear c10
          by_cases c11 : x13_1 < (l0_1.length : Int)
          · rw [if_pos c11] at H
            have c11b0 : decide (x13_1 < (l0_1.length : Int)) = true := decide_eq_true c11
            clear c11
            replace H := Option.bind_eq_some_iff.mp H
            obtain ⟨t109, A120, H⟩ := H
            replace H : ((impl_count.f t109).bind fun t110 => (if t110 = 1 then (if x4_1.length < 17592186044416 then (impl_Space_paths.l0 k1 t102 (x4_1 ++ [rd l0_1 x13_1]) l0_1 (l0_1.length : Int) (wrap64 (x13_1 + 1))) else (none)) else (impl_Space_paths.l0 k1 t102 x4_1 l0_1 (l0_1.length : Int) (wrap64 (x13_1 + 1))))) = some r := H
            have A12 := Aside0.mk A120
            clear A120
            replace H := Option.bind_eq_some_iff.mp H
            obtain ⟨t110, A130, H⟩ := H
            replace H : (if t110 = 1 then (if x4_1.length < 17592186044416 then (impl_Space_paths.l0 k1 t102 (x4_1 ++ [rd l0_1 x13_1]) l0_1 (l0_1.length : Int) (wrap64 (x13_1 + 1))) else (none)) else (impl_Space_paths.l0 k1 t102 x4_1 l0_1 (l0_1.length : Int) (wrap64 (x13_1 + 1)))) = some r := H
            have A13 := Aside0.mk A130
            clear A130
            by_cases c14 : t110 = 1
            · rw [if_pos c14] at H
              have c14b0 : (t110 == 1) = true := beq_iff_eq.mpr c14
              have c14b1 : (t110 != 1) = false := bne_eq_false_iff_eq.mpr c14
              clear c14
              by_cases c15 : x4_1.length < 17592186044416
              · rw [if_pos c15] at H
                have LMc15 := Aside0.mk c15
                clear c15
                obtain ⟨y111, hy111⟩ : ∃ y_ : List Int, y_ = (x4_1 ++ [rd l0_1 x13_1]) := ⟨_, rfl⟩
                replace H : (impl_Space_paths.l0 k1 t102 y111 l0_1 (l0_1.length : Int) (wrap64 (x13_1 + 1))) = some r := by first | (rw [hy111]; with_reducible exact H) | (have H2_ := (Option.bind_some _ _).symm.trans H; rw [hy111]; with_reducible exact H2_) | (have H2_ := (Option.bind_some _ _).symm.trans H; with_reducible exact H2_) | with_reducible exact H | (rw [hy111]; exact H) | exact H
                have Ny111 := Aside0.mk hy111
                clear hy111
                have H' := Aside0.mk H
                clear H
                have p108 : 0 ≤ (x13_1 : Int) := of_decide_eq_true (by first | (with_reducible assumption) | assumption)
                have q108 : x13_1 < (l0_1.length : Int) := of_decide_eq_true (by first | (with_reducible assumption) | assumption)
                obtain ⟨ad108, e108, hx108_0⟩ := Kd.at_int HR0_1.out x13_1 p108 q108
                cases e108
                replace hx108_0 := (HB.out.cell (World.block_lt_of_cell? w _ hx108_0)).trans hx108_0
                replace p108 := eq_true p108
                replace q108 := eq_true q108
                obtain ⟨Ao16, co16, eo16⟩ := Kd.R_slice HO_3.out
                subst eo16
                (try simp only [ptrOf_slice])
                go_wp2_with (first | ((with_reducible refine gate_callee (f := 46) rfl ?_); refine goesL_ (some 19) rfl rfl Try.func46 (by kernel_rfl) rfl #[.pointer Ao16, .int .i64 (rd l0_1 x13_1)] rfl (by (try simp only [List.map_toArray, List.map_cons, List.map_nil]); first | done | rfl | (simp only [List.length_drop, List.length_take]; rfl)) ?_; (with_reducible refine (impl_family_inner.calls _ co16 t102 (rd l0_1 x13_1) t109 _ ?side1 ?side2 A12.out).mono ?_); (case side1 => repeat (first | exact (Kd.R_reads' HO_3.out).2.2 | (with_reducible refine Kd.C_alloc ?_ _) | (with_reducible refine Kd.C_drewN ?_ _) | (with_reducible refine Kd.C_drew ?_))); (case side2 => exact (Kd.R_reads' HO_3.out).2.1); rintro e w17 ⟨rfl, hb⟩; refine ⟨_, rfl, ?_⟩; have n0_ := Aside0.mk (Kd.R_below (by (with_reducible repeat (first | apply Kd.R_alloc | apply Kd.R_drewN | apply Kd.R_drew)); exact HO_3.out) hb); have n1_ := Aside0.mk (Kd.R_below (by (with_reducible repeat (first | apply Kd.R_alloc | apply Kd.R_drewN | apply Kd.R_drew)); exact HO_4.out) hb); have n2_ := Aside0.mk (blk_below (g := gb101) (o := .cells #[.int .i64 a0_0, .slice (some ad108) l0_1.length c0_1] 28 (0, 0)) (by (with_reducible repeat (first | refine blk_drewN ?_ _ | refine blk_drew ?_ | refine blk_alloc ?_ _)); exact BK101.out) hb); have n3_ := Aside0.mk (below_step (by repeat (first | (with_reducible first | exact HB.out | apply below_alloc | apply pw_below_drewN | apply below_drew1 | refine below_set ?_ GE101.out) | exact HB.out)) hb); clear HO_3; clear HO_4; clear BK101; clear HB; have HO_3 := n0_; have HO_4 := n1_; have BK101 := n2_; have HB := n3_; clear n0_ n1_ n2_ n3_; (try clear hb); (try clear hb2); (try clear hk); (try clear hi)) | ((with_reducible refine gate_callee (f := 48) rfl ?_); refine goesL_ (some 20) rfl rfl Try.func48 (by kernel_rfl) rfl #[.int .i64 t109] rfl (by (try simp only [List.map_toArray, List.map_cons, List.map_nil]); first | done | rfl | (simp only [List.length_drop, List.length_take]; rfl)) ?_; (with_reducible refine (impl_count.calls t109 t110 _ A13.out).mono ?_); rintro e w' ⟨rfl, ⟨nd, rfl⟩⟩; refine ⟨_, rfl, ?_⟩) | ((with_reducible refine gate_builtin (b := .append) (xs := #[.tmp 22, .tmp 24]) rfl ?_); at_builtin; refine Kd.R_append (Kd.int .i64) (w0 := w) w.heap.size rfl (.tmp 22) (.tmp 24) 22 3 (.int .i64 0) 8 rfl Try.underlying22 info3 rfl (by decide) (by omega) u4 x4_1 (rd l0_1 x13_1) [.int .i64 (rd l0_1 x13_1)] (fun _ => True) (fun _ => False) rfl rfl ?aP (fun _ hk => hk.elim) ?aF ?aO ?aB ?aS ?aL ?_; (case aP => exact rfl); (case aB => exact (by repeat (first | (with_reducible first | exact HB.out | apply below_alloc | apply pw_below_drewN | apply below_drew1 | refine below_set ?_ GE101.out) | exact HB.out))); (case aF => exact (fun _ _ => trivial)); (case aO => exact (by (with_reducible repeat (first | apply Kd.R_alloc | apply Kd.R_drewN | apply Kd.R_drew)); exact HO_4.out)); (case aS => exact (below_size (by repeat (first | (with_reducible first | exact HB.out | apply below_alloc | apply pw_below_drewN | apply below_drew1 | refine below_set ?_ GE101.out) | exact HB.out)))); (case aL => have := LMc15.out; omega); intro v112 w18 ho hb hg hat; rw [← Ny111.out] at ho; have n0_ := Aside0.mk (Kd.R_over' (by (with_reducible repeat (first | apply Kd.R_alloc | apply Kd.R_drewN | apply Kd.R_drew)); exact HO_3.out) (Kd.R_typed (by (with_reducible repeat (first | apply Kd.R_alloc | apply Kd.R_drewN | apply Kd.R_drew)); exact HO_4.out)) (by decide) hg); have n1_ := Aside0.mk (blk_grown (g := gb101) (o := .cells #[.int .i64 a0_0, .slice (some ad108) l0_1.length c0_1] 28 (0, 0)) (by (with_reducible repeat (first | refine blk_drewN ?_ _ | refine blk_drew ?_ | refine blk_alloc ?_ _)); exact BK101.out) hg (Kd.R_ne HO_4.out BK101.out (by decide))); have n2_ := Aside0.mk (hb); have n3_ := Aside0.mk (ho); clear HO_3; clear BK101; clear HB; clear HO_4; have HO_3 := n0_; have BK101 := n1_; have HB := n2_; have HO113 := n3_; clear n0_ n1_ n2_ n3_; clear ho hb hg hat))
                go_roundg k1
                case measure => have := HK1.out; omega
                case rel => exact ⟨(y111), (wrap64 (x13_1 + 1)), (by first | rfl | (simp; done) | (simp [*]; done)), H', ⟨by have := HK1.out; omega⟩, ⟨by (with_reducible repeat (first | apply Kd.R_alloc | apply Kd.R_drewN | apply Kd.R_drew)); exact HO_3.out⟩, ⟨by (with_reducible repeat (first | apply Kd.R_alloc | apply Kd.R_drewN | apply Kd.R_drew)); exact HO113.out⟩, ⟨by (with_reducible repeat (first | refine blk_drewN ?_ _ | refine blk_drew ?_ | refine blk_alloc ?_ _)); exact BK101.out⟩, ⟨by repeat (first | (with_reducible first | exact HB.out | apply below_alloc | apply pw_below_drewN | apply below_drew1 | refine below_set ?_ GE101.out) | exact HB.out)⟩⟩
              · rw [if_neg c15] at H
                exact absurd H (by simp)
            · rw [if_neg c14] at H
              have c14b0 : (t110 == 1) = false := beq_eq_false_iff_ne.mpr c14
              have c14b1 : (t110 != 1) = true := bne_iff_ne.mpr c14
              have H' := Aside0.mk H
              clear H
              have p108 : 0 ≤ (x13_1 : Int) := of_decide_eq_true (by first | (with_reducible assumption) | assumption)
              have q108 : x13_1 < (l0_1.length : Int) := of_decide_eq_true (by first | (with_reducible assumption) | assumption)
              obtain ⟨ad108, e108, hx108_0⟩ := Kd.at_int HR0_1.out x13_1 p108 q108
              cases e108
              replace hx108_0 := (HB.out.cell (World.block_lt_of_cell? w _ hx108_0)).trans hx108_0
              replace p108 := eq_true p108
              replace q108 := eq_true q108
              obtain ⟨Ao19, co19, eo19⟩ := Kd.R_slice HO_3.out
              subst eo19
              (try simp only [ptrOf_slice])
              go_wp2_with (first | ((with_reducible refine gate_callee (f := 46) rfl ?_); refine goesL_ (some 19) rfl rfl Try.func46 (by kernel_rfl) rfl #[.pointer Ao19, .int .i64 (rd l0_1 x13_1)] rfl (by (try simp only [List.map_toArray, List.map_cons, List.map_nil]); first | done | rfl | (simp only [List.length_drop, List.length_take]; rfl)) ?_; (with_reducible refine (impl_family_inner.calls _ co19 t102 (rd l0_1 x13_1) t109 _ ?side1 ?side2 A12.out).mono ?_); (case side1 => repeat (first | exact (Kd.R_reads' HO_3.out).2.2 | (with_reducible refine Kd.C_alloc ?_ _) | (with_reducible refine Kd.C_drewN ?_ _) | (with_reducible refine Kd.C_drew ?_))); (case side2 => exact (Kd.R_reads' HO_3.out).2.1); rintro e w20 ⟨rfl, hb⟩; refine ⟨_, rfl, ?_⟩; have n0_ := Aside0.mk (Kd.R_below (by (with_reducible repeat (first | apply Kd.R_alloc | apply Kd.R_drewN | apply Kd.R_drew)); exact HO_3.out) hb); have n1_ := Aside0.mk (Kd.R_below (by (with_reducible repeat (first | apply Kd.R_alloc | apply Kd.R_drewN | apply Kd.R_drew)); exact HO_4.out) hb); have n2_ := Aside0.mk (blk_below (g := gb101) (o := .cells #[.int .i64 a0_0, .slice (some ad108) l0_1.length c0_1] 28 (0, 0)) (by (with_reducible repeat (first | refine blk_drewN ?_ _ | refine blk_drew ?_ | refine blk_alloc ?_ _)); exact BK101.out) hb); have n3_ := Aside0.mk (below_step (by repeat (first | (with_reducible first | exact HB.out | apply below_alloc | apply pw_below_drewN | apply below_drew1 | refine below_set ?_ GE101.out) | exact HB.out)) hb); clear HO_3; clear HO_4; clear BK101; clear HB; have HO_3 := n0_; have HO_4 := n1_; have BK101 := n2_; have HB := n3_; clear n0_ n1_ n2_ n3_; (try clear hb); (try clear hb2); (try clear hk); (try clear hi)) | ((with_reducible refine gate_callee (f := 48) rfl ?_); refine goesL_ (some 20) rfl rfl Try.func48 (by kernel_rfl) rfl #[.int .i64 t109] rfl (by (try simp only [List.map_toArray, List.map_cons, List.map_nil]); first | done | rfl | (simp only [List.length_drop, List.length_take]; rfl)) ?_; (with_reducible refine (impl_count.calls t109 t110 _ A13.out).mono ?_); rintro e w' ⟨rfl, ⟨nd, rfl⟩⟩; refine ⟨_, rfl, ?_⟩))
              go_roundg k1
              case measure => have := HK1.out; omega
              case rel => exact ⟨(x4_1), (wrap64 (x13_1 + 1)), (by first | rfl | (simp; done) | (simp [*]; done)), H', ⟨by have := HK1.out; omega⟩, ⟨by (with_reducible repeat (first | apply Kd.R_alloc | apply Kd.R_drewN | apply Kd.R_drew)); exact HO_3.out⟩, ⟨by (with_reducible repeat (first | apply Kd.R_alloc | apply Kd.R_drewN | apply Kd.R_drew)); exact HO_4.out⟩, ⟨by (with_reducible repeat (first | refine blk_drewN ?_ _ | refine blk_drew ?_ | refine blk_alloc ?_ _)); exact BK101.out⟩, ⟨by repeat (first | (with_reducible first | exact HB.out | apply below_alloc | apply pw_below_drewN | apply below_drew1 | refine below_set ?_ GE101.out) | exact HB.out)⟩⟩
          · rw [if_neg c11] at H
            exact absurd H (by simp)
        · rw [if_neg c10] at H
          exact absurd H (by simp)
      · rw [if_neg c9] at H
        have c9b0 : decide (x13_1 < (l0_1.length : Int)) = false := decide_eq_false c9
        clear c9
        obtain rfl := Option.some.inj H
        go_wp2
        go_ret
        exact ⟨_, by first | rfl | (simp [errW_none, errW_some] <;> rfl) | (simp [*, errW_none, errW_some] <;> rfl), by (with_reducible repeat (first | apply Kd.R_alloc | apply Kd.R_drewN | apply Kd.R_drew)); exact HO_4.out, by repeat (first | (with_reducible first | exact HB.out | apply below_alloc | apply pw_below_drewN | apply below_drew1 | refine below_set ?_ GE101.out) | exact HB.out)⟩

-- HAND with (impl.Space).paths+(*impl.family).inner+impl.count+(impl.Space).family
theorem paths_loop {l : List Int} (F : List Bool) (hF : F.length = 128) (hM : ∀ x ∈ l, 0 ≤ x ∧ x < 128) (hlen : l.length < 1048577) : ∀ (d i : Nat) (acc : List Int), l.length - i = d → i ≤ l.length → acc.length + d ≤ l.length → Ev (fun k => impl_Space_paths.l0 k F acc l l.length i) (acc ++ pathsL F (l.drop i))
  | 0, i, acc, hd, hi, ha => by
    rw [List.drop_of_length_le (by omega)]
    exact Ev.succ (fun k => by simp only [impl_Space_paths.l0]; rw [if_neg (by omega)]) (Ev.const (by unfold pathsL; simp))
  | d + 1, i, acc, hd, hi, ha => by
    have hlt : i < l.length := by omega
    obtain ⟨h0, h1⟩ := hM l[i] (List.getElem_mem hlt)
    have hn := fun acc' h' => paths_loop F hF hM hlen d (i + 1) acc' (by omega) (by omega) h'
    push_cast at hn
    have hws : wrap64 ((i : Int) + 1) = i + 1 := wrap_succ (by omega) (by omega)
    rw [List.drop_eq_getElem_cons hlt]
    have hc := count_ok (x := (innerF F l[i].toNat : Int)) ⟨by omega, by have := innerF_lt F l[i].toNat; exact Int.ofNat_lt.2 this⟩
    rw [Int.toNat_natCast] at hc
    refine Ev.succ (fun k => by simp only [impl_Space_paths.l0]; rw [if_pos (by omega), if_pos (by omega), if_pos (by omega), hws, rd_get hlt]) ?_
    refine Ev.bindc (inner_f F hF l[i] h0 h1) ?_
    refine Ev.bindc hc ?_
    by_cases h : cntN (innerF F l[i].toNat) = 1
    · refine Ev.to (fun k => by rw [if_pos (by rw [h]; rfl), if_pos (by omega)]) ?_
      refine Ev.val (hn (acc ++ [l[i]]) (by rw [List.length_append, List.length_singleton]; omega)) ?_
      unfold pathsL
      rw [List.filter_cons, if_pos (decide_eq_true h), List.append_assoc]
      rfl
    · refine Ev.to (fun k => by rw [if_neg (fun e => h (by exact_mod_cast e))]) ?_
      refine Ev.val (hn acc (by omega)) ?_
      unfold pathsL
      rw [List.filter_cons, if_neg (by rw [decide_eq_false h]; decide)]
theorem paths_ok {n : Int} {l : List Int} (hS : isSpaceB n l = true) (hlen : l.length < 1048577) : Ev (fun k => impl_Space_paths.f k n l) (pathsL (famOf l) l) := by
  unfold impl_Space_paths.f
  refine Ev.bindc (family_f hS) ?_
  exact paths_loop (famOf l) (famOf_length l) (isSpaceB_128 hS) hlen l.length 0 [] (by omega) (by omega) (by simp)

/-! ### impl_WidthOf: function 10 -/
def impl_WidthOf.f (k : Nat) (a0_0 : Int) (l0_1 : List Int) : Option (Int × Bool) := (impl_IsSpace.f a0_0 l0_1).bind fun t102 => (if t102 = true then ((impl_Space_paths.f k a0_0 l0_1).bind fun t103 => ((impl_width.f k t103).bind fun t106 => (some (t106, true)))) else (some (0, false)))
theorem impl_WidthOf.mono : ∀ a0 a1 k, LeO (impl_WidthOf.f k a0 a1) (impl_WidthOf.f (k + 1) a0 a1) := by
  intro a0 a1 k
  unfold impl_WidthOf.f
  repeat' first
      | (with_reducible exact impl_Space_paths.mono _ _ _)
      | (with_reducible exact impl_width.mono _ _)
      | (with_reducible exact LeO.refl _)
      | (with_reducible exact LeO.none _)
      | (with_reducible refine LeO.ite ?_ ?_)
      | (with_reducible refine LeO.bind ?_ (fun _ => ?_))
      | exact impl_Space_paths.mono _ _ _
      | exact impl_width.mono _ _
      | exact LeO.none _
      | refine LeO.ite ?_ ?_
      | refine LeO.bind ?_ (fun _ => ?_)
set_option maxHeartbeats 8000000 in
set_option maxRecDepth 100000 in
theorem impl_WidthOf.calls (k : Nat) (a0_0 : Int) (A0_1 : Option Addr) (c0_1 : Nat) (l0_1 : List Int) (r1 : Int) (r2 : Bool) (w : World) (hr0_1 : Kd.C (Kd.int .i64) w A0_1 l0_1.length l0_1) (hc0_1 : l0_1.length ≤ c0_1) (h : impl_WidthOf.f k a0_0 l0_1 = some (r1, r2)) :
    Calls Try.prog 10 #[.agg #[.int .i64 a0_0, .slice A0_1 l0_1.length c0_1]] w fun e w' => e = .returned (.tuple #[.int .i64 r1, .bool r2]) ∧ Below w.heap.size w w' := by
  have hu28 := Try.underlying28
  have HR0_1 := Aside0.mk hr0_1
  have HC0_1 := Aside0.mk hc0_1
  clear hr0_1 hc0_1
  have HB := Aside0.mk (Below.refl w.heap.size w)
  have H : ((impl_IsSpace.f a0_0 l0_1).bind fun t102 => (if t102 = true then ((impl_Space_paths.f k a0_0 l0_1).bind fun t103 => ((impl_width.f k t103).bind fun t106 => (some (t106, true)))) else (some (0, false)))) = some (r1, r2) := h
  clear h
  replace H := Option.bind_eq_some_iff.mp H
  obtain ⟨t102, A20, H⟩ := H
  replace H : (if t102 = true then ((impl_Space_paths.f k a0_0 l0_1).bind fun t103 => ((impl_width.f k t103).bind fun t106 => (some (t106, true)))) else (some (0, false))) = some (r1, r2) := H
  have A2 := Aside0.mk A20
  clear A20
  by_cases c3 : t102 = true
  · subst c3
    have H1 : ((impl_Space_paths.f k a0_0 l0_1).bind fun t103 => ((impl_width.f k t103).bind fun t106 => (some (t106, true)))) = some (r1, r2) := by rw [if_pos rfl] at H; exact H
    clear H
    have H := H1
    clear H1
    replace H := Option.bind_eq_some_iff.mp H
    obtain ⟨t103, A40, H⟩ := H
    replace H : ((impl_width.f k t103).bind fun t106 => (some (t106, true))) = some (r1, r2) := H
    have A4 := Aside0.mk A40
    clear A40
    replace H := Option.bind_eq_some_iff.mp H
    obtain ⟨t106, A50, H⟩ := H
    replace H : (some (t106, true)) = some (r1, r2) := H
    have A5 := Aside0.mk A50
    clear A50
    simp only [Option.some.injEq, Prod.mk.injEq] at H
    obtain ⟨rfl, rfl⟩ := H
    go_enter Try.func10, Try.ntmps10
    go_wp2_with (first | ((with_reducible refine gate_dst (N := 1) rfl ?_); refine box_event ?hg (N := 1) ?hd (cs := #[.int .i64 a0_0, .slice A0_1 l0_1.length c0_1]) (t := 28) ?hr ?_; (case hd => rfl); (case hg => rfl); (case hr => first | (go_simp; done) | (go_simp; rfl)); intro gb101 hg w6 hbox hb; have n0_ := Aside0.mk (below_step (by repeat (first | (with_reducible first | exact HB.out | apply below_alloc | apply pw_below_drewN | apply below_drew1) | exact HB.out)) hb); have n1_ := Aside0.mk (hbox); have n2_ := Aside0.mk ((by rw [hg]; exact (below_size (by repeat (first | (with_reducible first | exact HB.out | apply below_alloc | apply pw_below_drewN | apply below_drew1) | exact HB.out))) : w.heap.size ≤ gb101)); have n3_ := Aside0.mk ((by rw [hg]; exact (below_size (by repeat (first | (with_reducible first | exact HB.out | apply below_alloc | apply pw_below_drewN | apply below_drew1) | exact HB.out))) : w.heap.size ≤ gb101)); clear HB; have HB := n0_; have BK101 := n1_; have GW101 := n2_; have GE101 := n3_; clear n0_ n1_ n2_ n3_; clear hb hbox hg; have hcz7_0 : w6.cell? ⟨gb101, 0, none⟩ = some (.int .i64 a0_0) := (blk_cell BK101.out 0).trans rfl; have hcz7_1 : w6.cell? ⟨gb101, 1, none⟩ = some (.slice A0_1 l0_1.length c0_1) := (blk_cell BK101.out 1).trans rfl; have hfz7_0 := blk_frozen BK101.out 0; have hfz7_1 := blk_frozen BK101.out 1) | ((with_reducible refine gate_callee (f := 27) rfl ?_); refine goesL_ (some 5) rfl rfl Try.func27 (by kernel_rfl) rfl #[.agg #[.int .i64 a0_0, .slice A0_1 l0_1.length c0_1]] rfl (by (try simp only [List.map_toArray, List.map_cons, List.map_nil]); first | done | rfl | (simp only [List.length_drop, List.length_take]; rfl)) ?_; (with_reducible refine (impl_IsSpace.calls a0_0 _ _ l0_1 true _ ?side1 ?side2 A2.out).mono ?_); (case side1 => repeat (first | exact (Kd.C_below HR0_1.out HB.out) | (with_reducible refine Kd.C_alloc ?_ _) | (with_reducible refine Kd.C_drewN ?_ _) | (with_reducible refine Kd.C_drew ?_))); (case side2 => exact HC0_1.out); rintro e w8 ⟨rfl, hb⟩; refine ⟨_, rfl, ?_⟩; have n0_ := Aside0.mk (blk_below (g := gb101) (o := .cells #[.int .i64 a0_0, .slice A0_1 l0_1.length c0_1] 28 (0, 0)) (by (with_reducible repeat (first | refine blk_drewN ?_ _ | refine blk_drew ?_ | refine blk_alloc ?_ _)); exact BK101.out) hb); have n1_ := Aside0.mk (below_step (by repeat (first | (with_reducible first | exact HB.out | apply below_alloc | apply pw_below_drewN | apply below_drew1 | refine below_set ?_ GE101.out) | exact HB.out)) hb); clear BK101; clear HB; have BK101 := n0_; have HB := n1_; clear n0_ n1_; (try clear hb); (try clear hb2); (try clear hk); (try clear hi); have hcz9_0 : w8.cell? ⟨gb101, 0, none⟩ = some (.int .i64 a0_0) := (blk_cell BK101.out 0).trans rfl; have hcz9_1 : w8.cell? ⟨gb101, 1, none⟩ = some (.slice A0_1 l0_1.length c0_1) := (blk_cell BK101.out 1).trans rfl; have hfz9_0 := blk_frozen BK101.out 0; have hfz9_1 := blk_frozen BK101.out 1) | ((with_reducible refine gate_callee (f := 29) rfl ?_); refine goesL_ (some 8) rfl rfl Try.func29 (by kernel_rfl) rfl #[.agg #[.int .i64 a0_0, .slice A0_1 l0_1.length c0_1]] rfl (by (try simp only [List.map_toArray, List.map_cons, List.map_nil]); first | done | rfl | (simp only [List.length_drop, List.length_take]; rfl)) ?_; (with_reducible refine (impl_Space_paths.calls k a0_0 _ _ l0_1 t103 _ ?side1 ?side2 A4.out).mono ?_); (case side1 => repeat (first | exact (Kd.C_below HR0_1.out HB.out) | (with_reducible refine Kd.C_alloc ?_ _) | (with_reducible refine Kd.C_drewN ?_ _) | (with_reducible refine Kd.C_drew ?_))); (case side2 => exact HC0_1.out); rintro e w10 ⟨v104, rfl, ho0, hb⟩; refine ⟨_, rfl, ?_⟩; have n0_ := Aside0.mk (Kd.R_lower ho0 (below_size (by repeat (first | (with_reducible first | exact HB.out | apply below_alloc | apply pw_below_drewN | apply below_drew1 | refine below_set ?_ GE101.out) | exact HB.out)))); have n1_ := Aside0.mk (blk_below (g := gb101) (o := .cells #[.int .i64 a0_0, .slice A0_1 l0_1.length c0_1] 28 (0, 0)) (by (with_reducible repeat (first | refine blk_drewN ?_ _ | refine blk_drew ?_ | refine blk_alloc ?_ _)); exact BK101.out) hb); have n2_ := Aside0.mk (below_step (by repeat (first | (with_reducible first | exact HB.out | apply below_alloc | apply pw_below_drewN | apply below_drew1 | refine below_set ?_ GE101.out) | exact HB.out)) hb); clear BK101; clear HB; have HO105 := n0_; have BK101 := n1_; have HB := n2_; clear n0_ n1_ n2_; (try clear hb); (try clear hb2); (try clear hk); (try clear hi); (try clear ho0); obtain ⟨Ao11, co11, eo11⟩ := Kd.R_slice HO105.out; subst eo11) | ((with_reducible refine gate_callee (f := 28) rfl ?_); refine goesL_ (some 9) rfl rfl Try.func28 (by kernel_rfl) rfl #[.slice Ao11 t103.length co11] rfl (by (try simp only [List.map_toArray, List.map_cons, List.map_nil]); first | done | rfl | (simp only [List.length_drop, List.length_take]; rfl)) ?_; (with_reducible refine (impl_width.calls k _ _ t103 t106 _ ?side1 ?side2 A5.out).mono ?_); (case side1 => repeat (first | exact (Kd.R_reads' HO105.out).2.2 | (with_reducible refine Kd.C_alloc ?_ _) | (with_reducible refine Kd.C_drewN ?_ _) | (with_reducible refine Kd.C_drew ?_))); (case side2 => exact (Kd.R_reads' HO105.out).2.1); rintro e w12 ⟨rfl, hb⟩; refine ⟨_, rfl, ?_⟩; have n0_ := Aside0.mk (Kd.R_below (by (with_reducible repeat (first | apply Kd.R_alloc | apply Kd.R_drewN | apply Kd.R_drew)); exact HO105.out) hb); have n1_ := Aside0.mk (blk_below (g := gb101) (o := .cells #[.int .i64 a0_0, .slice A0_1 l0_1.length c0_1] 28 (0, 0)) (by (with_reducible repeat (first | refine blk_drewN ?_ _ | refine blk_drew ?_ | refine blk_alloc ?_ _)); exact BK101.out) hb); have n2_ := Aside0.mk (below_step (by repeat (first | (with_reducible first | exact HB.out | apply below_alloc | apply pw_below_drewN | apply below_drew1 | refine below_set ?_ GE101.out) | exact HB.out)) hb); clear HO105; clear BK101; clear HB; have HO105 := n0_; have BK101 := n1_; have HB := n2_; clear n0_ n1_ n2_; (try clear hb); (try clear hb2); (try clear hk); (try clear hi)))
    go_ret2
    exact ⟨by first | rfl | (simp [errW_none, errW_some] <;> rfl) | (simp [*, errW_none, errW_some] <;> rfl), by repeat (first | (with_reducible first | exact HB.out | apply below_alloc | apply pw_below_drewN | apply below_drew1 | refine below_set ?_ GE101.out) | exact HB.out)⟩
  · replace c3 := Bool.eq_false_iff.mpr c3
    subst c3
    have H1 : (some (0, false)) = some (r1, r2) := by rw [if_neg (show ¬ (false = true) by decide)] at H; exact H
    clear H
    have H := H1
    clear H1
    simp only [Option.some.injEq, Prod.mk.injEq] at H
    obtain ⟨rfl, rfl⟩ := H
    go_enter Try.func10, Try.ntmps10
    go_wp2_with (first | ((with_reducible refine gate_dst (N := 1) rfl ?_); refine box_event ?hg (N := 1) ?hd (cs := #[.int .i64 a0_0, .slice A0_1 l0_1.length c0_1]) (t := 28) ?hr ?_; (case hd => rfl); (case hg => rfl); (case hr => first | (go_simp; done) | (go_simp; rfl)); intro gb101 hg w13 hbox hb; have n0_ := Aside0.mk (below_step (by repeat (first | (with_reducible first | exact HB.out | apply below_alloc | apply pw_below_drewN | apply below_drew1) | exact HB.out)) hb); have n1_ := Aside0.mk (hbox); have n2_ := Aside0.mk ((by rw [hg]; exact (below_size (by repeat (first | (with_reducible first | exact HB.out | apply below_alloc | apply pw_below_drewN | apply below_drew1) | exact HB.out))) : w.heap.size ≤ gb101)); have n3_ := Aside0.mk ((by rw [hg]; exact (below_size (by repeat (first | (with_reducible first | exact HB.out | apply below_alloc | apply pw_below_drewN | apply below_drew1) | exact HB.out))) : w.heap.size ≤ gb101)); clear HB; have HB := n0_; have BK101 := n1_; have GW101 := n2_; have GE101 := n3_; clear n0_ n1_ n2_ n3_; clear hb hbox hg; have hcz14_0 : w13.cell? ⟨gb101, 0, none⟩ = some (.int .i64 a0_0) := (blk_cell BK101.out 0).trans rfl; have hcz14_1 : w13.cell? ⟨gb101, 1, none⟩ = some (.slice A0_1 l0_1.length c0_1) := (blk_cell BK101.out 1).trans rfl; have hfz14_0 := blk_frozen BK101.out 0; have hfz14_1 := blk_frozen BK101.out 1) | ((with_reducible refine gate_callee (f := 27) rfl ?_); refine goesL_ (some 5) rfl rfl Try.func27 (by kernel_rfl) rfl #[.agg #[.int .i64 a0_0, .slice A0_1 l0_1.length c0_1]] rfl (by (try simp only [List.map_toArray, List.map_cons, List.map_nil]); first | done | rfl | (simp only [List.length_drop, List.length_take]; rfl)) ?_; (with_reducible refine (impl_IsSpace.calls a0_0 _ _ l0_1 false _ ?side1 ?side2 A2.out).mono ?_); (case side1 => repeat (first | exact (Kd.C_below HR0_1.out HB.out) | (with_reducible refine Kd.C_alloc ?_ _) | (with_reducible refine Kd.C_drewN ?_ _) | (with_reducible refine Kd.C_drew ?_))); (case side2 => exact HC0_1.out); rintro e w15 ⟨rfl, hb⟩; refine ⟨_, rfl, ?_⟩; have n0_ := Aside0.mk (blk_below (g := gb101) (o := .cells #[.int .i64 a0_0, .slice A0_1 l0_1.length c0_1] 28 (0, 0)) (by (with_reducible repeat (first | refine blk_drewN ?_ _ | refine blk_drew ?_ | refine blk_alloc ?_ _)); exact BK101.out) hb); have n1_ := Aside0.mk (below_step (by repeat (first | (with_reducible first | exact HB.out | apply below_alloc | apply pw_below_drewN | apply below_drew1 | refine below_set ?_ GE101.out) | exact HB.out)) hb); clear BK101; clear HB; have BK101 := n0_; have HB := n1_; clear n0_ n1_; (try clear hb); (try clear hb2); (try clear hk); (try clear hi)))
    go_ret2
    exact ⟨by first | rfl | (simp [errW_none, errW_some] <;> rfl) | (simp [*, errW_none, errW_some] <;> rfl), by repeat (first | (with_reducible first | exact HB.out | apply below_alloc | apply pw_below_drewN | apply below_drew1 | refine below_set ?_ GE101.out) | exact HB.out)⟩

-- HAND with spec.WidthOf+impl.WidthOf
theorem widthOf_both (n : Int) (l : List Int) (hlen : l.length < 1048577) : ∃ r, Ev (fun k => spec_WidthOf.f k n l) r ∧ Ev (fun k => impl_WidthOf.f k n l) r := by
  unfold spec_WidthOf.f impl_WidthOf.f
  cases hS : isSpaceB n l with
  | false =>
    refine ⟨(0, false), ?_, ?_⟩
    · refine Ev.bind (spGood_ok n l (by omega)) ?_
      exact Ev.to (fun k => by rw [hS, if_neg (by decide)]) (Ev.const rfl)
    · refine Ev.bindc (show impl_IsSpace.f n l = some false from congrArg some hS) ?_
      exact Ev.to (fun k => by rw [if_neg (by decide)]) (Ev.const rfl)
  | true =>
    obtain ⟨hPl, b, o, ho, hb, hP, hc⟩ := pathsMatch hS
    refine ⟨(((chainsFrom (pathsL (famOf l) l) b o (pathsL (famOf l) l).length 0).length : Int), true), ?_, ?_⟩
    · refine Ev.bind (spGood_ok n l (by omega)) ?_
      refine Ev.to (fun k => by rw [hS, if_pos rfl]) ?_
      refine Ev.bind (irr_ok hS hlen) ?_
      exact Ev.bind (cnChains_ok hP hPl hb) (Ev.const rfl)
    · refine Ev.bindc (show impl_IsSpace.f n l = some true from congrArg some hS) ?_
      refine Ev.to (fun k => by rw [if_pos rfl]) ?_
      refine Ev.bind (paths_ok hS hlen) ?_
      exact Ev.bind (width_ok ho (by rw [hP.lo]; omega)) (Ev.const (by rw [width_both hP hc]))

/-! ### impl_FewestWords: function 13 -/
def impl_FewestWords.f (k : Nat) (a0_0 : Int) (l0_1 : List Int) : Option (Int × Bool) := (impl_WidthOf.f k a0_0 l0_1).bind fun bt102 => (some (bt102.1, bt102.2))
theorem impl_FewestWords.mono : ∀ a0 a1 k, LeO (impl_FewestWords.f k a0 a1) (impl_FewestWords.f (k + 1) a0 a1) := by
  intro a0 a1 k
  unfold impl_FewestWords.f
  repeat' first
      | (with_reducible exact impl_WidthOf.mono _ _ _)
      | (with_reducible exact LeO.refl _)
      | (with_reducible exact LeO.none _)
      | (with_reducible refine LeO.ite ?_ ?_)
      | (with_reducible refine LeO.bind ?_ (fun _ => ?_))
      | exact impl_WidthOf.mono _ _ _
      | exact LeO.none _
      | refine LeO.ite ?_ ?_
      | refine LeO.bind ?_ (fun _ => ?_)
set_option maxHeartbeats 8000000 in
set_option maxRecDepth 100000 in
theorem impl_FewestWords.calls (k : Nat) (a0_0 : Int) (A0_1 : Option Addr) (c0_1 : Nat) (l0_1 : List Int) (r1 : Int) (r2 : Bool) (w : World) (hr0_1 : Kd.C (Kd.int .i64) w A0_1 l0_1.length l0_1) (hc0_1 : l0_1.length ≤ c0_1) (h : impl_FewestWords.f k a0_0 l0_1 = some (r1, r2)) :
    Calls Try.prog 13 #[.agg #[.int .i64 a0_0, .slice A0_1 l0_1.length c0_1]] w fun e w' => e = .returned (.tuple #[.int .i64 r1, .bool r2]) ∧ Below w.heap.size w w' := by
  have hu28 := Try.underlying28
  have HR0_1 := Aside0.mk hr0_1
  have HC0_1 := Aside0.mk hc0_1
  clear hr0_1 hc0_1
  have HB := Aside0.mk (Below.refl w.heap.size w)
  have H : ((impl_WidthOf.f k a0_0 l0_1).bind fun bt102 => (some (bt102.1, bt102.2))) = some (r1, r2) := h
  clear h
  replace H := Option.bind_eq_some_iff.mp H
  obtain ⟨⟨t102, t103⟩, A20, H⟩ := H
  replace H : (some (t102, t103)) = some (r1, r2) := H
  have A2 := Aside0.mk A20
  clear A20
  simp only [Option.some.injEq, Prod.mk.injEq] at H
  obtain ⟨rfl, rfl⟩ := H
  go_enter Try.func13, Try.ntmps13
  go_wp2_with (first | ((with_reducible refine gate_dst (N := 1) rfl ?_); refine box_event ?hg (N := 1) ?hd (cs := #[.int .i64 a0_0, .slice A0_1 l0_1.length c0_1]) (t := 28) ?hr ?_; (case hd => rfl); (case hg => rfl); (case hr => first | (go_simp; done) | (go_simp; rfl)); intro gb101 hg w3 hbox hb; have n0_ := Aside0.mk (below_step (by repeat (first | (with_reducible first | exact HB.out | apply below_alloc | apply pw_below_drewN | apply below_drew1) | exact HB.out)) hb); have n1_ := Aside0.mk (hbox); have n2_ := Aside0.mk ((by rw [hg]; exact (below_size (by repeat (first | (with_reducible first | exact HB.out | apply below_alloc | apply pw_below_drewN | apply below_drew1) | exact HB.out))) : w.heap.size ≤ gb101)); have n3_ := Aside0.mk ((by rw [hg]; exact (below_size (by repeat (first | (with_reducible first | exact HB.out | apply below_alloc | apply pw_below_drewN | apply below_drew1) | exact HB.out))) : w.heap.size ≤ gb101)); clear HB; have HB := n0_; have BK101 := n1_; have GW101 := n2_; have GE101 := n3_; clear n0_ n1_ n2_ n3_; clear hb hbox hg; have hcz4_0 : w3.cell? ⟨gb101, 0, none⟩ = some (.int .i64 a0_0) := (blk_cell BK101.out 0).trans rfl; have hcz4_1 : w3.cell? ⟨gb101, 1, none⟩ = some (.slice A0_1 l0_1.length c0_1) := (blk_cell BK101.out 1).trans rfl; have hfz4_0 := blk_frozen BK101.out 0; have hfz4_1 := blk_frozen BK101.out 1) | ((with_reducible refine gate_callee (f := 10) rfl ?_); refine goesL_ (some 5) rfl rfl Try.func10 (by kernel_rfl) rfl #[.agg #[.int .i64 a0_0, .slice A0_1 l0_1.length c0_1]] rfl (by (try simp only [List.map_toArray, List.map_cons, List.map_nil]); first | done | rfl | (simp only [List.length_drop, List.length_take]; rfl)) ?_; (with_reducible refine (impl_WidthOf.calls k a0_0 _ _ l0_1 t102 t103 _ ?side1 ?side2 A2.out).mono ?_); (case side1 => repeat (first | exact (Kd.C_below HR0_1.out HB.out) | (with_reducible refine Kd.C_alloc ?_ _) | (with_reducible refine Kd.C_drewN ?_ _) | (with_reducible refine Kd.C_drew ?_))); (case side2 => exact HC0_1.out); rintro e w5 ⟨rfl, hb⟩; refine ⟨_, rfl, ?_⟩; have n0_ := Aside0.mk (blk_below (g := gb101) (o := .cells #[.int .i64 a0_0, .slice A0_1 l0_1.length c0_1] 28 (0, 0)) (by (with_reducible repeat (first | refine blk_drewN ?_ _ | refine blk_drew ?_ | refine blk_alloc ?_ _)); exact BK101.out) hb); have n1_ := Aside0.mk (below_step (by repeat (first | (with_reducible first | exact HB.out | apply below_alloc | apply pw_below_drewN | apply below_drew1 | refine below_set ?_ GE101.out) | exact HB.out)) hb); clear BK101; clear HB; have BK101 := n0_; have HB := n1_; clear n0_ n1_; (try clear hb); (try clear hb2); (try clear hk); (try clear hi)))
  go_ret2
  exact ⟨by first | rfl | (simp [errW_none, errW_some] <;> rfl) | (simp [*, errW_none, errW_some] <;> rfl), by repeat (first | (with_reducible first | exact HB.out | apply below_alloc | apply pw_below_drewN | apply below_drew1 | refine below_set ?_ GE101.out) | exact HB.out)⟩

/-! ### laws_FnExactFewestWords: function 4 -/
def laws_FnExactFewestWords.j0 : Nat → Bool → Int → List Int → Int → List Int → Option (Bool)
  | 0, _, _, _, _, _ => none
  | k + 1, x34, x102000, x102001, x114000, x114001 => if x34 = true then (some false) else ((laws_toSpace.f k x102000 x102001).bind fun bt116 => ((laws_eqSpace.f k x114000 x114001 bt116.1 bt116.2).bind fun t120 => (if t120 = true then (some true) else (some false))))
def laws_FnExactFewestWords.f (k : Nat) (a0_0 : Int) (l0_1 : List Int) : Option (Bool) := (laws_szSpace.f a0_0 l0_1 1048576).bind fun t102 => (if t102 < 0 then (some true) else ((laws_toSpace.f k a0_0 l0_1).bind fun bt103 => ((spec_FewestWords.f k bt103.1 bt103.2).bind fun bt107 => ((laws_toSpace.f k a0_0 l0_1).bind fun bt109 => ((impl_FewestWords.f k bt109.1 bt109.2).bind fun bt114 => (if bt114.1 = bt107.1 then (laws_FnExactFewestWords.j0 k (bt114.2 != bt107.2) a0_0 l0_1 bt109.1 bt109.2) else (laws_FnExactFewestWords.j0 k true a0_0 l0_1 bt109.1 bt109.2)))))))
theorem laws_FnExactFewestWords.mono_l : ∀ k, (∀ y0 y1 y2 y3 y4, LeO (laws_FnExactFewestWords.j0 k y0 y1 y2 y3 y4) (laws_FnExactFewestWords.j0 (k + 1) y0 y1 y2 y3 y4))
  | 0 => fun _ _ _ _ _ r h => by simp [laws_FnExactFewestWords.j0] at h
  | k + 1 => by
    have ih0 := laws_FnExactFewestWords.mono_l k
    · intro y0 y1 y2 y3 y4
      unfold laws_FnExactFewestWords.j0
      repeat' first
      | (with_reducible exact ih0 _ _ _ _ _)
      | (with_reducible exact impl_FewestWords.mono _ _ _)
      | (with_reducible exact laws_eqSpace.mono _ _ _ _ _)
      | (with_reducible exact laws_toSpace.mono _ _ _)
      | (with_reducible exact spec_FewestWords.mono _ _ _)
      | (with_reducible exact LeO.refl _)
      | (with_reducible exact LeO.none _)
      | (with_reducible refine LeO.ite ?_ ?_)
      | (with_reducible refine LeO.bind ?_ (fun _ => ?_))
      | exact ih0 _ _ _ _ _
      | exact impl_FewestWords.mono _ _ _
      | exact laws_eqSpace.mono _ _ _ _ _
      | exact laws_toSpace.mono _ _ _
      | exact spec_FewestWords.mono _ _ _
      | exact LeO.none _
      | refine LeO.ite ?_ ?_
      | refine LeO.bind ?_ (fun _ => ?_)
theorem laws_FnExactFewestWords.mono : ∀ a0 a1 k, LeO (laws_FnExactFewestWords.f k a0 a1) (laws_FnExactFewestWords.f (k + 1) a0 a1) := by
  intro a0 a1 k
  have ih0 := laws_FnExactFewestWords.mono_l k
  unfold laws_FnExactFewestWords.f
  repeat' first
      | (with_reducible exact ih0 _ _ _ _ _)
      | (with_reducible exact impl_FewestWords.mono _ _ _)
      | (with_reducible exact laws_eqSpace.mono _ _ _ _ _)
      | (with_reducible exact laws_toSpace.mono _ _ _)
      | (with_reducible exact spec_FewestWords.mono _ _ _)
      | (with_reducible exact LeO.refl _)
      | (with_reducible exact LeO.none _)
      | (with_reducible refine LeO.ite ?_ ?_)
      | (with_reducible refine LeO.bind ?_ (fun _ => ?_))
      | exact ih0 _ _ _ _ _
      | exact impl_FewestWords.mono _ _ _
      | exact laws_eqSpace.mono _ _ _ _ _
      | exact laws_toSpace.mono _ _ _
      | exact spec_FewestWords.mono _ _ _
      | exact LeO.none _
      | refine LeO.ite ?_ ?_
      | refine LeO.bind ?_ (fun _ => ?_)
set_option maxHeartbeats 8000000 in
set_option maxRecDepth 100000 in
theorem laws_FnExactFewestWords.calls (k : Nat) (a0_0 : Int) (A0_1 : Option Addr) (c0_1 : Nat) (l0_1 : List Int) (r : Bool) (w : World) (hr0_1 : Kd.C (Kd.int .i64) w A0_1 l0_1.length l0_1) (hc0_1 : l0_1.length ≤ c0_1) (h : laws_FnExactFewestWords.f k a0_0 l0_1 = some r) (hT_ : Aside0 (r = true)) :
    Calls Try.prog 4 #[.agg #[.int .i64 a0_0, .slice A0_1 l0_1.length c0_1]] w fun e w' => e = .returned (.bool r) ∧ Below w.heap.size w w' := by
  have hu24 := Try.underlying24
  have hu28 := Try.underlying28
  have HR0_1 := Aside0.mk hr0_1
  have HC0_1 := Aside0.mk hc0_1
  clear hr0_1 hc0_1
  have HB := Aside0.mk (Below.refl w.heap.size w)
  have H : ((laws_szSpace.f a0_0 l0_1 1048576).bind fun t102 => (if t102 < 0 then (some true) else ((laws_toSpace.f k a0_0 l0_1).bind fun bt103 => ((spec_FewestWords.f k bt103.1 bt103.2).bind fun bt107 => ((laws_toSpace.f k a0_0 l0_1).bind fun bt109 => ((impl_FewestWords.f k bt109.1 bt109.2).bind fun bt114 => (if bt114.1 = bt107.1 then (laws_FnExactFewestWords.j0 k (bt114.2 != bt107.2) a0_0 l0_1 bt109.1 bt109.2) else (laws_FnExactFewestWords.j0 k true a0_0 l0_1 bt109.1 bt109.2)))))))) = some r := h
  clear h
  replace H := Option.bind_eq_some_iff.mp H
  obtain ⟨t102, A20, H⟩ := H
  replace H : (if t102 < 0 then (some true) else ((laws_toSpace.f k a0_0 l0_1).bind fun bt103 => ((spec_FewestWords.f k bt103.1 bt103.2).bind fun bt107 => ((laws_toSpace.f k a0_0 l0_1).bind fun bt109 => ((impl_FewestWords.f k bt109.1 bt109.2).bind fun bt114 => (if bt114.1 = bt107.1 then (laws_FnExactFewestWords.j0 k (bt114.2 != bt107.2) a0_0 l0_1 bt109.1 bt109.2) else (laws_FnExactFewestWords.j0 k true a0_0 l0_1 bt109.1 bt109.2))))))) = some r := H
  have A2 := Aside0.mk A20
  clear A20
  by_cases c3 : t102 < 0
  · rw [if_pos c3] at H
    have c3b0 : decide (t102 < 0) = true := decide_eq_true c3
    clear c3
    obtain rfl := Option.some.inj H
    go_enter Try.func4, Try.ntmps4
    go_wp2_with (first | ((with_reducible refine gate_dst (N := 1) rfl ?_); refine box_event ?hg (N := 1) ?hd (cs := #[.int .i64 a0_0, .slice A0_1 l0_1.length c0_1]) (t := 24) ?hr ?_; (case hd => rfl); (case hg => rfl); (case hr => first | (go_simp; done) | (go_simp; rfl)); intro gb101 hg w4 hbox hb; have n0_ := Aside0.mk (below_step (by repeat (first | (with_reducible first | exact HB.out | apply below_alloc | apply pw_below_drewN | apply below_drew1) | exact HB.out)) hb); have n1_ := Aside0.mk (hbox); have n2_ := Aside0.mk ((by rw [hg]; exact (below_size (by repeat (first | (with_reducible first | exact HB.out | apply below_alloc | apply pw_below_drewN | apply below_drew1) | exact HB.out))) : w.heap.size ≤ gb101)); have n3_ := Aside0.mk ((by rw [hg]; exact (below_size (by repeat (first | (with_reducible first | exact HB.out | apply below_alloc | apply pw_below_drewN | apply below_drew1) | exact HB.out))) : w.heap.size ≤ gb101)); clear HB; have HB := n0_; have BK101 := n1_; have GW101 := n2_; have GE101 := n3_; clear n0_ n1_ n2_ n3_; clear hb hbox hg; have hcz5_0 : w4.cell? ⟨gb101, 0, none⟩ = some (.int .i64 a0_0) := (blk_cell BK101.out 0).trans rfl; have hcz5_1 : w4.cell? ⟨gb101, 1, none⟩ = some (.slice A0_1 l0_1.length c0_1) := (blk_cell BK101.out 1).trans rfl; have hfz5_0 := blk_frozen BK101.out 0; have hfz5_1 := blk_frozen BK101.out 1) | ((with_reducible refine gate_callee (f := 7) rfl ?_); refine goesL_ (some 11) rfl rfl Try.func7 (by kernel_rfl) rfl #[.agg #[.int .i64 a0_0, .slice A0_1 l0_1.length c0_1], .int .i64 1048576] rfl (by (try simp only [List.map_toArray, List.map_cons, List.map_nil]); first | done | rfl | (simp only [List.length_drop, List.length_take]; rfl)) ?_; (with_reducible refine (laws_szSpace.calls a0_0 _ _ l0_1 1048576 t102 _ ?side1 ?side2 A2.out).mono ?_); (case side1 => repeat (first | exact (Kd.C_below HR0_1.out HB.out) | (with_reducible refine Kd.C_alloc ?_ _) | (with_reducible refine Kd.C_drewN ?_ _) | (with_reducible refine Kd.C_drew ?_))); (case side2 => exact HC0_1.out); rintro e w6 ⟨rfl, hb⟩; refine ⟨_, rfl, ?_⟩; have n0_ := Aside0.mk (blk_below (g := gb101) (o := .cells #[.int .i64 a0_0, .slice A0_1 l0_1.length c0_1] 24 (0, 0)) (by (with_reducible repeat (first | refine blk_drewN ?_ _ | refine blk_drew ?_ | refine blk_alloc ?_ _)); exact BK101.out) hb); have n1_ := Aside0.mk (below_step (by repeat (first | (with_reducible first | exact HB.out | apply below_alloc | apply pw_below_drewN | apply below_drew1 | refine below_set ?_ GE101.out) | exact HB.out)) hb); clear BK101; clear HB; have BK101 := n0_; have HB := n1_; clear n0_ n1_; (try clear hb); (try clear hb2); (try clear hk); (try clear hi)))
    go_ret
    exact ⟨by first | rfl | (simp [errW_none, errW_some] <;> rfl) | (simp [*, errW_none, errW_some] <;> rfl), by repeat (first | (with_reducible first | exact HB.out | apply below_alloc | apply pw_below_drewN | apply below_drew1 | refine below_set ?_ GE101.out) | exact HB.out)⟩
  · rw [if_neg c3] at H
    have c3b0 : decide (t102 < 0) = false := decide_eq_false c3
    clear c3
    replace H := Option.bind_eq_some_iff.mp H
    obtain ⟨⟨t103, t104⟩, A70, H⟩ := H
    replace H : ((spec_FewestWords.f k t103 t104).bind fun bt107 => ((laws_toSpace.f k a0_0 l0_1).bind fun bt109 => ((impl_FewestWords.f k bt109.1 bt109.2).bind fun bt114 => (if bt114.1 = bt107.1 then (laws_FnExactFewestWords.j0 k (bt114.2 != bt107.2) a0_0 l0_1 bt109.1 bt109.2) else (laws_FnExactFewestWords.j0 k true a0_0 l0_1 bt109.1 bt109.2))))) = some r := H
    have A7 := Aside0.mk A70
    clear A70
    replace H := Option.bind_eq_some_iff.mp H
    obtain ⟨⟨t107, t108⟩, A80, H⟩ := H
    replace H : ((laws_toSpace.f k a0_0 l0_1).bind fun bt109 => ((impl_FewestWords.f k bt109.1 bt109.2).bind fun bt114 => (if bt114.1 = t107 then (laws_FnExactFewestWords.j0 k (bt114.2 != t108) a0_0 l0_1 bt109.1 bt109.2) else (laws_FnExactFewestWords.j0 k true a0_0 l0_1 bt109.1 bt109.2)))) = some r := H
    have A8 := Aside0.mk A80
    clear A80
    replace H := Option.bind_eq_some_iff.mp H
    obtain ⟨⟨t109, t110⟩, A90, H⟩ := H
    replace H : ((impl_FewestWords.f k t109 t110).bind fun bt114 => (if bt114.1 = t107 then (laws_FnExactFewestWords.j0 k (bt114.2 != t108) a0_0 l0_1 t109 t110) else (laws_FnExactFewestWords.j0 k true a0_0 l0_1 t109 t110))) = some r := H
    have A9 := Aside0.mk A90
    clear A90
    replace H := Option.bind_eq_some_iff.mp H
    obtain ⟨⟨t114, t115⟩, A100, H⟩ := H
    replace H : (if t114 = t107 then (laws_FnExactFewestWords.j0 k (t115 != t108) a0_0 l0_1 t109 t110) else (laws_FnExactFewestWords.j0 k true a0_0 l0_1 t109 t110)) = some r := H
    have A10 := Aside0.mk A100
    clear A100
    have HC11 := Aside0.mk H
    clear H
    go_enter Try.func4, Try.ntmps4
    go_upto_region 8 with (first | ((with_reducible refine gate_dst (N := 1) rfl ?_); refine box_event ?hg (N := 1) ?hd (cs := #[.int .i64 a0_0, .slice A0_1 l0_1.length c0_1]) (t := 24) ?hr ?_; (case hd => rfl); (case hg => rfl); (case hr => first | (go_simp; done) | (go_simp; rfl)); intro gb101 hg w12 hbox hb; have n0_ := Aside0.mk (below_step (by repeat (first | (with_reducible first | exact HB.out | apply below_alloc | apply pw_below_drewN | apply below_drew1) | exact HB.out)) hb); have n1_ := Aside0.mk (hbox); have n2_ := Aside0.mk ((by rw [hg]; exact (below_size (by repeat (first | (with_reducible first | exact HB.out | apply below_alloc | apply pw_below_drewN | apply below_drew1) | exact HB.out))) : w.heap.size ≤ gb101)); have n3_ := Aside0.mk ((by rw [hg]; exact (below_size (by repeat (first | (with_reducible first | exact HB.out | apply below_alloc | apply pw_below_drewN | apply below_drew1) | exact HB.out))) : w.heap.size ≤ gb101)); clear HB; have HB := n0_; have BK101 := n1_; have GW101 := n2_; have GE101 := n3_; clear n0_ n1_ n2_ n3_; clear hb hbox hg; have hcz13_0 : w12.cell? ⟨gb101, 0, none⟩ = some (.int .i64 a0_0) := (blk_cell BK101.out 0).trans rfl; have hcz13_1 : w12.cell? ⟨gb101, 1, none⟩ = some (.slice A0_1 l0_1.length c0_1) := (blk_cell BK101.out 1).trans rfl; have hfz13_0 := blk_frozen BK101.out 0; have hfz13_1 := blk_frozen BK101.out 1) | ((with_reducible refine gate_callee (f := 7) rfl ?_); refine goesL_ (some 11) rfl rfl Try.func7 (by kernel_rfl) rfl #[.agg #[.int .i64 a0_0, .slice A0_1 l0_1.length c0_1], .int .i64 1048576] rfl (by (try simp only [List.map_toArray, List.map_cons, List.map_nil]); first | done | rfl | (simp only [List.length_drop, List.length_take]; rfl)) ?_; (with_reducible refine (laws_szSpace.calls a0_0 _ _ l0_1 1048576 t102 _ ?side1 ?side2 A2.out).mono ?_); (case side1 => repeat (first | exact (Kd.C_below HR0_1.out HB.out) | (with_reducible refine Kd.C_alloc ?_ _) | (with_reducible refine Kd.C_drewN ?_ _) | (with_reducible refine Kd.C_drew ?_))); (case side2 => exact HC0_1.out); rintro e w14 ⟨rfl, hb⟩; refine ⟨_, rfl, ?_⟩; have n0_ := Aside0.mk (blk_below (g := gb101) (o := .cells #[.int .i64 a0_0, .slice A0_1 l0_1.length c0_1] 24 (0, 0)) (by (with_reducible repeat (first | refine blk_drewN ?_ _ | refine blk_drew ?_ | refine blk_alloc ?_ _)); exact BK101.out) hb); have n1_ := Aside0.mk (below_step (by repeat (first | (with_reducible first | exact HB.out | apply below_alloc | apply pw_below_drewN | apply below_drew1 | refine below_set ?_ GE101.out) | exact HB.out)) hb); clear BK101; clear HB; have BK101 := n0_; have HB := n1_; clear n0_ n1_; (try clear hb); (try clear hb2); (try clear hk); (try clear hi); have hcz15_0 : w14.cell? ⟨gb101, 0, none⟩ = some (.int .i64 a0_0) := (blk_cell BK101.out 0).trans rfl; have hcz15_1 : w14.cell? ⟨gb101, 1, none⟩ = some (.slice A0_1 l0_1.length c0_1) := (blk_cell BK101.out 1).trans rfl; have hfz15_0 := blk_frozen BK101.out 0; have hfz15_1 := blk_frozen BK101.out 1) | ((with_reducible refine gate_callee (f := 9) rfl ?_); refine goesL_ (some 16) rfl rfl Try.func9 (by kernel_rfl) rfl #[.agg #[.int .i64 a0_0, .slice A0_1 l0_1.length c0_1]] rfl (by (try simp only [List.map_toArray, List.map_cons, List.map_nil]); first | done | rfl | (simp only [List.length_drop, List.length_take]; rfl)) ?_; (with_reducible refine (laws_toSpace.calls k a0_0 _ _ l0_1 t103 t104 _ ?side1 ?side2 A7.out).mono ?_); (case side1 => repeat (first | exact (Kd.C_below HR0_1.out HB.out) | (with_reducible refine Kd.C_alloc ?_ _) | (with_reducible refine Kd.C_drewN ?_ _) | (with_reducible refine Kd.C_drew ?_))); (case side2 => exact HC0_1.out); rintro e w16 ⟨v105, rfl, ho0, hb⟩; refine ⟨_, rfl, ?_⟩; have n0_ := Aside0.mk (Kd.R_lower ho0 (below_size (by repeat (first | (with_reducible first | exact HB.out | apply below_alloc | apply pw_below_drewN | apply below_drew1 | refine below_set ?_ GE101.out) | exact HB.out)))); have n1_ := Aside0.mk (blk_below (g := gb101) (o := .cells #[.int .i64 a0_0, .slice A0_1 l0_1.length c0_1] 24 (0, 0)) (by (with_reducible repeat (first | refine blk_drewN ?_ _ | refine blk_drew ?_ | refine blk_alloc ?_ _)); exact BK101.out) hb); have n2_ := Aside0.mk (below_step (by repeat (first | (with_reducible first | exact HB.out | apply below_alloc | apply pw_below_drewN | apply below_drew1 | refine below_set ?_ GE101.out) | exact HB.out)) hb); clear BK101; clear HB; have HO106 := n0_; have BK101 := n1_; have HB := n2_; clear n0_ n1_ n2_; (try clear hb); (try clear hb2); (try clear hk); (try clear hi); (try clear ho0); obtain ⟨Ao17, co17, eo17⟩ := Kd.R_slice HO106.out; subst eo17) | ((with_reducible refine gate_callee (f := 12) rfl ?_); refine goesL_ (some 17) rfl rfl Try.func12 (by kernel_rfl) rfl #[.agg #[.int .i64 t103, .slice Ao17 t104.length co17]] rfl (by (try simp only [List.map_toArray, List.map_cons, List.map_nil]); first | done | rfl | (simp only [List.length_drop, List.length_take]; rfl)) ?_; (with_reducible refine (spec_FewestWords.calls k t103 _ _ t104 t107 t108 _ ?side1 ?side2 A8.out).mono ?_); (case side1 => repeat (first | exact (Kd.R_reads' HO106.out).2.2 | (with_reducible refine Kd.C_alloc ?_ _) | (with_reducible refine Kd.C_drewN ?_ _) | (with_reducible refine Kd.C_drew ?_))); (case side2 => exact (Kd.R_reads' HO106.out).2.1); rintro e w18 ⟨rfl, hb⟩; refine ⟨_, rfl, ?_⟩; have n0_ := Aside0.mk (Kd.R_below (by (with_reducible repeat (first | apply Kd.R_alloc | apply Kd.R_drewN | apply Kd.R_drew)); exact HO106.out) hb); have n1_ := Aside0.mk (blk_below (g := gb101) (o := .cells #[.int .i64 a0_0, .slice A0_1 l0_1.length c0_1] 24 (0, 0)) (by (with_reducible repeat (first | refine blk_drewN ?_ _ | refine blk_drew ?_ | refine blk_alloc ?_ _)); exact BK101.out) hb); have n2_ := Aside0.mk (below_step (by repeat (first | (with_reducible first | exact HB.out | apply below_alloc | apply pw_below_drewN | apply below_drew1 | refine below_set ?_ GE101.out) | exact HB.out)) hb); clear HO106; clear BK101; clear HB; have HO106 := n0_; have BK101 := n1_; have HB := n2_; clear n0_ n1_ n2_; (try clear hb); (try clear hb2); (try clear hk); (try clear hi); have hcz19_0 : w18.cell? ⟨gb101, 0, none⟩ = some (.int .i64 a0_0) := (blk_cell BK101.out 0).trans rfl; have hcz19_1 : w18.cell? ⟨gb101, 1, none⟩ = some (.slice A0_1 l0_1.length c0_1) := (blk_cell BK101.out 1).trans rfl; have hfz19_0 := blk_frozen BK101.out 0; have hfz19_1 := blk_frozen BK101.out 1) | ((with_reducible refine gate_callee (f := 9) rfl ?_); refine goesL_ (some 21) rfl rfl Try.func9 (by kernel_rfl) rfl #[.agg #[.int .i64 a0_0, .slice A0_1 l0_1.length c0_1]] rfl (by (try simp only [List.map_toArray, List.map_cons, List.map_nil]); first | done | rfl | (simp only [List.length_drop, List.length_take]; rfl)) ?_; (with_reducible refine (laws_toSpace.calls k a0_0 _ _ l0_1 t109 t110 _ ?side1 ?side2 A9.out).mono ?_); (case side1 => repeat (first | exact (Kd.C_below HR0_1.out HB.out) | (with_reducible refine Kd.C_alloc ?_ _) | (with_reducible refine Kd.C_drewN ?_ _) | (with_reducible refine Kd.C_drew ?_))); (case side2 => exact HC0_1.out); rintro e w20 ⟨v111, rfl, ho0, hb⟩; refine ⟨_, rfl, ?_⟩; have n0_ := Aside0.mk (Kd.R_elder' (by (with_reducible repeat (first | apply Kd.R_alloc | apply Kd.R_drewN | apply Kd.R_drew)); exact HO106.out) (Kd.R_base ho0) hb); have n1_ := Aside0.mk (Kd.R_lower (Kd.R_new' ho0 (Kd.R_lt (by (with_reducible repeat (first | apply Kd.R_alloc | apply Kd.R_drewN | apply Kd.R_drew)); exact HO106.out))) (below_size (by repeat (first | (with_reducible first | exact HB.out | apply below_alloc | apply pw_below_drewN | apply below_drew1 | refine below_set ?_ GE101.out) | exact HB.out)))); have n2_ := Aside0.mk (blk_below (g := gb101) (o := .cells #[.int .i64 a0_0, .slice A0_1 l0_1.length c0_1] 24 (0, 0)) (by (with_reducible repeat (first | refine blk_drewN ?_ _ | refine blk_drew ?_ | refine blk_alloc ?_ _)); exact BK101.out) hb); have n3_ := Aside0.mk (below_step (by repeat (first | (with_reducible first | exact HB.out | apply below_alloc | apply pw_below_drewN | apply below_drew1 | refine below_set ?_ GE101.out) | exact HB.out)) hb); clear HO106; clear BK101; clear HB; have HO106 := n0_; have HO112 := n1_; have BK101 := n2_; have HB := n3_; clear n0_ n1_ n2_ n3_; (try clear hb); (try clear hb2); (try clear hk); (try clear hi); (try clear ho0)) | ((with_reducible refine gate_dst (N := 6) rfl ?_); refine box_event ?hg (N := 6) ?hd (cs := #[.int .i64 0, .slice none 0 0]) (t := 28) ?hr ?_; (case hd => rfl); (case hg => rfl); (case hr => first | (go_simp; done) | (go_simp; rfl)); intro gb113 hg w21 hbox hb; have n0_ := Aside0.mk (Kd.R_below (by (with_reducible repeat (first | apply Kd.R_alloc | apply Kd.R_drewN | apply Kd.R_drew)); exact HO106.out) hb); have n1_ := Aside0.mk (Kd.R_below (by (with_reducible repeat (first | apply Kd.R_alloc | apply Kd.R_drewN | apply Kd.R_drew)); exact HO112.out) hb); have n2_ := Aside0.mk (blk_below (g := gb101) (o := .cells #[.int .i64 a0_0, .slice A0_1 l0_1.length c0_1] 24 (0, 0)) (by (with_reducible repeat (first | refine blk_drewN ?_ _ | refine blk_drew ?_ | refine blk_alloc ?_ _)); exact BK101.out) hb); have n3_ := Aside0.mk (below_step (by repeat (first | (with_reducible first | exact HB.out | apply below_alloc | apply pw_below_drewN | apply below_drew1 | refine below_set ?_ GE101.out) | exact HB.out)) hb); have n4_ := Aside0.mk (hbox); have n5_ := Aside0.mk ((by rw [hg]; exact (below_size (by repeat (first | (with_reducible first | exact HB.out | apply below_alloc | apply pw_below_drewN | apply below_drew1 | refine below_set ?_ GE101.out) | exact HB.out))) : w.heap.size ≤ gb113)); have n6_ := Aside0.mk ((by rw [hg]; exact (below_size (by repeat (first | (with_reducible first | exact HB.out | apply below_alloc | apply pw_below_drewN | apply below_drew1 | refine below_set ?_ GE101.out) | exact HB.out))) : w.heap.size ≤ gb113)); have n7_ := Aside0.mk ((by rw [hg]; exact Nat.ne_of_lt (blk_lt (g := gb101) (o := .cells #[.int .i64 a0_0, .slice A0_1 l0_1.length c0_1] 24 (0, 0)) (by (with_reducible repeat (first | refine blk_drewN ?_ _ | refine blk_drew ?_ | refine blk_alloc ?_ _)); exact BK101.out)) : gb101 ≠ gb113)); have n8_ := Aside0.mk ((by rw [hg]; exact Nat.ne_of_gt (blk_lt (g := gb101) (o := .cells #[.int .i64 a0_0, .slice A0_1 l0_1.length c0_1] 24 (0, 0)) (by (with_reducible repeat (first | refine blk_drewN ?_ _ | refine blk_drew ?_ | refine blk_alloc ?_ _)); exact BK101.out)) : gb113 ≠ gb101)); clear HO106; clear HO112; clear BK101; clear HB; have HO106 := n0_; have HO112 := n1_; have BK101 := n2_; have HB := n3_; have BK113 := n4_; have GW113 := n5_; have GE113 := n6_; have NB101_113 := n7_; have NB113_101 := n8_; clear n0_ n1_ n2_ n3_ n4_ n5_ n6_ n7_ n8_; clear hb hbox hg; have hnb22 := NB113_101.out; have hnc22 := NB101_113.out; have hcz23_0 : w21.cell? ⟨gb113, 0, none⟩ = some (.int .i64 0) := (blk_cell BK113.out 0).trans rfl; have hcz23_1 : w21.cell? ⟨gb113, 1, none⟩ = some (.slice none 0 0) := (blk_cell BK113.out 1).trans rfl; have hfz23_0 := blk_frozen BK113.out 0; have hfz23_1 := blk_frozen BK113.out 1; obtain ⟨Ao24, co24, eo24⟩ := Kd.R_slice HO112.out; subst eo24) | ((with_reducible refine gate_callee (f := 13) rfl ?_); refine goesL_ (some 24) rfl rfl Try.func13 (by kernel_rfl) rfl #[.agg #[.int .i64 t109, .slice Ao24 t110.length co24]] rfl (by (try simp only [List.map_toArray, List.map_cons, List.map_nil]); first | done | rfl | (simp only [List.length_drop, List.length_take]; rfl)) ?_; (with_reducible refine (impl_FewestWords.calls k t109 _ _ t110 t114 t115 _ ?side1 ?side2 A10.out).mono ?_); (case side1 => refine (Kd.R_reads' (e := 3) (base := w.heap.size) (ok := fun k_ => (True ∧ some k_ ≠ (.slice Ao17 t104.length co17 : Value).ownBlock)) (n := t110.length) (c := co24) ?_).2.2; exact (by (with_reducible repeat (first | apply Kd.R_alloc | apply Kd.R_drewN | apply Kd.R_drew)); exact (Kd.R_mono (Kd.R_far (p := ⟨gb113, 1, none⟩) (Kd.R_far (p := ⟨gb113, 0, none⟩) (Kd.R_types HO112.out BK113.out (by decide)) (fun _ hk => hk.2) (.int .i64 t109)) (fun _ hk => hk.2) (.slice Ao24 t110.length co24)) (fun _ h_ => h_.1)))); (case side2 => exact (Kd.R_reads' HO112.out).2.1); rintro e w25 ⟨rfl, hb⟩; refine ⟨_, rfl, ?_⟩; have n0_ := Aside0.mk (Kd.R_below (by (with_reducible repeat (first | apply Kd.R_alloc | apply Kd.R_drewN | apply Kd.R_drew)); exact (Kd.R_mono (Kd.R_far (p := ⟨gb113, 1, none⟩) (Kd.R_far (p := ⟨gb113, 0, none⟩) (Kd.R_types HO106.out BK113.out (by decide)) (fun _ hk => hk.2) (.int .i64 t109)) (fun _ hk => hk.2) (.slice Ao24 t110.length co24)) (fun _ h_ => h_.1))) hb); have n1_ := Aside0.mk (Kd.R_below (by (with_reducible repeat (first | apply Kd.R_alloc | apply Kd.R_drewN | apply Kd.R_drew)); exact (Kd.R_mono (Kd.R_far (p := ⟨gb113, 1, none⟩) (Kd.R_far (p := ⟨gb113, 0, none⟩) (Kd.R_types HO112.out BK113.out (by decide)) (fun _ hk => hk.2) (.int .i64 t109)) (fun _ hk => hk.2) (.slice Ao24 t110.length co24)) (fun _ h_ => h_.1))) hb); have n2_ := Aside0.mk (blk_below (g := gb101) (o := .cells #[.int .i64 a0_0, .slice A0_1 l0_1.length c0_1] 24 (0, 0)) (by (with_reducible repeat (first | refine blk_drewN ?_ _ | refine blk_drew ?_ | refine blk_alloc ?_ _)); refine blk_far ?_ NB101_113.out _; (with_reducible repeat (first | refine blk_drewN ?_ _ | refine blk_drew ?_ | refine blk_alloc ?_ _)); refine blk_far ?_ NB101_113.out _; (with_reducible repeat (first | refine blk_drewN ?_ _ | refine blk_drew ?_ | refine blk_alloc ?_ _)); exact BK101.out) hb); have n3_ := Aside0.mk (blk_below (g := gb113) (o := .cells #[.int .i64 t109, .slice Ao24 t110.length co24] 28 (0, 0)) (by (with_reducible repeat (first | refine blk_drewN ?_ _ | refine blk_drew ?_ | refine blk_alloc ?_ _)); refine blk_put (cs := #[.int .i64 t109, .slice none 0 0]) ?_ 1 _ rfl; (with_reducible repeat (first | refine blk_drewN ?_ _ | refine blk_drew ?_ | refine blk_alloc ?_ _)); refine blk_put (cs := #[.int .i64 0, .slice none 0 0]) ?_ 0 _ rfl; (with_reducible repeat (first | refine blk_drewN ?_ _ | refine blk_drew ?_ | refine blk_alloc ?_ _)); exact BK113.out) hb); have n4_ := Aside0.mk (below_step (by repeat (first | (with_reducible first | exact HB.out | apply below_alloc | apply pw_below_drewN | apply below_drew1 | refine below_set ?_ GE101.out | refine below_set ?_ GE113.out) | exact HB.out)) hb); clear HO106; clear HO112; clear BK101; clear BK113; clear HB; have HO106 := n0_; have HO112 := n1_; have BK101 := n2_; have BK113 := n3_; have HB := n4_; clear n0_ n1_ n2_ n3_ n4_; (try clear hb); (try clear hb2); (try clear hk); (try clear hi)))
    (try simp only [Act.put, List.setIfInBounds_toArray, List.set_cons_zero, List.set_cons_succ])
    go_cut [34] (fun v34 wc => ∃ (kq : Nat) (x34_10 : Bool), v34 = .bool x34_10 ∧ Aside0 (laws_FnExactFewestWords.j0 kq x34_10 a0_0 l0_1 t109 t110 = some r) ∧ Aside0 (kq ≤ k) ∧ Aside0 (Kd.R (Kd.int .i64) 3 wc w.heap.size (fun _ => True) (.slice Ao24 t110.length co24) t110) ∧ Aside0 (wc.heap[gb101]? = some (.cells #[.int .i64 a0_0, (.slice A0_1 l0_1.length c0_1)] 24 (0, 0))) ∧ Aside0 (wc.heap[gb113]? = some (.cells #[.int .i64 t109, (.slice Ao24 t110.length co24)] 28 (0, 0))) ∧ Aside0 (Below w.heap.size w wc))
    case first =>
      have H := HC11.out
      clear HC11
      by_cases c26 : t114 = t107
      · rw [if_pos c26] at H
        have c26b0 : (t114 == t107) = true := beq_iff_eq.mpr c26
        have c26b1 : (t114 != t107) = false := bne_eq_false_iff_eq.mpr c26
        clear c26
        (first | rw [c26b0] | (simp only [i64_w, i32_w]; rw [c26b0]) | skip)
        have H' := Aside0.mk H
        clear H
        go_wp2
        go_meet
        case rel => exact ⟨_, ((t115 != t108)), (by first | rfl | (simp; done) | (simp [*]; done)), H', ⟨by first | omega | exact Nat.le_refl _⟩, ⟨by (with_reducible repeat (first | apply Kd.R_alloc | apply Kd.R_drewN | apply Kd.R_drew)); exact Kd.R_mono HO112.out (fun _ hk => trivial)⟩, ⟨by (with_reducible repeat (first | refine blk_drewN ?_ _ | refine blk_drew ?_ | refine blk_alloc ?_ _)); exact BK101.out⟩, ⟨by (with_reducible repeat (first | refine blk_drewN ?_ _ | refine blk_drew ?_ | refine blk_alloc ?_ _)); exact BK113.out⟩, ⟨by repeat (first | (with_reducible first | exact HB.out | apply below_alloc | apply pw_below_drewN | apply below_drew1 | refine below_set ?_ GE101.out | refine below_set ?_ GE113.out) | exact HB.out)⟩⟩
      · rw [if_neg c26] at H
        have c26b0 : (t114 == t107) = false := beq_eq_false_iff_ne.mpr c26
        have c26b1 : (t114 != t107) = true := bne_iff_ne.mpr c26
        (first | rw [c26b0] | (simp only [i64_w, i32_w]; rw [c26b0]) | skip)
        rcases k with _ | kk_
        · exact absurd H (by simp [laws_FnExactFewestWords.j0])
        · simp only [laws_FnExactFewestWords.j0] at H
          rw [if_pos trivial] at H
          exact absurd ((Option.some.inj H).trans hT_.out) (by decide)
    case rest =>
      clear HC11
      try clear c1
      try clear c2
      try clear p2
      try clear c3
      try clear c3b0
      try clear c4
      try clear c7
      try clear c9
      try clear c12
      try clear c13
      try clear c22
      try clear c26
      try clear c26b0
      try clear c26b1
      try clear hcz13_0
      try clear hcz13_1
      try clear hcz15_0
      try clear hcz15_1
      try clear hcz19_0
      try clear hcz19_1
      try clear hcz23_0
      try clear hcz23_1
      try clear hcz5_0
      try clear hcz5_1
      try clear hfz13_0
      try clear hfz13_1
      try clear hfz15_0
      try clear hfz15_1
      try clear hfz19_0
      try clear hfz19_1
      try clear hfz23_0
      try clear hfz23_1
      try clear hfz5_0
      try clear hfz5_1
      obtain ⟨kq, x34_10, rfl, HA, HJ10, HO_114001, BK101, BK113, HB⟩ := hcut
      cases kq with
      | zero => exact absurd HA.out (by simp [laws_FnExactFewestWords.j0])
      | succ kj10 =>
        have H := HA.out
        clear HA
        simp only [laws_FnExactFewestWords.j0] at H
        by_cases c27 : x34_10 = true
        · subst c27
          have H1 : (some false) = some r := by rw [if_pos rfl] at H; exact H
          clear H
          have H := H1
          clear H1
          exact absurd ((Option.some.inj H).trans hT_.out) (by decide)
        · replace c27 := Bool.eq_false_iff.mpr c27
          subst c27
          have H1 : ((laws_toSpace.f kj10 a0_0 l0_1).bind fun bt116 => ((laws_eqSpace.f kj10 t109 t110 bt116.1 bt116.2).bind fun t120 => (if t120 = true then (some true) else (some false)))) = some r := by rw [if_neg (show ¬ (false = true) by decide)] at H; exact H
          clear H
          have H := H1
          clear H1
          replace H := Option.bind_eq_some_iff.mp H
          obtain ⟨⟨t116, t117⟩, A280, H⟩ := H
          replace H : ((laws_eqSpace.f kj10 t109 t110 t116 t117).bind fun t120 => (if t120 = true then (some true) else (some false))) = some r := H
          have A28 := Aside0.mk A280
          clear A280
          replace H := Option.bind_eq_some_iff.mp H
          obtain ⟨t120, A290, H⟩ := H
          replace H : (if t120 = true then (some true) else (some false)) = some r := H
          have A29 := Aside0.mk A290
          clear A290
          by_cases c30 : t120 = true
          · subst c30
            have H1 : (some true) = some r := by rw [if_pos rfl] at H; exact H
            clear H
            have H := H1
            clear H1
            obtain rfl := Option.some.inj H
            try go_wp2
            have n0_ := Aside0.mk (Kd.R_drew HO_114001.out)
            have n1_ := Aside0.mk (blk_drew BK101.out)
            have n2_ := Aside0.mk (blk_drew BK113.out)
            have n3_ := Aside0.mk (below_drew1 HB.out)
            clear HO_114001
            clear BK101
            clear BK113
            clear HB
            have HO_114001 := n0_
            have BK101 := n1_
            have BK113 := n2_
            have HB := n3_
            clear n0_ n1_ n2_ n3_
            refine start_ (n := 5) (S := fun w' => w'.cell? ⟨gb113, 0, none⟩ = some (.int .i64 t109) ∧ w'.cell? ⟨gb113, 1, none⟩ = some (.slice Ao24 t110.length co24) ∧ w'.cell? ⟨gb101, 0, none⟩ = some (.int .i64 a0_0) ∧ w'.cell? ⟨gb101, 1, none⟩ = some (.slice A0_1 l0_1.length c0_1)) (ds := []) #[false, false, false, false, false] (by kernel_rfl) rfl rfl ⟨(blk_cell BK113.out 0).trans rfl, (blk_cell BK113.out 1).trans rfl, (blk_cell BK101.out 0).trans rfl, (blk_cell BK101.out 1).trans rfl⟩ (fun hHeld => ?_)
            generalize wc.drew = w31 at HO_114001 BK101 BK113 HB hHeld ⊢
            refine take_ (i := 0) (N := some 35) (v := ?_) (a' := ?_) #[true, false, false, false, false] rfl rfl (by kernel_rfl) (fun _ _ _ h => h) (Or.inl ⟨by rfl, ?_⟩) hHeld ?_ ?_
            rotate_left
            · rintro w' ⟨s0, s1, s2, s3⟩
              go_simp
              with_reducible rfl
            rotate_left
            · simp only [Act.put, List.setIfInBounds_toArray, List.set_cons_zero, List.set_cons_succ, i64_w, i32_w]
              rfl
            refine take_ (i := 1) (N := some 36) (v := ?_) (a' := ?_) #[true, true, false, false, false] rfl rfl (by kernel_rfl) (fun _ _ _ h => h) (Or.inl ⟨by rfl, ?_⟩) hHeld ?_ ?_
            rotate_left
            · rintro w' ⟨s0, s1, s2, s3⟩
              go_simp
              with_reducible rfl
            rotate_left
            · simp only [Act.put, List.setIfInBounds_toArray, List.set_cons_zero, List.set_cons_succ, i64_w, i32_w]
              rfl
            refine one_ (i := 2) (N := some 37) #[true, true, true, false, false] rfl rfl (by kernel_rfl) (by decide) (fun K hK => ?_)
            refine goes_ Try.func9 (by kernel_rfl) rfl #[.agg #[.int .i64 a0_0, .slice A0_1 l0_1.length c0_1]] (by rfl) rfl rfl (by (try simp only [List.map_toArray, List.map_cons, List.map_nil]); first | done | rfl | (simp only [List.length_drop, List.length_take]; rfl)) ?_
            with_reducible refine (laws_toSpace.calls kj10 a0_0 _ _ l0_1 t116 t117 _ ?side1 ?side2 A28.out).mono ?_
            (case side1 => repeat (first | exact (Kd.C_below HR0_1.out HB.out) | (with_reducible refine Kd.C_alloc ?_ _) | (with_reducible refine Kd.C_drewN ?_ _) | (with_reducible refine Kd.C_drew ?_)))
            (case side2 => exact HC0_1.out)
            rintro e w32 ⟨v118, rfl, ho0, hb⟩
            refine ⟨_, rfl, ?_⟩
            have n0_ := Aside0.mk (Kd.R_elder' (by (with_reducible repeat (first | apply Kd.R_alloc | apply Kd.R_drewN | apply Kd.R_drew)); exact HO_114001.out) (Kd.R_base ho0) hb)
            have n1_ := Aside0.mk (Kd.R_lower (Kd.R_new' ho0 (Kd.R_lt (by (with_reducible repeat (first | apply Kd.R_alloc | apply Kd.R_drewN | apply Kd.R_drew)); exact HO_114001.out))) (below_size (by repeat (first | (with_reducible first | exact HB.out | apply below_alloc | apply pw_below_drewN | apply below_drew1 | refine below_set ?_ GE101.out | refine below_set ?_ GE113.out) | exact HB.out))))
            have n2_ := Aside0.mk (blk_below (g := gb101) (o := .cells #[.int .i64 a0_0, .slice A0_1 l0_1.length c0_1] 24 (0, 0)) (by (with_reducible repeat (first | refine blk_drewN ?_ _ | refine blk_drew ?_ | refine blk_alloc ?_ _)); exact BK101.out) hb)
            have n3_ := Aside0.mk (blk_below (g := gb113) (o := .cells #[.int .i64 t109, .slice Ao24 t110.length co24] 28 (0, 0)) (by (with_reducible repeat (first | refine blk_drewN ?_ _ | refine blk_drew ?_ | refine blk_alloc ?_ _)); exact BK113.out) hb)
            have n4_ := Aside0.mk (below_step (by repeat (first | (with_reducible first | exact HB.out | apply below_alloc | apply pw_below_drewN | apply below_drew1 | refine below_set ?_ GE101.out | refine below_set ?_ GE113.out) | exact HB.out)) hb)
            clear HO_114001
            clear BK101
            clear BK113
            clear HB
            have HO_114001 := n0_
            have HO119 := n1_
            have BK101 := n2_
            have BK113 := n3_
            have HB := n4_
            clear n0_ n1_ n2_ n3_ n4_
            (try clear hb)
            (try clear hb2)
            (try clear hk)
            (try clear hi)
            (try clear ho0)
            obtain ⟨Ao33, co33, eo33⟩ := Kd.R_slice HO119.out
            (first | subst eo33 | (injection eo33 with f1_ f2_ f3_; have f4_ := f1_.symm; have f5_ := f3_.symm; clear f1_ f2_ f3_; subst f4_; subst f5_))
            refine hK.out _ _ ⟨(blk_cell BK113.out 0).trans rfl, (blk_cell BK113.out 1).trans rfl, (blk_cell BK101.out 0).trans rfl, (blk_cell BK101.out 1).trans rfl⟩ (fun hHeld => ?_)
            clear hK K
            refine norm_ (a' := ?_) ?_ ?_
            rotate_left
            · show Act.put _ (some 37) _ = _
              simp only [Act.put, List.setIfInBounds_toArray, List.set_cons_zero, List.set_cons_succ, i64_w, i32_w]
              rfl
            refine one_ (i := 3) (N := some 38) #[true, true, true, true, false] rfl rfl (by kernel_rfl) (by decide) (fun K hK => ?_)
            refine goes_ Try.func11 (by kernel_rfl) rfl #[.agg #[.int .i64 t109, .slice Ao24 t110.length co24], .agg #[.int .i64 t116, .slice Ao33 t117.length co33]] (by rfl) rfl rfl (by (try simp only [List.map_toArray, List.map_cons, List.map_nil]); first | done | rfl | (simp only [List.length_drop, List.length_take]; rfl)) ?_
            with_reducible refine (laws_eqSpace.calls kj10 t109 _ _ t110 t116 _ _ t117 true _ ?side1 ?side2 ?side3 ?side4 A29.out).mono ?_
            (case side1 => repeat (first | exact (Kd.R_reads' HO_114001.out).2.2 | (with_reducible refine Kd.C_alloc ?_ _) | (with_reducible refine Kd.C_drewN ?_ _) | (with_reducible refine Kd.C_drew ?_)))
            (case side2 => exact (Kd.R_reads' HO_114001.out).2.1)
            (case side3 => repeat (first | exact (Kd.R_reads' HO119.out).2.2 | (with_reducible refine Kd.C_alloc ?_ _) | (with_reducible refine Kd.C_drewN ?_ _) | (with_reducible refine Kd.C_drew ?_)))
            (case side4 => exact (Kd.R_reads' HO119.out).2.1)
            rintro e w34 ⟨rfl, hb⟩
            refine ⟨_, rfl, ?_⟩
            have n0_ := Aside0.mk (Kd.R_below (by (with_reducible repeat (first | apply Kd.R_alloc | apply Kd.R_drewN | apply Kd.R_drew)); exact HO_114001.out) hb)
            have n1_ := Aside0.mk (Kd.R_below (by (with_reducible repeat (first | apply Kd.R_alloc | apply Kd.R_drewN | apply Kd.R_drew)); exact HO119.out) hb)
            have n2_ := Aside0.mk (blk_below (g := gb101) (o := .cells #[.int .i64 a0_0, .slice A0_1 l0_1.length c0_1] 24 (0, 0)) (by (with_reducible repeat (first | refine blk_drewN ?_ _ | refine blk_drew ?_ | refine blk_alloc ?_ _)); exact BK101.out) hb)
            have n3_ := Aside0.mk (blk_below (g := gb113) (o := .cells #[.int .i64 t109, .slice Ao24 t110.length co24] 28 (0, 0)) (by (with_reducible repeat (first | refine blk_drewN ?_ _ | refine blk_drew ?_ | refine blk_alloc ?_ _)); exact BK113.out) hb)
            have n4_ := Aside0.mk (below_step (by repeat (first | (with_reducible first | exact HB.out | apply below_alloc | apply pw_below_drewN | apply below_drew1 | refine below_set ?_ GE101.out | refine below_set ?_ GE113.out) | exact HB.out)) hb)
            clear HO_114001
            clear HO119
            clear BK101
            clear BK113
            clear HB
            have HO_114001 := n0_
            have HO119 := n1_
            have BK101 := n2_
            have BK113 := n3_
            have HB := n4_
            clear n0_ n1_ n2_ n3_ n4_
            (try clear hb)
            (try clear hb2)
            (try clear hk)
            (try clear hi)
            refine hK.out _ _ ⟨(blk_cell BK113.out 0).trans rfl, (blk_cell BK113.out 1).trans rfl, (blk_cell BK101.out 0).trans rfl, (blk_cell BK101.out 1).trans rfl⟩ (fun hHeld => ?_)
            clear hK K
            refine norm_ (a' := ?_) ?_ ?_
            rotate_left
            · show Act.put _ (some 38) _ = _
              simp only [Act.put, List.setIfInBounds_toArray, List.set_cons_zero, List.set_cons_succ, i64_w, i32_w]
              rfl
            refine pure_ (i := 4) (N := some 39) (v := ?_) (a' := ?_) #[true, true, true, true, true] rfl rfl (by kernel_rfl) (fun _ _ _ h => h) (Or.inl ⟨by rfl, ?_⟩) ?_ ?_
            rotate_left
            · intro w'
              go_simp
              with_reducible rfl
            rotate_left
            · simp only [Act.put, List.setIfInBounds_toArray, List.set_cons_zero, List.set_cons_succ, i64_w, i32_w]
              rfl
            refine done_ (by kernel_rfl) ?_
            try go_wp2
            go_ret
            exact ⟨by first | rfl | (simp [errW_none, errW_some] <;> rfl) | (simp [*, errW_none, errW_some] <;> rfl), by repeat (first | (with_reducible first | exact HB.out | apply below_alloc | apply pw_below_drewN | apply below_drew1 | refine below_set ?_ GE101.out | refine below_set ?_ GE113.out) | exact HB.out)⟩
          · replace c30 := Bool.eq_false_iff.mpr c30
            subst c30
            have H1 : (some false) = some r := by rw [if_neg (show ¬ (false = true) by decide)] at H; exact H
            clear H
            have H := H1
            clear H1
            exact absurd ((Option.some.inj H).trans hT_.out) (by decide)

end Go.Proofs.Ytkggkllcmoiacaa.Q
