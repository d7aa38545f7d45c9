/- Contracts of functions that the laws reach: a call returns what the plain Lean function of the same name tells. Conditions: those of each theorem. Made by gen.py, a program of this session, over the print of the translation. -/
import Derived.Test.YtkepeflplmkcmaaPx0
import Derived.Test.YtkepeflplmkcmaaPx1
import Derived.Test.YtkepeflplmkcmaaPx2
import Derived.Test.YtkepeflplmkcmaaPx4
import Derived.Test.YtkepeflplmkcmaaPx5
import Derived.Test.YtkepeflplmkcmaaPx6
import Derived.Test.YtkepeflplmkcmaaPx7
import Derived.Shelf.Abstract
import Derived.Maps.OwnSet
import Derived.Maps.OwnOps
import Derived.Lib.SliceRun
namespace Go.Proofs.Ytkepeflplmkcmaa.Q
open Go.RowKit Go.Proofs.YtkepeflplmkcmaaW.PrintWords Go.Proofs.YtkepeflplmkcmaaW.PrintLast Go.Proofs.YtkepeflplmkcmaaW.PrintMore
attribute [local go_sem] max2_int min2_int max_two min_two max_three min_three max_four min_four   -- for this text's walks alone
set_option linter.unusedVariables false
set_option linter.unusedSimpArgs false

-- HAND spec_AreWordsOf: function 39
def spec_AreWordsOf.f (k : Nat) (n : Int) (l : List Int) (ws : List (List Int)) : Option (Bool × Bool) := (spec_spGood.f k n l).bind fun b => if b = true then (if isSpaceB n l = true then wordsV n l ws else none) else some (false, false)
theorem spec_AreWordsOf.mono (y0 : Int) (y1 : List Int) (y2 : List (List Int)) (k : Nat) : LeO (spec_AreWordsOf.f k y0 y1 y2) (spec_AreWordsOf.f (k + 1) y0 y1 y2) := by
 unfold spec_AreWordsOf.f
 exact LeO.bind (spec_spGood.mono _ _ k) fun b => LeO.refl _
theorem at_KW {w : World} {A : Option Addr} {Ad : Nat → Option Addr} {cp : Nat → Nat} {ws : List (List Int)} {L : List Nat} (h : Kd.C (KW Ad cp ws) w A L.length L) {j : Nat} (hj : j < L.length) : ∃ ad, A = some ad ∧ w.cell? (ad.add j) = some (.slice (Ad (L.getD j 0)) (ws.getD (L.getD j 0) []).length (cp (L.getD j 0))) := by
 obtain ⟨ad, e1, hc⟩ := h.2.2 (by omega)
 obtain ⟨c, hs, hr, hcell⟩ := hc j _ (List.getElem?_eq_getElem hj)
 refine ⟨ad, e1, ?_⟩
 rw [show c = [hdW Ad cp ws L[j]] from hr] at hcell
 have h3 := hcell 0 _ rfl
 rw [show j * (KW Ad cp ws).sz + 0 = j from Nat.mul_one j] at h3
 rw [h3, show L.getD j 0 = L[j] by simp [List.getD, hj]]
 rfl
theorem dist_step {ws : List (List Int)} {i : Nat} (hi : i < ws.length) (D : List (List Int)) : distL D (ws.drop i) = distL (if ws.getD i [] ∈ D then D else D ++ [ws.getD i []]) (ws.drop (i + 1)) := by
 rw [List.drop_eq_getElem_cons hi, show ws.getD i [] = ws[i] by simp [List.getD, hi]]
 rfl
theorem any_mem {ws : List (List Int)} {DL : List Nat} {x : List Int} {F : Bool} (h : (DL.any fun d => decide (ws.getD d [] = x)) = F) : (F = true ↔ x ∈ DL.map fun d => ws.getD d []) := by
 rw [← h, List.any_eq_true, List.mem_map]
 constructor
 ·
  rintro ⟨d, hd, e⟩
  exact ⟨d, hd, of_decide_eq_true e⟩
 ·
  rintro ⟨d, hd, e⟩
  exact ⟨d, hd, decide_eq_true e⟩
set_option maxHeartbeats 2000000 in
set_option maxRecDepth 100000 in
theorem spec_AreWordsOf.calls (k : Nat) (n : Int) (A : Option Addr) (c : Nat) (l : List Int) (A1 : Option Addr) (c1 : Nat) (ws : List (List Int)) (r1 r2 : Bool) (w : World) (hr : Kd.C (Kd.int .i64) w A l.length l) (hc : l.length ≤ c) (hr1 : Kd.C (Kd.slice 3 (Kd.int .i64)) w A1 ws.length ws) (hc1 : ws.length ≤ c1) (h : spec_AreWordsOf.f k n l ws = some (r1, r2)) :
  Calls Try.prog 39 #[.agg #[.int .i64 n, .slice A l.length c], .slice A1 ws.length c1] w fun e w' => e = .returned (.tuple #[.bool r1, .bool r2]) ∧ Below w.heap.size w w' := by
 have hu := Try.underlying28
 have HR := asd hr
 have HC := asd hc
 have HR1 := asd hr1
 have hmx1 := Kd.C_max hr1
 clear hr hc hr1 hc1
 unfold spec_AreWordsOf.f at h
 obtain ⟨bg, hg, h0⟩ := Option.bind_eq_some_iff.1 h
 clear h
 have h := h0
 clear h0
 have HG := asd hg
 clear hg
 have HB0 := asd (Below.refl w.heap.size w)
 cases bg with
 | false =>
  obtain ⟨rfl, rfl⟩ : false = r1 ∧ false = r2 := by simpa using h
  clear h
  go_enter Try.func39, Try.ntmps39
  go_wp2_with (first | ((with_reducible refine gate_dst (N := 2) rfl ?_); refine box_event ?hg (N := 2) ?hd (cs := #[.int .i64 n, .slice A l.length c]) (t := 28) ?hr ?_; (case hd => rfl); (case hg => rfl); (case hr => first | (go_simp; done) | (go_simp; rfl)); intro g ge W gb Wb; have HXg := asd (SpBox.mk_ ge gb Wb); have gz0 := HXg.out.c0; have gz1 := HXg.out.c1; clear ge gb Wb) | (go_at_call 43; (with_reducible refine (spec_spGood.calls k n _ _ l false _ (by repeat (first | exact Kd.C_below HR.out HXg.out.bel | (with_reducible refine Kd.C_drewN ?_ _) | (with_reducible refine Kd.C_drew ?_))) HC.out HG.out).mono ?_); rintro e W2 ⟨rfl, hbel_⟩; have HX2 := asd (SpBox.next HXg.out (by first | exact hbel_ | exact below_since hbel_ | exact below_since1 hbel_)); skip; clear hbel_))
  go_ret2
  exact ⟨rfl, (by repeat (first | exact HX2.out.bel | apply pw_below_drewN | apply below_drew1))⟩
 | true =>
  rw [if_pos rfl] at h
  by_cases hS : isSpaceB n l = true
  ·
   rw [if_pos hS] at h
   unfold wordsV at h
   by_cases hle : ws.length ≤ 200
   ·
    have hgt : ¬ (ws.length : Int) > 200 := by omega
    have hgt2 : ¬ (200 : Int) < (ws.length : Int) := by omega
    rw [if_pos ⟨hS, hle⟩] at h
    obtain ⟨V, hV⟩ : ∃ V : Int, V = (cntW (famOf l) n.toNat 0 : Int) := ⟨_, rfl⟩
    obtain ⟨T, hT, hTl, hT0⟩ := woWays0_ok hS
    obtain ⟨kT, hkT⟩ := hT
    have HKT := asd (hkT kT (Nat.le_refl _))
    rw [← hV] at h hT0
    have HT0 := asd hT0
    have HTL := asd hTl
    obtain ⟨Ad, cp, hC, hRd⟩ := heads_of HR1.out
    have hrl : (List.range ws.length).length = ws.length := List.length_range
    have HWC : Aside0 (∀ W i, Below w.heap.size w W → i < ws.length → ∃ ad, A1 = some ad ∧ W.cell? (ad.add i) = some (.slice (Ad i) (ws.getD i []).length (cp i))) := ⟨fun W i hb hi => by
     obtain ⟨ad, e1, h1⟩ := at_KW (Kd.C_below hC hb) (j := i) (by omega)
     rw [show (List.range ws.length).getD i 0 = i by simp [List.getD, hi]] at h1
     exact ⟨ad, e1, h1⟩⟩
    have HFU : Aside0 (∀ W i, Below w.heap.size w W → i < ws.length → Calls Try.prog 83 #[.agg #[.int .i64 n, .slice A l.length c], .slice (Ad i) (ws.getD i []).length (cp i)] W fun e w' => e = .returned (.bool (fullV n l (ws.getD i []))) ∧ Below W.heap.size W w') := ⟨fun W i hb hi => by
     obtain ⟨kF, hkF⟩ := woFull_ok hS (ws.getD i [])
     exact spec_woFull.calls kF n _ _ l _ _ _ _ _ (Kd.C_below HR.out hb) HC.out (Kd.C_below (hRd i hi).1 hb) (hRd i hi).2 (hkF kF (Nat.le_refl _))⟩
    have HSA : Aside0 (∀ W i d, Below w.heap.size w W → i < ws.length → d < ws.length → fullV n l (ws.getD d []) = true → Calls Try.prog 84 #[.slice (Ad d) (ws.getD d []).length (cp d), .slice (Ad i) (ws.getD i []).length (cp i)] W fun e w' => e = .returned (.bool (decide (ws.getD d [] = ws.getD i []))) ∧ Drawn0 W w') := ⟨fun W i d hb hi hd hf => by
     obtain ⟨kF, hkF⟩ := l1Same_ok (ws.getD d []) (ws.getD i []) (by have := fullV_lenS hS hf; omega)
     exact spec_l1Same.calls kF _ _ _ _ _ _ _ _ (Kd.C_below (hRd d hd).1 hb) (hRd d hd).2 (Kd.C_below (hRd i hi).1 hb) (hRd i hi).2 (hkF kF (Nat.le_refl _))⟩
    have HRES := asd h
    have HLE := asd hle
    clear h hS hC hRd hrl hle hmx1 hV hT0 hTl hkT
    go_enter Try.func39, Try.ntmps39
    go_wp2_with (first | ((with_reducible refine gate_dst (N := 2) rfl ?_); refine box_event ?hg (N := 2) ?hd (cs := #[.int .i64 n, .slice A l.length c]) (t := 28) ?hr ?_; (case hd => rfl); (case hg => rfl); (case hr => first | (go_simp; done) | (go_simp; rfl)); intro g ge W1 gb W1b; have HB1 := asd (below_step (by repeat (first | exact HB0.out | apply pw_below_drewN | apply below_drew1 | apply below_alloc)) W1b); have BK1 := asd gb; have GE1 := asd ((by rw [ge]; exact below_size (by repeat (first | exact HB0.out | apply pw_below_drewN | apply below_drew1 | apply below_alloc))) : w.heap.size ≤ g); have q0 : W1.cell? ⟨g, 0, none⟩ = some (.int .i64 n) := (blk_cell BK1.out 0).trans rfl; have q1 : W1.cell? ⟨g, 1, none⟩ = some (.slice A l.length c) := (blk_cell BK1.out 1).trans rfl; clear W1b gb ge) | (go_at_call 43; (with_reducible refine (spec_spGood.calls k n _ _ l true _ ?ia HC.out HG.out).mono ?_); (case ia => exact Kd.C_below HR.out HB1.out); rintro e W2 ⟨rfl, hb2⟩; have HB2 := asd (below_step HB1.out hb2); have BK2 := asd (blk_below BK1.out hb2); clear hb2 q0 q1))
    go_loopg [6, 22] ws.length (fun kq v6 v22 wr => ∃ (i : Nat) (DL : List Nat) (Ao : Option Addr) (co : Nat), v6 = .slice Ao DL.length co ∧ v22 = .int .i64 (i : Int) ∧ Aside0 (i + kq = ws.length) ∧ Aside0 (∀ d ∈ DL, d < ws.length ∧ fullV n l (ws.getD d []) = true) ∧ Aside0 (DL.length ≤ i) ∧ Aside0 (distL (DL.map fun d => ws.getD d []) (ws.drop i) = distL [] ws ∧ ((ws.drop i).all fun x => fullV n l x) = (ws.all fun x => fullV n l x)) ∧ Aside0 (Kd.R (KW Ad cp ws) 22 wr w.heap.size (fun _ => True) (.slice Ao DL.length co) DL) ∧ Aside0 (Below w.heap.size w wr) ∧ Aside0 (wr.heap[g]? = some (.cells #[.int .i64 n, .slice A l.length c] 28 (0, 0))))
    case atStart => exact ⟨0, [], none, 0, rfl, rfl, ⟨by omega⟩, ⟨fun d hd => by cases hd⟩, ⟨Nat.le_refl _⟩, ⟨rfl, rfl⟩, ⟨Kd.R_nil _ _ _ _ _⟩, HB2, BK2⟩
    case round =>
     clear HB1 BK1 HB2 BK2 HB0
     obtain ⟨i, DL, Ao, co, rfl, rfl, hj, HDF, HDL, HDI, HRD, HB, BK⟩ := hrel
     have q0 : wr.cell? ⟨g, 0, none⟩ = some (.int .i64 n) := (blk_cell BK.out 0).trans rfl
     have q1 : wr.cell? ⟨g, 1, none⟩ = some (.slice A l.length c) := (blk_cell BK.out 1).trans rfl
     cases gk with
     | zero =>
      have hi : i = ws.length := by have := hj.out; omega
      have hlt : ¬ (i : Int) < (ws.length : Int) := by omega
      have HDD : Aside0 (DL.length = (distL [] ws).length ∧ (ws.all fun x => fullV n l x) = true) := ⟨by
       have h := HDI.out
       rw [hi, List.drop_length] at h
       refine ⟨?_, h.2.symm⟩
       rw [← h.1]
       exact (List.length_map _).symm⟩
      have HRE : Aside0 (((DL.length : Int) == V) = r1 ∧ true = r2) := ⟨by
       have h := HRES.out
       rw [HDD.out.2, if_pos rfl, ← HDD.out.1] at h
       have h4 : decide ((DL.length : Int) = V) = r1 ∧ true = r2 := by simpa using h
       exact ⟨h4.1, h4.2⟩⟩
      obtain ⟨eb, rfl⟩ := HRE.out
      clear hi
      go_wp2_with (go_at_call 57; (with_reducible refine (spec_woWays.calls kT n _ _ l T _ ?wa HC.out HKT.out).mono ?_); (case wa => exact Kd.C_below HR.out HB.out); rintro e W7 ⟨v7_, rfl, hRT, hb7⟩; obtain ⟨AT, cT_, rfl⟩ := Kd.R_slice hRT; obtain ⟨bT, cT2, eT, _, _, _⟩ := Kd.R_form hRT HTL.out; cases eT; have hTlt : (0 : Int) < (T.length : Int) := (by have := HTL.out; omega); obtain ⟨cT0, _⟩ := Kd.R_celln 0 hRT 0 (Int.le_refl _) hTlt; rw [show rdOf 0 T 0 = V from HT0.out, show (0 : Int).toNat = 0 from rfl] at cT0; have HB7 := asd (below_step HB.out hb7); clear hRT hb7)
      go_ret2
      exact ⟨by first | rfl | (rw [eb]; rfl), HB7.out⟩
     | succ kn =>
      have hil : i < ws.length := by have := hj.out; omega
      have hlt : (i : Int) < (ws.length : Int) := by omega
      have HWS : Aside0 (wrap64 ((i : Int) + 1) = ((i + 1 : Nat) : Int)) := ⟨by have := HLE.out; rw [wrap_succ (by omega) (by omega)]; push_cast; rfl⟩
      obtain ⟨ad, e1, hcw⟩ := HWC.out wr i HB.out hil
      cases e1
      have HFI := asd (HFU.out wr i HB.out hil)
      obtain ⟨ff, hff⟩ : ∃ ff, ff = fullV n l (ws.getD i []) := ⟨_, rfl⟩
      rw [← hff] at HFI
      have HFF := asd hff
      clear hff
      obtain ⟨xi, hxi⟩ : ∃ x, x = ws.getD i [] := ⟨_, rfl⟩
      obtain ⟨ai, hai⟩ : ∃ x, x = Ad i := ⟨_, rfl⟩
      obtain ⟨ci, hci⟩ : ∃ x, x = cp i := ⟨_, rfl⟩
      rw [← hxi, ← hai, ← hci] at hcw HFI
      have HHD : Aside0 ([Value.slice ai xi.length ci] = [hdW Ad cp ws i]) := ⟨by rw [hxi, hai, hci]; rfl⟩
      have HXI := asd (And.intro hxi (And.intro hai hci))
      clear hxi hai hci
      have HALL : Aside0 (((ws.drop i).all fun x => fullV n l x) = (ff && ((ws.drop (i + 1)).all fun x => fullV n l x))) := ⟨by
       rw [List.drop_eq_getElem_cons hil, List.all_cons, HFF.out, show ws.getD i [] = ws[i] by simp [List.getD, hil]]⟩
      cases ff with
      | false =>
       have HRE : Aside0 (false = r1 ∧ true = r2) := ⟨by
        have h := HRES.out
        have h2 := HDI.out.2
        rw [HALL.out, Bool.false_and] at h2
        rw [← h2, if_neg (by decide)] at h
        simpa using h⟩
       obtain ⟨rfl, rfl⟩ := HRE.out
       go_wp2_with (go_at_call 83; (refine (HFI.out).mono ?_); rintro e W3 ⟨rfl, hb3⟩; have HB3 := asd (below_step HB.out hb3); clear hb3)
       go_ret2
       exact ⟨rfl, HB3.out⟩
      | true =>
       obtain ⟨F, hF⟩ : ∃ F, (DL.any fun d => decide (ws.getD d [] = ws.getD i [])) = F := ⟨_, rfl⟩
       have HF := asd hF
       have HFM := asd (any_mem hF)
       clear hF
       have HSI : Aside0 (∀ W d, Below w.heap.size w W → d < ws.length → fullV n l (ws.getD d []) = true → Calls Try.prog 84 #[.slice (Ad d) (ws.getD d []).length (cp d), .slice ai xi.length ci] W fun e w' => e = .returned (.bool (decide (ws.getD d [] = ws.getD i []))) ∧ Drawn0 W w') := ⟨fun W d hb hd hf => by
        rw [HXI.out.1, HXI.out.2.1, HXI.out.2.2]
        exact HSA.out W i d hb hil hd hf⟩
       have HALN : Aside0 (((ws.drop (i + 1)).all fun x => fullV n l x) = (ws.all fun x => fullV n l x)) := ⟨by rw [← HDI.out.2, HALL.out, Bool.true_and]⟩
       have HDS := asd (dist_step hil (DL.map fun d => ws.getD d []))
       go_wp2_with (go_at_call 83; (refine (HFI.out).mono ?_); rintro e W3 ⟨rfl, hb3⟩; have HB3 := asd (below_step HB.out hb3); have BK3 := asd (blk_below BK.out hb3); have HR3 := asd (Kd.R_below HRD.out hb3); clear hb3 q0 q1 hcw)
       go_loopg [9, 32] DL.length (fun kq2 v9 v32 wr2 => ∃ (fd : Bool) (j : Nat), v9 = .bool fd ∧ v32 = .int .i64 (j : Int) ∧ Aside0 (j + kq2 = DL.length) ∧ Aside0 ((fd || (DL.drop j).any fun d => decide (ws.getD d [] = ws.getD i [])) = F) ∧ Aside0 (Kd.R (KW Ad cp ws) 22 wr2 w.heap.size (fun _ => True) (.slice Ao DL.length co) DL) ∧ Aside0 (Below w.heap.size w wr2) ∧ Aside0 (wr2.heap[g]? = some (.cells #[.int .i64 n, .slice A l.length c] 28 (0, 0))))
       case atStart => exact ⟨false, 0, rfl, rfl, ⟨by omega⟩, ⟨by rw [Bool.false_or]; exact HF.out⟩, HR3, HB3, BK3⟩
       case round =>
        clear HR3 HB3 BK3 HRD HB BK
        obtain ⟨fd, j, rfl, rfl, hj2, HFD, HRD, HB, BK⟩ := hrel
        cases gk with
        | zero =>
         have hj3 : j = DL.length := by have := hj2.out; omega
         have hlt2 : ¬ (j : Int) < (DL.length : Int) := by omega
         have HFE : Aside0 (fd = F) := ⟨by
          have h := HFD.out
          rw [hj3, List.drop_length] at h
          simpa using h⟩
         obtain rfl := HFE.out
         cases fd with
         | true =>
          have HDN : Aside0 (distL (DL.map fun d => ws.getD d []) (ws.drop (i + 1)) = distL [] ws) := ⟨by
           rw [← HDI.out.1, HDS.out, if_pos (HFM.out.1 rfl)]⟩
          go_wp2
          go_roundg kn
          case measure => exact Nat.le_refl _
          case rel => exact ⟨i + 1, DL, Ao, co, rfl, by first | rw [HWS.out] | go_num, ⟨by have := hj.out; omega⟩, HDF, ⟨by have := HDL.out; omega⟩, ⟨HDN.out, HALN.out⟩, HRD, HB, BK⟩
         | false =>
          have HDN : Aside0 (distL ((DL ++ [i]).map fun d => ws.getD d []) (ws.drop (i + 1)) = distL [] ws) := ⟨by
           rw [← HDI.out.1, HDS.out, if_neg (fun h => by have := HFM.out.2 h; cases this), List.map_append]
           rfl⟩
          have HDF2 : Aside0 (∀ d ∈ DL ++ [i], d < ws.length ∧ fullV n l (ws.getD d []) = true) := ⟨fun d hd => by
           rcases List.mem_append.1 hd with hd | hd
           ·
            exact HDF.out d hd
           ·
            rw [List.mem_singleton] at hd
            subst hd
            exact ⟨hil, HFF.out.symm⟩⟩
          have hdl : DL.length ≤ 200 := by have := HDL.out; have := HLE.out; omega
          go_wp2_with ((with_reducible refine gate_builtin (b := .append) (xs := #[.tmp 45, .tmp 47]) rfl ?_); at_builtin; refine Kd.R_append (KW Ad cp ws) (w0 := w) w.heap.size rfl (.tmp 45) (.tmp 47) 40 22 (.slice none 0 0) 24 rfl Try.underlying40 info22 rfl (show 0 < 1 from Nat.one_pos) (by omega) (.slice Ao DL.length co) DL i [.slice ai xi.length ci] (fun _ => True) (fun _ => False) rfl rfl ?aP (fun _ hk => hk.elim) ?aF ?aO ?aB ?aS ?aL ?_; (case aP => exact HHD.out); (case aB => exact HB.out); (case aF => exact (fun _ _ => trivial)); (case aO => exact HRD.out); (case aS => exact (below_size HB.out)); (case aL => omega); intro v5_ W5 ho_ hb_ hg_ hat_; have HR5 := asd ho_; have HB5 := asd hb_; have BK5 := asd (blk_grown BK.out hg_ (Kd.R_ne HRD.out BK.out (by decide))); obtain ⟨A5, c5, e5⟩ := Kd.R_slice ho_; subst e5; clear ho_ hb_ hg_ hat_)
          go_roundg kn
          case measure => exact Nat.le_refl _
          case rel => exact ⟨i + 1, DL ++ [i], A5, c5, by rw [List.length_append, List.length_singleton], by first | rw [HWS.out] | go_num, ⟨by have := hj.out; omega⟩, HDF2, ⟨by have := HDL.out; rw [List.length_append, List.length_singleton]; omega⟩, ⟨HDN.out, HALN.out⟩, HR5, HB5, BK5⟩
        | succ kn2 =>
         have hjl : j < DL.length := by have := hj2.out; omega
         have hlt2 : (j : Int) < (DL.length : Int) := by omega
         have HWJ : Aside0 (wrap64 ((j : Int) + 1) = ((j + 1 : Nat) : Int)) := ⟨by have := HDL.out; have := HLE.out; rw [wrap_succ (by omega) (by omega)]; push_cast; rfl⟩
         obtain ⟨ad2, e2, hcd⟩ := at_KW (Kd.R_reads' HRD.out).2.2 hjl
         cases e2
         have hdm := HDF.out (DL.getD j 0) (by rw [List.getD_eq_getElem?_getD, List.getElem?_eq_getElem hjl]; exact List.getElem_mem hjl)
         have HSD := asd (HSI.out wr (DL.getD j 0) HB.out hdm.1 hdm.2)
         have HAN : Aside0 (((DL.drop j).any fun d => decide (ws.getD d [] = ws.getD i [])) = (decide (ws.getD (DL.getD j 0) [] = ws.getD i []) || (DL.drop (j + 1)).any fun d => decide (ws.getD d [] = ws.getD i []))) := ⟨by
          rw [List.drop_eq_getElem_cons hjl, List.any_cons, show DL.getD j 0 = DL[j] by simp [List.getD, hjl]]⟩
         obtain ⟨ss, hss⟩ : ∃ ss, ss = decide (ws.getD (DL.getD j 0) [] = ws.getD i []) := ⟨_, rfl⟩
         rw [← hss] at HSD HAN
         obtain ⟨yj, hyj⟩ : ∃ x, x = ws.getD (DL.getD j 0) [] := ⟨_, rfl⟩
         obtain ⟨aj, haj⟩ : ∃ x, x = Ad (DL.getD j 0) := ⟨_, rfl⟩
         obtain ⟨cj, hcj⟩ : ∃ x, x = cp (DL.getD j 0) := ⟨_, rfl⟩
         rw [← hyj, ← haj, ← hcj] at hcd HSD
         clear hdm hss hyj haj hcj
         cases fd with
         | true =>
          have HFN : Aside0 ((true || (DL.drop (j + 1)).any fun d => decide (ws.getD d [] = ws.getD i [])) = F) := ⟨by rw [← HFD.out]; rfl⟩
          go_wp2
          go_roundg kn2
          case measure => exact Nat.le_refl _
          case rel => exact ⟨true, j + 1, rfl, by first | rw [HWJ.out] | go_num, ⟨by have := hj2.out; omega⟩, HFN, HRD, HB, BK⟩
         | false =>
          have HFN : Aside0 ((ss || (DL.drop (j + 1)).any fun d => decide (ws.getD d [] = ws.getD i [])) = F) := ⟨by rw [← HFD.out, HAN.out, Bool.false_or]⟩
          go_wp2_with (go_at_call 84; (refine (HSD.out).mono ?_); rintro e w' ⟨rfl, ⟨nd, rfl⟩⟩; have HR6 := asd (Kd.R_drewN HRD.out nd); have HB6 := asd (pw_below_drewN HB.out nd); have BK6 := asd (blk_drewN BK.out nd); generalize World.drewN wr nd = W6 at *)
          go_roundg kn2
          case measure => exact Nat.le_refl _
          case rel => exact ⟨ss, j + 1, rfl, by first | rw [HWJ.out] | go_num, ⟨by have := hj2.out; omega⟩, HFN, HR6, HB6, BK6⟩
   ·
    have hgt : (ws.length : Int) > 200 := by omega
    have hgt2 : (200 : Int) < (ws.length : Int) := by omega
    rw [if_neg (fun h => hle h.2)] at h
    obtain ⟨rfl, rfl⟩ : false = r1 ∧ false = r2 := by simpa using h
    clear h hS hle
    go_enter Try.func39, Try.ntmps39
    go_wp2_with (first | ((with_reducible refine gate_dst (N := 2) rfl ?_); refine box_event ?hg (N := 2) ?hd (cs := #[.int .i64 n, .slice A l.length c]) (t := 28) ?hr ?_; (case hd => rfl); (case hg => rfl); (case hr => first | (go_simp; done) | (go_simp; rfl)); intro g ge W gb Wb; have HXg := asd (SpBox.mk_ ge gb Wb); have gz0 := HXg.out.c0; have gz1 := HXg.out.c1; clear ge gb Wb) | (go_at_call 43; (with_reducible refine (spec_spGood.calls k n _ _ l true _ (by repeat (first | exact Kd.C_below HR.out HXg.out.bel | (with_reducible refine Kd.C_drewN ?_ _) | (with_reducible refine Kd.C_drew ?_))) HC.out HG.out).mono ?_); rintro e W2 ⟨rfl, hbel_⟩; have HX2 := asd (SpBox.next HXg.out (by first | exact hbel_ | exact below_since hbel_ | exact below_since1 hbel_)); skip; clear hbel_))
    go_ret2
    exact ⟨rfl, (by repeat (first | exact HX2.out.bel | apply pw_below_drewN | apply below_drew1))⟩
  ·
   rw [if_neg hS] at h
   cases h

/-! ### laws_toIntSS: function 40 -/
def laws_toIntSS.l0 : Nat → List (List Int) → List (List Int) → Int → Option ((List (List Int)))
 | 0, _, _, _ => none
 | k + 1, x0, x3, x4 => if x4 < (x0.length : Int) then (if 0 ≤ x4 then ((laws_toIntS.f k (rd_L9 x0 x4)).bind fun t105 => (if x4 < (x3.length : Int) then (laws_toIntSS.l0 k x0 (x3.set (x4 : Int).toNat t105) (wrap64 (x4 + 1))) else (none))) else (none)) else (some x3)
def laws_toIntSS.f (k : Nat) (l0 : List (List Int)) : Option ((List (List Int))) := if 0 ≤ (l0.length : Int) then (if ((l0.length : Int) : Int).toNat ≤ 11728124029610 then (laws_toIntSS.l0 k l0 (List.replicate ((l0.length : Int) : Int).toNat []) 0) else (none)) else (none)
theorem laws_toIntSS.mono_l : ∀ k, (∀ y0 y1 y2, LeO (laws_toIntSS.l0 k y0 y1 y2) (laws_toIntSS.l0 (k + 1) y0 y1 y2))
 | 0 => fun _ _ _ r h => by simp [laws_toIntSS.l0] at h
 | k + 1 => by
  have ih0 := laws_toIntSS.mono_l k
  ·
   intro y0 y1 y2
   unfold laws_toIntSS.l0
   repeat' first
   | (with_reducible exact ih0 _ _ _)
   | (with_reducible exact laws_toIntS.mono _ _)
   | (with_reducible exact LeO.refl _)
   | (with_reducible exact LeO.none _)
   | (with_reducible refine LeO.ite ?_ ?_)
   | (with_reducible refine LeO.bind ?_ (fun _ => ?_))
   | exact ih0 _ _ _
   | exact laws_toIntS.mono _ _
   | exact LeO.none _
   | refine LeO.ite ?_ ?_
   | refine LeO.bind ?_ (fun _ => ?_)
theorem laws_toIntSS.mono : ∀ a0 k, LeO (laws_toIntSS.f k a0) (laws_toIntSS.f (k + 1) a0) := by
 intro a0 k
 have ih0 := laws_toIntSS.mono_l k
 unfold laws_toIntSS.f
 repeat' first
   | (with_reducible exact ih0 _ _ _)
   | (with_reducible exact laws_toIntS.mono _ _)
   | (with_reducible exact LeO.refl _)
   | (with_reducible exact LeO.none _)
   | (with_reducible refine LeO.ite ?_ ?_)
   | (with_reducible refine LeO.bind ?_ (fun _ => ?_))
   | exact ih0 _ _ _
   | exact laws_toIntS.mono _ _
   | exact LeO.none _
   | refine LeO.ite ?_ ?_
   | refine LeO.bind ?_ (fun _ => ?_)
set_option maxHeartbeats 8000000 in
set_option maxRecDepth 100000 in
theorem laws_toIntSS.calls (k : Nat) (A0 : Option Addr) (c0 : Nat) (l0 : List (List Int)) (r : List (List Int)) (w : World) (hr0 : Kd.C (Kd.slice 3 (Kd.int .i64)) w A0 l0.length l0) (hc0 : l0.length ≤ c0) (h : laws_toIntSS.f k l0 = some r) :
  Calls Try.prog 40 #[.slice A0 l0.length c0] w fun e w' => ∃ v0_ : Value, e = .returned (v0_) ∧ Kd.S (Kd.slice 3 (Kd.int .i64)) 22 w' w.heap.size (fun _ => True) v0_ r ∧ Below w.heap.size w w' := by
 have HR0 := asd hr0
 have HC0 := asd hc0
 clear hr0 hc0
 have HB := asd (Below.refl w.heap.size w)
 have H : (if 0 ≤ (l0.length : Int) then (if ((l0.length : Int) : Int).toNat ≤ 11728124029610 then (laws_toIntSS.l0 k l0 (List.replicate ((l0.length : Int) : Int).toNat []) 0) else (none)) else (none)) = some r := h
 clear h
 by_cases c2 : 0 ≤ (l0.length : Int)
 ·
  rw [if_pos c2] at H
  have c2b0 := eq_true c2
  have c2b1 : decide (0 ≤ (l0.length : Int)) = true := decide_eq_true c2
  clear c2
  by_cases c3 : ((l0.length : Int) : Int).toNat ≤ 11728124029610
  ·
   rw [if_pos c3] at H
   have c3b0 := eq_true c3
   have c3b1 : decide (((l0.length : Int) : Int).toNat ≤ 11728124029610) = true := decide_eq_true c3
   clear c3
   obtain ⟨y101, hy101⟩ : ∃ y_ : List (List Int), y_ = (List.replicate ((l0.length : Int) : Int).toNat []) := ⟨_, rfl⟩
   replace H : (laws_toIntSS.l0 k l0 y101 0) = some r := by first | (rw [hy101]; with_reducible exact H) | (have H2_ := (Option.bind_some _ _).symm.trans H; rw [hy101]; with_reducible exact H2_) | (have H2_ := (Option.bind_some _ _).symm.trans H; with_reducible exact H2_) | with_reducible exact H | (rw [hy101]; exact H) | exact H
   have Ny101 := asd hy101
   clear hy101
   have H' := asd H
   clear H
   go_enter Try.func40, Try.ntmps40
   go_wp2_with (first | ((with_reducible refine gate_dst (N := 7) rfl ?_); refine Kd.S_make (Kd.slice 3 (Kd.int .i64)) _ 22 rfl (N := 7) rfl 40 _ _ rfl (l0.length : Int) rfl rfl Try.underlying40 (.slice none 0 0) 24 info22 rfl (by decide) (by omega) [] (ok := fun _ => True) (okp := fun _ => True) ⟨_, rfl, Kd.R_nil _ _ _ _ _⟩ (fun _ hk => hk) trivial (of_decide_eq_true (by first | (with_reducible assumption) | assumption)) (Nat.le_trans (Nat.mul_le_mul_right _ (of_decide_eq_true (by first | (with_reducible assumption) | assumption) : (l0.length : Int).toNat ≤ 11728124029610)) (by omega)) (Below.refl _ _) (Nat.le_refl _) ?_; intro v102 w4 ho5 hb hg_ hnew_; clear hg_ hnew_; (first | rw [← Ny101.out] at ho5 | (simp only [Int.reduceToNat] at ho5; rw [← Ny101.out] at ho5)); have n0_ := asd (Kd.S_lower ho5 (below_size (by repeat (first | (with_reducible first | exact HB.out | apply below_alloc | apply pw_below_drewN | apply below_drew1) | exact HB.out)))); have n1_ := asd (below_step (by repeat (first | (with_reducible first | exact HB.out | apply below_alloc | apply pw_below_drewN | apply below_drew1) | exact HB.out)) hb); clear HB; have HO103 := n0_; have HB := n1_; clear n0_ n1_; clear hb ho5))
   go_loopg [4] k (fun kq v4 w' => ∃ (x3_1 : List (List Int)) (x4_1 : Int), v4 = .int .i64 x4_1 ∧ Aside0 (laws_toIntSS.l0 kq l0 x3_1 x4_1 = some r) ∧ Aside0 (kq ≤ k) ∧ Aside0 (Kd.S (Kd.slice 3 (Kd.int .i64)) 22 w' w.heap.size (fun _ => True) v102 x3_1) ∧ Aside0 (Below w.heap.size w w'))
   case atStart => exact ⟨(y101), (0), (by first | rfl | (simp; done) | (simp [*]; done)), H', ⟨Nat.le_refl _⟩, ⟨by (with_reducible repeat (first | apply Kd.S_alloc | apply Kd.S_drewN | apply Kd.S_drew)); exact HO103.out⟩, ⟨by repeat (first | (with_reducible first | exact HB.out | apply below_alloc | apply pw_below_drewN | apply below_drew1) | exact HB.out)⟩⟩
   case round =>
    clear H'
    try clear c2
    try clear c2b0
    try clear c2b1
    try clear p2
    try clear c3
    try clear c3b0
    try clear c3b1
    try clear c4
    try clear HO_3; skip
    obtain ⟨x3_1, x4_1, rfl, HA, HK1, HO_3, HB⟩ := hrel
    cases gk with
    | zero => exact absurd HA.out (by simp [laws_toIntSS.l0])
    | succ k1 =>
     have H := HA.out
     clear HA
     simp only [laws_toIntSS.l0] at H
     by_cases c6 : x4_1 < (l0.length : Int)
     ·
      rw [if_pos c6] at H
      have c6b0 : decide (x4_1 < (l0.length : Int)) = true := decide_eq_true c6
      clear c6
      by_cases c7 : 0 ≤ x4_1
      ·
       rw [if_pos c7] at H
       have c7b0 : decide (0 ≤ x4_1) = true := decide_eq_true c7
       clear c7
       replace H := Option.bind_eq_some_iff.mp H
       obtain ⟨t105, A80, H⟩ := H
       replace H : (if x4_1 < (x3_1.length : Int) then (laws_toIntSS.l0 k1 l0 (x3_1.set (x4_1 : Int).toNat t105) (wrap64 (x4_1 + 1))) else (none)) = some r := H
       have A8 := asd A80
       clear A80
       by_cases c9 : x4_1 < (x3_1.length : Int)
       ·
        rw [if_pos c9] at H
        have c9b0 : decide (x4_1 < (x3_1.length : Int)) = true := decide_eq_true c9
        clear c9
        obtain ⟨y108, hy108⟩ : ∃ y_ : List (List Int), y_ = (x3_1.set (x4_1 : Int).toNat t105) := ⟨_, rfl⟩
        replace H : (laws_toIntSS.l0 k1 l0 y108 (wrap64 (x4_1 + 1))) = some r := by first | (rw [hy108]; with_reducible exact H) | (have H2_ := (Option.bind_some _ _).symm.trans H; rw [hy108]; with_reducible exact H2_) | (have H2_ := (Option.bind_some _ _).symm.trans H; with_reducible exact H2_) | with_reducible exact H | (rw [hy108]; exact H) | exact H
        have Ny108 := asd hy108
        clear hy108
        have H' := asd H
        clear H
        have p104 : 0 ≤ (x4_1 : Int) := of_decide_eq_true (by first | (with_reducible assumption) | assumption)
        have q104 : x4_1 < (l0.length : Int) := of_decide_eq_true (by first | (with_reducible assumption) | assumption)
        obtain ⟨ad104, A104_0, c104_0, e104, hx104_0, hl104_0, hi104_0⟩ := at_L9 HR0.out x4_1 p104 q104
        cases e104
        replace hx104_0 := (HB.out.cell (World.block_lt_of_cell? w _ hx104_0)).trans hx104_0
        have HR104_0 := asd hi104_0
        have HC104_0 := asd hl104_0
        clear hi104_0 hl104_0
        replace p104 := eq_true p104
        replace q104 := eq_true q104
        go_wp2_with (first | ((with_reducible refine gate_callee (f := 46) rfl ?_); refine goesL_ (some 20) rfl rfl Try.func46 (by kernel_rfl) rfl #[.slice A104_0 (rd_L9 l0 x4_1).length c104_0] rfl (by (try simp only [List.map_toArray, List.map_cons, List.map_nil]); first | done | rfl | (simp only [List.length_drop, List.length_take]; rfl)) ?_; (with_reducible refine (laws_toIntS.calls k1 _ _ (rd_L9 l0 x4_1) t105 _ ?side1 ?side2 A8.out).mono ?_); (case side1 => repeat (first | exact (Kd.C_below HR104_0.out HB.out) | (with_reducible refine Kd.C_alloc ?_ _) | (with_reducible refine Kd.C_drewN ?_ _) | (with_reducible refine Kd.C_drew ?_))); (case side2 => exact HC104_0.out); rintro e w11 ⟨v106, rfl, ho0, hb⟩; refine ⟨_, rfl, ?_⟩; have n0_ := asd (Kd.S_elder' (by (with_reducible repeat (first | apply Kd.S_alloc | apply Kd.S_drewN | apply Kd.S_drew)); exact HO_3.out) (Kd.R_base ho0) hb); have n1_ := asd (Kd.R_lower ho0 (below_size (by repeat (first | (with_reducible first | exact HB.out | apply below_alloc | apply pw_below_drewN | apply below_drew1) | exact HB.out)))); have n2_ := asd (below_step (by repeat (first | (with_reducible first | exact HB.out | apply below_alloc | apply pw_below_drewN | apply below_drew1) | exact HB.out)) hb); clear HO_3; clear HB; have HO_3 := n0_; have HO107 := n1_; have HB := n2_; clear n0_ n1_ n2_; (try clear hb); (try clear hb2); (try clear hk); (try clear hi); (try clear ho0); have p10 : 0 ≤ (x4_1 : Int) := of_decide_eq_true (by first | (with_reducible assumption) | assumption); have q10 : (x4_1 : Int) < ((x3_1.length : Int) : Int) := of_decide_eq_true (by first | (with_reducible assumption) | assumption); obtain ⟨go10, co10, eo10, gb10, gl10, cl10, HG10⟩ := Kd.S_form HO_3.out (by omega); (first | cases eo10 | (injection eo10 with ea_ en_ ec_; (first | subst ea_ | (injection ea_ with ea_; subst ea_)); subst ec_; clear en_)); have GB10 := asd gb10; have GG10 := asd HG10; clear gb10 gl10 HG10; obtain ⟨_, ce10, hcl10, hM10, hcc10, hfr10, _, _⟩ := Kd.S_elem HO_3.out [] (x4_1 : Int) p10 q10; obtain ⟨ve10_0, rfl, ge10_0⟩ := hM10; have hx10_0 := hcc10 0 _ rfl; have hf10_0 := hfr10 0; (try simp only [show ((Kd.slice 3 (Kd.int .i64))).sz = 1 from rfl, Nat.mul_one, Nat.add_zero] at hx10_0); (try simp only [show ((Kd.slice 3 (Kd.int .i64))).sz = 1 from rfl, Nat.mul_one, Nat.add_zero] at hf10_0); clear hcl10 hcc10 hfr10; (try clear hM10); replace p10 := eq_true p10; replace q10 := eq_true q10; have n_ := asd (Kd.S_mono (ok' := (fun k_ => some k_ ≠ (v106 : Value).ownBlock)) HO_3.out (fun k_ hk => hk.2)); clear HO_3; have HO_3 := n_; clear n_; have HX12 := asd (show Kd.S (Kd.slice 3 (Kd.int .i64)) 22 w11 w.heap.size (fun k_ => ((fun _ => True)) k_ ∧ ¬ ((fun k_ => some k_ = (v106 : Value).ownBlock)) k_) (.slice (some ⟨go10, 0, none⟩) x3_1.length co10) x3_1 from (by (with_reducible repeat (first | apply Kd.S_alloc | apply Kd.S_drewN | apply Kd.S_drew)); exact Kd.S_mono HO_3.out (fun k_ hk => ⟨trivial, fun e_ => hk e_⟩))); obtain ⟨oki12, ce12, hcl12, hM12, hcc12, hfr12, hoki12, hH12⟩ := Kd.S_elem HX12.out [] (x4_1 : Int) (of_decide_eq_true (by first | (with_reducible assumption) | assumption)) (by have h_ : (x4_1 : Int) < ((x3_1.length : Int) : Int) := of_decide_eq_true (by first | (with_reducible assumption) | assumption); first | exact h_ | (first | omega | (have e_ := (Kd.S_reads' HO_3.out).1; omega)) | simpa using h_); obtain ⟨ve12_0, rfl, ge12_0⟩ := hM12; have HP12 := Kd.S_seg hH12 (of_decide_eq_true (by first | (with_reducible assumption) | assumption)) (by have h_ : (x4_1 : Int) < ((x3_1.length : Int) : Int) := of_decide_eq_true (by first | (with_reducible assumption) | assumption); first | exact h_ | (first | omega | (have e_ := (Kd.S_reads' HO_3.out).1; omega)) | simpa using h_) (seg := [v106]) (j := 0) (show 1 ≤ 1 from by decide) (x' := t105) (Kd.M_row (Kd.R_mono (Kd.R_tight rfl (Kd.R_mono (ok' := fun k_ => ((fun _ => True)) k_ ∧ k_ ≠ go10) (Kd.R_apart' (HO107.out) (Kd.S_typed HO_3.out) (by decide)) (fun k_ hk => ⟨trivial, fun e_ => (hk.2) (by rw [e_]; rfl)⟩))) (fun _ h_ => Or.inr (h_)))) (fun _ hk => hk) (fun k_ hk_ => ((Kd.R_mono (ok' := fun k_ => ((fun _ => True)) k_ ∧ k_ ≠ go10) (Kd.R_apart' (HO107.out) (Kd.S_typed HO_3.out) (by decide)) (fun k_ hk => ⟨trivial, fun e_ => (hk.2) (by rw [e_]; rfl)⟩))).1 k_ hk_.symm); have hx12_0 := hcc12 0 _ rfl; (try simp only [show ((Kd.slice 3 (Kd.int .i64))).sz = 1 from rfl, Nat.mul_one, Nat.add_zero] at hx12_0); have hf12_0 := hfr12 0; (try simp only [show ((Kd.slice 3 (Kd.int .i64))).sz = 1 from rfl, Nat.mul_one, Nat.add_zero] at hf12_0); clear hcl12 hcc12 hfr12 hoki12 hH12; (try clear hM12); (try simp only [show ((Kd.slice 3 (Kd.int .i64))).sz = 1 from rfl, Nat.mul_one, Nat.add_zero] at HP12)) | ((with_reducible refine gate_store (t := 22) (p := 21) rfl ?_); refine store_event (t := 22) (p := 21) (v := ?vo_w13) (w1 := (w11.setCell ⟨go10, (x4_1 : Int).toNat, none⟩ (v106))) ?hg ?ho ?hn ?hr ?_; (case ho => rfl); (case hg => rfl); (case hn => rfl); (case hr => first | (go_simp; done) | (go_simp; rfl) | (obtain ⟨Aq_, cq_, eq_⟩ := Kd.R_slice HO_3.out; subst eq_; first | (go_simp; done) | (go_simp; rfl)) | (obtain ⟨Aq_, cq_, eq_⟩ := Kd.R_slice HO107.out; subst eq_; first | (go_simp; done) | (go_simp; rfl))); intro w13 hw; have hg : w11.grownBy w13 (some go10) := (by rw [hw]; exact HP12.2); have hp_ : Kd.S (Kd.slice 3 (Kd.int .i64)) 22 w13 w.heap.size (fun _ => True) (.slice (some ⟨go10, 0, none⟩) x3_1.length co10) y108 := (by rw [hw, Ny108.out]; exact HP12.1); clear HP12; have n0_ := asd (hp_); have n1_ := asd ((by rw [hw]; exact below_set (HB.out) GB10.out : Below w.heap.size w w13)); clear HO_3; clear HB; clear HO107; have HO_3 := n0_; have HB := n1_; clear n0_ n1_; clear hg hw hp_))
        go_roundg k1
        case measure => have := HK1.out; omega
        case rel => exact ⟨(y108), (wrap64 (x4_1 + 1)), (by first | rfl | (simp; done) | (simp [*]; done)), H', ⟨by have := HK1.out; omega⟩, ⟨by (with_reducible repeat (first | apply Kd.S_alloc | apply Kd.S_drewN | apply Kd.S_drew)); exact HO_3.out⟩, ⟨by repeat (first | (with_reducible first | exact HB.out | apply below_alloc | apply pw_below_drewN | apply below_drew1) | exact HB.out)⟩⟩
       ·
        rw [if_neg c9] at H
        exact absurd H (by simp)
      ·
       rw [if_neg c7] at H
       exact absurd H (by simp)
     ·
      rw [if_neg c6] at H
      have c6b0 : decide (x4_1 < (l0.length : Int)) = false := decide_eq_false c6
      clear c6
      obtain rfl := Option.some.inj H
      go_wp2
      go_ret
      exact ⟨_, by first | rfl | (simp [errW_none, errW_some] <;> rfl) | (simp [*, errW_none, errW_some] <;> rfl), by (with_reducible repeat (first | apply Kd.S_alloc | apply Kd.S_drewN | apply Kd.S_drew)); exact HO_3.out, by repeat (first | (with_reducible first | exact HB.out | apply below_alloc | apply pw_below_drewN | apply below_drew1) | exact HB.out)⟩
  ·
   rw [if_neg c3] at H
   exact absurd H (by simp)
 ·
  rw [if_neg c2] at H
  exact absurd H (by simp)

-- HAND with laws.toIntSS+laws.toIntS
theorem toIntSS_loop (ws : List (List Int)) (hl : ws.length ≤ 1048576) (hw : ∀ w ∈ ws, w.length ≤ 35184372088832) : ∀ (d i : Nat) (x : List (List Int)), ws.length - i = d → i ≤ ws.length → x.length = ws.length → (∀ j, j < i → x[j]? = ws[j]?) → Ev (fun k => laws_toIntSS.l0 k ws x i) ws := by
  intro d
  induction d with
  | zero =>
    intro i x hd hi hx hj
    refine Ev.succ (fun k => by simp only [laws_toIntSS.l0]; rw [if_neg (by omega)]) (Ev.const (congrArg some ?_))
    apply List.ext_getElem?
    intro j
    rcases Nat.lt_or_ge j i with h | h
    · exact hj j h
    · rw [List.getElem?_eq_none (by omega), List.getElem?_eq_none (by omega)]
  | succ d ih =>
    intro i x hd hi hx hj
    have hil : i < ws.length := by omega
    have hrd : rd_L9 ws (i : Int) = ws[i] := by
      show ws.getD ((i : Int)).toNat [] = _
      rw [Int.toNat_natCast]
      simp [List.getD, hil]
    refine Ev.succ (fun k => by simp only [laws_toIntSS.l0]; rw [if_pos (by omega), if_pos (by omega), hrd]) ?_
    refine Ev.bind (toIntS_ok ws[i] (hw _ (List.getElem_mem hil))) ?_
    refine Ev.to (fun k => by rw [if_pos (by omega), wrap_succ (by omega) (by omega), Int.toNat_natCast]) ?_
    refine ih (i + 1) _ (by omega) (by omega) (by simpa using hx) (fun j hji => ?_)
    rw [List.getElem?_set]
    by_cases e : i = j
    · subst e
      simp [hx, hil]
    · rw [if_neg e]
      exact hj j (by omega)
theorem toIntSS_ok (ws : List (List Int)) (hl : ws.length ≤ 1048576) (hw : ∀ w ∈ ws, w.length ≤ 35184372088832) : Ev (fun k => laws_toIntSS.f k ws) ws := by
  refine Ev.to (fun k => by unfold laws_toIntSS.f; rw [if_pos (by omega), if_pos (by omega)]) ?_
  exact toIntSS_loop ws hl hw ws.length 0 _ (by omega) (by omega) (by simp) (fun j h => absurd h (Nat.not_lt_zero _))

-- HAND with impl.items
theorem itemsE {x : Int} (h0 : 0 ≤ x) (h1 : x < 128) : Ev (fun k => impl_items.f k x) (itemsL x) := Ev.of (fun k => impl_items.mono x k) (items_ok x h0 h1)

-- HAND impl_family_outer: function 110
set_option maxHeartbeats 8000000 in
set_option maxRecDepth 100000 in
theorem impl_family_outer.walkC (ad0 : Addr) (F : List Bool) (x : Int) (w : World) (hF : FamC w ad0 F) (h0 : 0 ≤ x) (h1 : x < 128) :
    Calls Try.prog 110 #[.pointer (some ad0), .int .i64 x] w fun e w' => e = .returned (.int .i64 (outerF F x.toNat)) ∧ Drawn0 w w' := by
  obtain ⟨x, rfl⟩ := Int.eq_ofNat_of_zero_le h0
  have HX := Aside0.mk (show x < 128 by omega)
  have HF := Aside0.mk hF
  clear h0 h1 hF
  rw [Int.toNat_natCast]
  go_enter Try.func110, Try.ntmps110
  go_wp2
  go_loopw [5, 7] (fun v5 v7 wr => ∃ (i : Int) (a : Nat), Aside0 (0 ≤ i ∧ i ≤ 7) ∧ v7 = .int .i64 i ∧ Aside0 (a < 128) ∧ v5 = .int .i64 a ∧ Aside0 (outK F x i.toNat = a) ∧ Drawn0 w wr) (fun _ v7 _ => 7 - (intOf v7).toNat)
  case atStart => exact ⟨0, 0, ⟨by decide⟩, rfl, ⟨by decide⟩, rfl, ⟨rfl⟩, Drawn0.refl _⟩
  case round =>
    obtain ⟨i, a, hi, rfl, ha, rfl, hf, ⟨n, rfl⟩⟩ := hrel
    by_cases hlt : i < 7
    · have i0 := hi.out.1
      have HO := Aside0.mk (bits_or a (2 ^ i.toNat) (lt63 ha.out) (lt63 (pow_lt128 i0 hlt)))
      have HOL := Aside0.mk (Nat.or_lt_two_pow (n := 7) ha.out (pow_lt128 i0 hlt))
      have HS := Aside0.mk (show outK F x (i + 1).toNat = if (!x.testBit i.toNat && F.getD (x ||| 2 ^ i.toNat) false) = true then a ||| 2 ^ i.toNat else a by rw [show (i + 1).toNat = i.toNat + 1 by omega, outK_succ, hf.out])
      obtain ⟨z, z0, z1, hz, hz2⟩ := and_one x i i0 (by omega) HX.out
      obtain ⟨r1, r2⟩ := shr_ways hz (by omega)
      clear hz
      by_cases hb : x.testBit i.toNat = true
      · rw [if_pos hb] at hz2
        rw [hb] at HS
        go_wp2
        go_quiet (fail)
        go_wp2
        go_roundw
        case rel => exact ⟨i + 1, a, ⟨by have := hi.out; omega⟩, by first | rfl | go_num, ha, rfl, ⟨by simpa using HS.out⟩, by repeat (first | exact Drawn0.refl _ | apply Drawn0.step)⟩
        case measure => simp [intOf]; omega
      · have hb' : x.testBit i.toNat = false := by simpa using hb
        rw [if_neg hb] at hz2
        rw [hb'] at HS
        clear hb hb'
        have hy := bits_or x (2 ^ i.toNat) (lt63 HX.out) (lt63 (pow_lt128 i0 hlt))
        have hylt : x ||| 2 ^ i.toNat < 128 := Nat.or_lt_two_pow (n := 7) HX.out (pow_lt128 i0 hlt)
        obtain ⟨j, hj⟩ : ∃ j, j = ((2 ^ i.toNat : Nat) : Int) := ⟨_, rfl⟩
        rw [← hj] at hy HO
        obtain ⟨s1, s2, s3, s4, s5, s6, s7, s8⟩ := shl_ways ((shl_nat i0 (by omega)).trans hj.symm) (by omega)
        clear hj
        obtain ⟨y, hY⟩ : ∃ y : Int, y = (x ||| 2 ^ i.toNat : Nat) := ⟨_, rfl⟩
        have y0 : 0 ≤ y := by omega
        have y1 : y < 128 := by omega
        have hYn : x ||| 2 ^ i.toNat = y.toNat := by omega
        rw [← hY] at hy
        rw [hYn] at HS
        clear hY hYn hylt
        have hfc := HF.out.at_ y y0 y1
        obtain ⟨v, hv⟩ : ∃ v, v = F.getD y.toNat false := ⟨_, rfl⟩
        rw [← hv] at hfc HS
        clear hv
        cases v
        all_goals
          go_wp2
          go_quiet (fail)
          go_wp2
        · go_roundw
          case rel => exact ⟨i + 1, a, ⟨by have := hi.out; omega⟩, by first | rfl | go_num, ha, rfl, ⟨by simpa using HS.out⟩, by repeat (first | exact Drawn0.refl _ | apply Drawn0.step)⟩
          case measure => simp [intOf]; omega
        · go_roundw
          case rel => exact ⟨i + 1, a ||| 2 ^ i.toNat, ⟨by have := hi.out; omega⟩, by first | rfl | go_num, HOL, by first | rfl | (rw [← HO.out]), ⟨by simpa using HS.out⟩, by repeat (first | exact Drawn0.refl _ | apply Drawn0.step)⟩
          case measure => simp [intOf]; omega
    · have HW := Aside0.mk (show (a : Int) = outerF F x by rw [← outK_7, ← hf.out, show i.toNat = 7 by have := hi.out; omega])
      clear hf
      go_wp2
      go_ret
      exact ⟨by have := HW.out; first | (rw [this]; done) | (simp; omega) | omega, by repeat (first | exact Drawn0.refl _ | apply Drawn0.step)⟩
theorem impl_family_outer.walk (b : Nat) (F : List Bool) (x : Int) (w : World) (hF : FamAt w b F) (h0 : 0 ≤ x) (h1 : x < 128) :
    Calls Try.prog 110 #[.pointer (some ⟨b, 0, none⟩), .int .i64 x] w fun e w' => e = .returned (.int .i64 (outerF F x.toNat)) ∧ Drawn0 w w' := impl_family_outer.walkC ⟨b, 0, none⟩ F x w hF.c h0 h1
def impl_family_outer.f (l0 : List Bool) (a1 : Int) : Option Int := if l0.length = 128 ∧ 0 ≤ a1 ∧ a1 < 128 then some (outerF l0 a1.toNat) else none
theorem impl_family_outer.calls (A0 : Option Addr) (c0 : Nat) (l0 : List Bool) (a1 : Int) (r : Int) (w : World) (hr0 : Kd.C Kd.bool w A0 l0.length l0) (hc0 : l0.length ≤ c0) (h : impl_family_outer.f l0 a1 = some r) :
    Calls Try.prog 110 #[.pointer A0, .int .i64 a1] w fun e w' => e = .returned (.int .i64 r) ∧ Drawn0 w w' := by
  unfold impl_family_outer.f at h
  split at h
  · rename_i hl
    have e := Option.some.inj h
    subst e
    obtain ⟨ad, rfl, HF⟩ := FamC.of_reads hr0 hl.1
    exact impl_family_outer.walkC ad l0 a1 w HF hl.2.1 hl.2.2
  · cases h

-- HAND with (*impl.family).outer
theorem outer_f (F : List Bool) (hF : F.length = 128) (x : Int) (h0 : 0 ≤ x) (h1 : x < 128) : impl_family_outer.f F x = some (outerF F x.toNat : Int) := by
  unfold impl_family_outer.f
  rw [if_pos ⟨hF, h0, h1⟩]

-- HAND impl_Space_ways_1: function 108
open Go.Maps in
theorem int_law : Keyed Try.prog 3 := int_keyed Try.underlying3
theorem zeroE_int (w : World) : (zeroValue 3).run Try.prog w = .ok (.int .i64 0) w := by kernel_rfl
/-- The sum over some items of what is told of the sets with each more; how many stores it takes. -/
def sumF (rec_ : Int → Option (Int × Nat)) (set : Int) : List Int → Int → Nat → Option (Int × Nat)
 | [], n, c => some (n, c)
 | i :: I, n, c => if 0 ≤ i then (rec_ (Go.bits .or .i64 set (shl .i64 1 i))).bind fun r => sumF rec_ set I (wrap64 (n + r.1)) (c + r.2) else none
/-- How many words lead from a set to all items. -/
def waysF (all : Int) (F : List Bool) : Nat → Int → Option (Int × Nat)
 | 0, _ => none
 | k + 1, set => if set = all then some (1, 0) else (impl_family_outer.f F set).bind fun m => (impl_items.f k m).bind fun I => (sumF (fun s => waysF all F k s) set I 0 0).bind fun r => some (r.1, r.2 + 1)
theorem sumF_mono {r1 r2 : Int → Option (Int × Nat)} (h : ∀ s, LeO (r1 s) (r2 s)) (set : Int) : ∀ (I : List Int) (n : Int) (c : Nat), LeO (sumF r1 set I n c) (sumF r2 set I n c)
 | [], _, _ => LeO.refl _
 | i :: I, n, c => by
  unfold sumF
  exact LeO.ite (LeO.bind (h _) fun r => sumF_mono h set I _ _) (LeO.refl _)
theorem waysF_mono (all : Int) (F : List Bool) : ∀ (k : Nat) (set : Int), LeO (waysF all F k set) (waysF all F (k + 1) set)
 | 0, _ => LeO.none _
 | k + 1, set => by
  show LeO (if set = all then some (1, 0) else (impl_family_outer.f F set).bind fun m => (impl_items.f k m).bind fun I => (sumF (fun s => waysF all F k s) set I 0 0).bind fun r => some (r.1, r.2 + 1)) (if set = all then some (1, 0) else (impl_family_outer.f F set).bind fun m => (impl_items.f (k + 1) m).bind fun I => (sumF (fun s => waysF all F (k + 1) s) set I 0 0).bind fun r => some (r.1, r.2 + 1))
  exact LeO.ite (LeO.refl _) (LeO.bind (LeO.refl _) fun m => LeO.bind (impl_items.mono _ k) fun I => LeO.bind (sumF_mono (waysF_mono all F k) _ _ _ _) fun r => LeO.refl _)
theorem waysF_det {all : Int} {F : List Bool} {k k' : Nat} {set : Int} {a b : Int × Nat} (h : waysF all F k set = some a) (h' : waysF all F k' set = some b) : a = b := by
 have h1 := at_rounds (fun k => waysF_mono all F k set) (Nat.le_max_left k k') h
 have h2 := at_rounds (fun k => waysF_mono all F k set) (Nat.le_max_right k k') h'
 rw [h1] at h2
 exact Option.some.inj h2
/-- All keys are sets. -/
def RangeOk (D : DataW Unit) : Prop := ∃ es, D = .map es ∧ ∀ p ∈ es, ∃ x : Int, p.1 = .int .i64 x ∧ 0 ≤ x ∧ x < 128
/-- What is kept is right. -/
def MemoOk (all : Int) (F : List Bool) (D : DataW Unit) : Prop := RangeOk D ∧ ∀ x : Int, Go.Maps.has D (.int .i64 x) = true → ∃ (k : Nat) (v : Int) (c : Nat), waysF all F k x = some (v, c) ∧ D.atKey (.int .i64 x) (.lit (.int .i64 0)) = .lit (.int .i64 v)
def litN : Lit → Nat
 | .int _ a => a.toNat
 | _ => 0
theorem nodup_len {α : Type} [DecidableEq α] : ∀ (l m : List α), l.Nodup → (∀ x ∈ l, x ∈ m) → l.length ≤ m.length
 | [], m, _, _ => Nat.zero_le _
 | x :: l, m, hn, hs => by
  have hx := hs x List.mem_cons_self
  have h1 := nodup_len l (m.erase x) (List.nodup_cons.1 hn).2 (fun y hy => by
   have hne : y ≠ x := fun e => (List.nodup_cons.1 hn).1 (e ▸ hy)
   exact (List.mem_erase_of_ne hne).2 (hs y (List.mem_cons_of_mem _ hy)))
  rw [List.length_erase_of_mem hx] at h1
  have := List.length_pos_of_mem hx
  rw [List.length_cons]
  omega
theorem foldr_insert_len {H : Type} : ∀ (l : List (Lit × DataW H)), (l.foldr DataW.insert []).length = l.length
 | [] => rfl
 | p :: l => by
  have h1 := foldr_insert_len l
  show (DataW.insert p (l.foldr DataW.insert [])).length = l.length + 1
  rw [(Go.WideShapes.insert_perm p _).length_eq, List.length_cons, h1]
theorem own_tight {w : World} {b m : Nat} {D : DataW Unit} (h : w.ownsMap Try.prog 3 (plainElem Try.prog 3) b m D) (hr : RangeOk D) : w.ownsMap Try.prog 3 (plainElem Try.prog 3) b 128 D := by
 obtain ⟨ex, e1, hx⟩ := hr
 obtain ⟨et, e2, hp⟩ := World.ownsMap.tidy h int_law
 obtain ⟨es, clock, hb, F, hs, hD⟩ := h
 refine ⟨es, clock, hb, F, ?_, hD⟩
 have e3 : ex = et := by rw [e1] at e2; injection e2
 have e4 : ex = (es.toList.map (Go.WideElems.rg Try.prog 3 (plainElem Try.prog 3))).foldr DataW.insert [] := by rw [e1] at hD; injection hD
 have h1 : ex.length = es.size := by rw [e4, foldr_insert_len, List.length_map, Array.length_toList]
 rw [← h1]
 have h2 : (ex.map fun p => litN p.1).length ≤ (List.range 128).length := by
  refine nodup_len _ _ ?_ ?_
  ·
   rw [List.Nodup, List.pairwise_map]
   refine List.Pairwise.imp_of_mem ?_ (e3 ▸ hp)
   intro p q hpm hqm hne e
   obtain ⟨x, x1, x2, x3⟩ := hx p hpm
   obtain ⟨y, y1, y2, y3⟩ := hx q hqm
   rw [x1, y1] at hne e
   have e : x.toNat = y.toNat := e
   exact hne (by rw [show x = y by omega])
  ·
   intro z hz
   obtain ⟨p, hpm, rfl⟩ := List.mem_map.1 hz
   obtain ⟨x, x1, x2, x3⟩ := hx p hpm
   rw [x1]
   exact List.mem_range.2 (by show x.toNat < 128; omega)
 rw [List.length_map, List.length_range] at h2
 exact h2
theorem RangeOk.put {D : DataW Unit} (h : RangeOk D) {x : Int} (h0 : 0 ≤ x) (h1 : x < 128) (d : DataW Unit) : RangeOk (D.put (.int .i64 x) d) := by
 obtain ⟨es, rfl, hx⟩ := h
 refine ⟨DataW.insert (.int .i64 x, d) (es.filter fun p => !p.1.sameKey (.int .i64 x)), rfl, fun p hp => ?_⟩
 rcases List.mem_cons.1 ((Go.WideShapes.insert_perm _ _).mem_iff.1 hp) with rfl | hp
 ·
  exact ⟨x, rfl, h0, h1⟩
 ·
  exact hx p (List.mem_filter.1 hp).1
theorem RangeOk.isMap {D : DataW Unit} (h : RangeOk D) : Go.Maps.IsMap D := by
 obtain ⟨es, rfl, _⟩ := h
 exact ⟨es, rfl⟩
theorem sumF_wf {rec_ : Int → Option (Int × Nat)} {set : Int} : ∀ (I : List Int) (n : Int) (c : Nat) (r : Int × Nat), (Lit.int .i64 n).wf = true → sumF rec_ set I n c = some r → (Lit.int .i64 r.1).wf = true
 | [], n, c, r, hn, h => by
  obtain rfl := Option.some.inj h
  exact hn
 | i :: I, n, c, r, hn, h => by
  unfold sumF at h
  split at h
  ·
   obtain ⟨a, _, h2⟩ := Option.bind_eq_some_iff.1 h
   exact sumF_wf I _ _ _ (WalkArith.wf_i64 (by unfold wrap64; omega)) h2
  ·
   cases h
structure WayS (wb w : World) (gs gm gf gn bm bf : Nat) (n : Int) (A : Option Addr) (c : Nat) (l : List Int) (F : List Bool) (all : Int) (D : DataW Unit) : Prop where
 bel : Below wb.heap.size wb w
 b1 : w.heap[gs]? = some (.cells #[.int .i64 n, .slice A l.length c] 28 (0, 0))
 b2 : w.heap[gm]? = some (.cells #[.map (some bm)] 112 (0, 0))
 b3 : w.heap[gf]? = some (.cells #[.pointer (some ⟨bf, 0, none⟩)] 105 (0, 0))
 b4 : w.heap[gn]? = some (.cells #[.func (.func 108) #[] #[.pointer (some ⟨gs, 0, none⟩), .pointer (some ⟨gm, 0, none⟩), .pointer (some ⟨gf, 0, none⟩), .pointer (some ⟨gn, 0, none⟩)]] 73 (0, 0))
 fam : FamAt w bf F
 map : w.ownsMap Try.prog 3 (plainElem Try.prog 3) bm 128 D
 memo : MemoOk all F D
 wm : wb.heap.size ≤ bm
section
variable {wb w w' : World} {gs gm gf gn bm bf : Nat} {n : Int} {A : Option Addr} {c : Nat} {l : List Int} {F : List Bool} {all : Int} {D : DataW Unit}
theorem cells_ne_map {W : World} {g b : Nat} {cs : Array Value} {t : TypeId} {P : Program} {k : TypeId} {R : Value → Option (DataW Unit × List MemPlace)} {m : Nat} {D : DataW Unit} (h : W.heap[g]? = some (.cells cs t (0, 0))) (hm : W.ownsMap P k R b m D) : some g ≠ some b := by
 rintro e
 obtain rfl := Option.some.inj e
 obtain ⟨es, clock, hb, _⟩ := hm
 rw [h] at hb
 cases hb
theorem WayS.below (h : WayS wb w gs gm gf gn bm bf n A c l F all D) (hb : Below w.heap.size w w') : WayS wb w' gs gm gf gn bm bf n A c l F all D :=
 ⟨below_step h.bel hb, blk_below h.b1 hb, blk_below h.b2 hb, blk_below h.b3 hb, blk_below h.b4 hb, h.fam.below hb, h.map.kept (grown_of_below hb none) (by simp), h.memo, h.wm⟩
theorem WayS.drewN (h : WayS wb w gs gm gf gn bm bf n A c l F all D) (j : Nat) : WayS wb (w.drewN j) gs gm gf gn bm bf n A c l F all D := h.below (pw_below_drewN (Below.refl _ _) j)
theorem WayS.put (h : WayS wb w gs gm gf gn bm bf n A c l F all D) {x v : Int} {k j : Nat} (hv : waysF all F k x = some (v, j)) (h0 : 0 ≤ x) (h1 : x < 128) (hm : w'.ownsMap Try.prog 3 (plainElem Try.prog 3) bm 129 (D.put (.int .i64 x) (.lit (.int .i64 v)))) (hg : w.grownBy w' (some bm)) : WayS wb w' gs gm gf gn bm bf n A c l F all (D.put (.int .i64 x) (.lit (.int .i64 v))) := by
 refine ⟨pw_below_grown h.bel (some bm) h.bel.size hg (fun k hk => by cases hk; exact h.wm), blk_grown h.b1 hg (cells_ne_map h.b1 h.map), blk_grown h.b2 hg (cells_ne_map h.b2 h.map), blk_grown h.b3 hg (cells_ne_map h.b3 h.map), blk_grown h.b4 hg (cells_ne_map h.b4 h.map), ⟨h.fam.len, blk_grown h.fam.blk hg (cells_ne_map h.fam.blk h.map)⟩, own_tight hm (h.memo.1.put h0 h1 _), ⟨h.memo.1.put h0 h1 _, fun y hy => ?_⟩, h.wm⟩
 by_cases e : y = x
 ·
  subst e
  exact ⟨k, v, j, hv, Go.Maps.atKey_put_same h.memo.1.isMap (show WideAt.IsKeyLit (.int .i64 y) from by simp [WideAt.IsKeyLit]) _ _⟩
 ·
  have hne : (Lit.int .i64 y) ≠ (Lit.int .i64 x) := fun h2 => e (by injection h2)
  rw [Go.Maps.has_put_other hne] at hy
  rw [Go.Maps.atKey_put_other hne]
  exact h.memo.2 y hy
end
/-- What may have changed between two worlds: the map, which is still right. -/
def WayOk (wb w w' : World) (gs gm gf gn bm bf : Nat) (n : Int) (A : Option Addr) (c : Nat) (l : List Int) (F : List Bool) (all : Int) : Prop := ∃ D, WayS wb w' gs gm gf gn bm bf n A c l F all D ∧ Kept w w' (fun k => k = bm)
theorem WayOk.trans {wb w w' w'' : World} {gs gm gf gn bm bf : Nat} {n : Int} {A : Option Addr} {c : Nat} {l : List Int} {F : List Bool} {all : Int} (h : WayOk wb w w' gs gm gf gn bm bf n A c l F all) (h2 : WayOk wb w' w'' gs gm gf gn bm bf n A c l F all) : WayOk wb w w'' gs gm gf gn bm bf n A c l F all := by
 obtain ⟨_, _, k1⟩ := h
 obtain ⟨D, s2, k2⟩ := h2
 exact ⟨D, s2, k1.then_ k2 (fun _ hk => .inl hk)⟩
theorem WayOk.cell {wb w w' : World} {gs gm gf gn bm bf : Nat} {n : Int} {A : Option Addr} {c : Nat} {l : List Int} {F : List Bool} {all : Int} (h : WayOk wb w w' gs gm gf gn bm bf n A c l F all) : w'.cell? ⟨gn, 0, none⟩ = some (.func (.func 108) #[] #[.pointer (some ⟨gs, 0, none⟩), .pointer (some ⟨gm, 0, none⟩), .pointer (some ⟨gf, 0, none⟩), .pointer (some ⟨gn, 0, none⟩)]) := by
 obtain ⟨D, s2, _⟩ := h
 exact (blk_cell s2.b4 0).trans rfl
set_option maxHeartbeats 4000000 in
set_option maxRecDepth 100000 in
theorem impl_Space_ways_1.calls (gs gm gf gn bm bf : Nat) (n : Int) (A : Option Addr) (c : Nat) (l : List Int) (F : List Bool) (all : Int) (wb : World) (hl : Kd.C (Kd.int .i64) wb A l.length l) (hc : l.length ≤ c) (hall : impl_Space_all.f n l = some all) :
  ∀ (k : Nat) (set : Int) (r : Int × Nat) (D : DataW Unit) (w : World) (hS : WayS wb w gs gm gf gn bm bf n A c l F all D) (h : waysF all F k set = some r),
  Calls Try.prog 108 #[.int .i64 set, .pointer (some ⟨gs, 0, none⟩), .pointer (some ⟨gm, 0, none⟩), .pointer (some ⟨gf, 0, none⟩), .pointer (some ⟨gn, 0, none⟩)] w fun e w' => e = .returned (.int .i64 r.1) ∧ WayOk wb w w' gs gm gf gn bm bf n A c l F all := by
 have hu := Try.underlying28
 have HL := asd hl
 have HC := asd hc
 have HAL := asd hall
 clear hl hc hall
 intro k
 induction k with
 | zero =>
  intro set r D w hS h
  cases h
 | succ k ih =>
  intro set r D w hS h
  have IH := asd ih
  have HS := asd hS
  have HW := asd h
  have q1 : w.cell? ⟨gs, 0, none⟩ = some (.int .i64 n) := (blk_cell hS.b1 0).trans rfl
  have q2 : w.cell? ⟨gs, 1, none⟩ = some (.slice A l.length c) := (blk_cell hS.b1 1).trans rfl
  clear ih hS
  unfold waysF at h
  by_cases c1 : set = all
  ·
   rw [if_pos c1] at h
   obtain rfl := Option.some.inj h
   have c1b : (set == all) = true := beq_iff_eq.mpr c1
   clear h c1
   go_enter Try.func108, Try.ntmps108
   go_wp2_with (go_at_call 103; (with_reducible refine (impl_Space_all.calls n _ _ l all _ ?sa ?sb HAL.out).mono ?_); (case sa => exact Kd.C_below HL.out HS.out.bel); (case sb => exact HC.out); rintro e W3 ⟨rfl, hb3⟩; have HB3 := asd hb3; clear q1 q2 hb3)
   go_ret
   exact ⟨rfl, D, HS.out.below HB3.out, Kept.of_below HB3.out _⟩
  ·
   rw [if_neg c1] at h
   obtain ⟨o, ho, h⟩ := Option.bind_eq_some_iff.1 h
   obtain ⟨L, hL, h⟩ := Option.bind_eq_some_iff.1 h
   obtain ⟨⟨v, cc⟩, hv, h⟩ := Option.bind_eq_some_iff.1 h
   obtain rfl := Option.some.inj h
   have c1b : (set == all) = false := beq_eq_false_iff_ne.mpr c1
   have hrange : 0 ≤ set ∧ set < 128 := by
    unfold impl_family_outer.f at ho
    split at ho
    ·
     rename_i hh
     exact hh.2
    ·
     cases ho
   have HWF : Aside0 ((Lit.int .i64 set).wf = true) := ⟨WalkArith.wf_i64 (by omega)⟩
   have HO := asd ho
   have HI := asd hL
   have HV := asd hv
   have HRG := asd hrange
   clear h c1 ho hL hv hrange
   cases hh : Go.Maps.has D (.int .i64 set) with
   | true =>
    obtain ⟨k2, v2, c2, e1, e2⟩ := HS.out.memo.2 set hh
    have e3 := waysF_det HW.out e1
    have HH := asd hh
    have HAT := asd e2
    have HV2 : Aside0 (v = v2) := ⟨congrArg Prod.fst e3⟩
    clear hh e1 e2 e3
    go_enter Try.func108, Try.ntmps108
    go_wp2_with (first | (go_at_call 103; (with_reducible refine (impl_Space_all.calls n _ _ l all _ ?sa ?sb HAL.out).mono ?_); (case sa => exact Kd.C_below HL.out HS.out.bel); (case sb => exact HC.out); rintro e W3 ⟨rfl, hb3⟩; have HS3 := asd (HS.out.below hb3); have HB3 := asd hb3; have q3 : W3.cell? ⟨gm, 0, none⟩ = some (.map (some bm)) := (blk_cell HS3.out.b2 0).trans rfl; clear q1 q2 hb3) | (at_lookup; go_loud (refine wpList_lookup_own_ok_int _ rfl _ _ 112 rfl 3 3 .i64 int_law Try.underlying112 Try.underlying3 (zeroE_int _) bm 128 D rfl HS3.out.map _ _ rfl (Go.Maps.keyOf_int_mk Try.underlying3 HWF.out) ?_; intro cv hat hwc; rw [HH.out]; have HC2 : Aside0 (cv = v) := ⟨by have h1 := HAT.out.symm.trans hat; rw [HV2.out]; injection h1 with h1; injection h1 with h1 h2; exact h2.symm⟩; clear hat hwc)))
    go_ret
    exact ⟨by rw [HC2.out]; rfl, D, HS3.out, Kept.of_below HB3.out _⟩
   | false =>
    have HH := asd hh
    clear hh
    go_enter Try.func108, Try.ntmps108
    go_wp2_with (first | (go_at_call 103; (with_reducible refine (impl_Space_all.calls n _ _ l all _ ?sa ?sb HAL.out).mono ?_); (case sa => exact Kd.C_below HL.out HS.out.bel); (case sb => exact HC.out); rintro e W3 ⟨rfl, hb3⟩; have HS3 := asd (HS.out.below hb3); have HB3 := asd hb3; have q3 : W3.cell? ⟨gm, 0, none⟩ = some (.map (some bm)) := (blk_cell HS3.out.b2 0).trans rfl; have q4 : W3.cell? ⟨gf, 0, none⟩ = some (.pointer (some ⟨bf, 0, none⟩)) := (blk_cell HS3.out.b3 0).trans rfl; clear q1 q2 hb3) | (at_lookup; refine wpList_lookup_own_ok_int _ rfl _ _ 112 rfl 3 3 .i64 int_law Try.underlying112 Try.underlying3 (zeroE_int _) bm 128 D rfl HS3.out.map _ _ rfl (Go.Maps.keyOf_int_mk Try.underlying3 HWF.out) ?_; intro cv hat hwc; rw [HH.out]; clear hat hwc) | (go_at_call 110; (with_reducible refine (impl_family_outer.calls (some ⟨bf, 0, none⟩) 128 F set o _ ?sc ?sd HO.out).mono ?_); (case sc => exact (Kd.R_reads' (HS3.out.fam.own (Nat.zero_le _))).2.2); (case sd => exact (Kd.R_reads' (HS3.out.fam.own (Nat.zero_le _))).2.1); rintro e W4 ⟨rfl, ⟨nd, rfl⟩⟩; have HS4 := asd (HS3.out.drewN nd); have HB4 : Aside0 (Below w.heap.size w (World.drewN W3 nd)) := ⟨pw_below_drewN HB3.out nd⟩; generalize World.drewN W3 nd = W4 at *; clear q3 q4) | (go_at_call 109; (with_reducible refine (impl_items.calls k o L _ HI.out).mono ?_); rintro e W5 ⟨vI, rfl, hR, hb5⟩; have HS5 := asd (HS4.out.below hb5); have HB5 := asd (below_step HB4.out hb5); obtain ⟨AI, cI, rfl⟩ := Kd.R_slice hR; have HIT := asd (Kd.R_tight rfl hR); have HIB := asd (Kd.R_base hR); have HLT := asd HS4.out.map.lt; clear hR hb5))
    have HNI : Aside0 (∀ k, some k = (Value.slice AI L.length cI).ownBlock → ¬ k = bm) := ⟨fun k hk hh => by
     have h1 := HIB.out k hk.symm
     have := HLT.out
     omega⟩
    clear HS3 HB3 HS4 HB4 HIB HLT
    go_loopg [9, 29] L.length (fun kq v9 v29 wr => ∃ (j : Nat) (n1 : Int) (c1 : Nat) (D1 : DataW Unit), v9 = .int .i64 n1 ∧ v29 = .int .i64 j ∧ Aside0 (j ≤ L.length ∧ L.length - j ≤ kq) ∧ Aside0 (sumF (fun s => waysF all F k s) set (L.drop j) n1 c1 = some (v, cc)) ∧ Aside0 (WayS wb wr gs gm gf gn bm bf n A c l F all D1) ∧ Aside0 (Kept W5 wr (fun k => k = bm)))
    case atStart => exact ⟨0, 0, 0, D, rfl, rfl, ⟨Nat.zero_le _, Nat.le_refl _⟩, ⟨HV.out⟩, HS5, ⟨Kept.refl _ _⟩⟩
    case round =>
     clear HS5 HS
     obtain ⟨j, n1, c1, D1, rfl, rfl, hj, HA, HS, HK⟩ := hrel
     obtain ⟨hjl, hgg⟩ := hj.out
     clear hj
     have HIR := asd (Kd.R_reads' (Kd.R_step HIT.out (fun k hk hlt => HK.out.2 k hlt (HNI.out k hk)))).2.2
     have hmx := Kd.C_max HIR.out
     by_cases hlt : j < L.length
     ·
      have hltz : (j : Int) < (L.length : Int) := by omega
      have H := HA.out
      clear HA
      rw [List.drop_eq_getElem_cons hlt, ← rd_get hlt] at H
      obtain ⟨ad, e, hcx⟩ := Kd.at_int HIR.out (j : Int) (by omega) hltz
      cases e
      rw [Int.toNat_natCast] at hcx
      generalize rd L (j : Int) = x at *
      unfold sumF at H
      by_cases hx : 0 ≤ x
      ·
       rw [if_pos hx] at H
       obtain ⟨⟨rv, rc⟩, hrec, H⟩ := Option.bind_eq_some_iff.1 H
       have HH2 := asd H
       have hx0b : decide (0 ≤ x) = true := decide_eq_true hx
       obtain ⟨sx, hsx⟩ : ∃ y, y = shl .i64 1 x := ⟨_, rfl⟩
       have sA : IntKind.i64.wrap (1 * 2 ^ min x.toNat 64) = sx := hsx.symm
       have sB : IntKind.i64.wrap (2 ^ min x.toNat 64) = sx := by rw [← sA, Int.one_mul]
       have sC : wrap64 (1 * 2 ^ min x.toNat 64) = sx := (i64_w _).symm.trans sA
       have sD : wrap64 (2 ^ min x.toNat 64) = sx := (i64_w _).symm.trans sB
       have HREC : Aside0 (waysF all F k (Go.bits .or .i64 set sx) = some (rv, rc)) := ⟨by rw [hsx]; exact hrec⟩
       clear hsx H hrec
       have q6 : wr.cell? ⟨gn, 0, none⟩ = some (.func (.func 108) #[] #[.pointer (some ⟨gs, 0, none⟩), .pointer (some ⟨gm, 0, none⟩), .pointer (some ⟨gf, 0, none⟩), .pointer (some ⟨gn, 0, none⟩)]) := (blk_cell HS.out.b4 0).trans rfl
       have HK0 : Aside0 (∀ w', Below wr.heap.size wr w' → Aside0 (WayOk wb wr w' gs gm gf gn bm bf n A c l F all) ∧ w'.cell? ⟨gn, 0, none⟩ = some (.func (.func 108) #[] #[.pointer (some ⟨gs, 0, none⟩), .pointer (some ⟨gm, 0, none⟩), .pointer (some ⟨gf, 0, none⟩), .pointer (some ⟨gn, 0, none⟩)])) := ⟨fun w' hb => ⟨⟨⟨D1, HS.out.below hb, Kept.of_below hb _⟩⟩, (blk_cell (HS.out.below hb).b4 0).trans rfl⟩⟩
       have HK1 : Aside0 (∀ w' w'', WayOk wb wr w' gs gm gf gn bm bf n A c l F all → WayOk wb w' w'' gs gm gf gn bm bf n A c l F all → Aside0 (WayOk wb wr w'' gs gm gf gn bm bf n A c l F all) ∧ w''.cell? ⟨gn, 0, none⟩ = some (.func (.func 108) #[] #[.pointer (some ⟨gs, 0, none⟩), .pointer (some ⟨gm, 0, none⟩), .pointer (some ⟨gf, 0, none⟩), .pointer (some ⟨gn, 0, none⟩)])) := ⟨fun w' w'' h1 h2 => ⟨⟨h1.trans h2⟩, h2.cell⟩⟩
       go_wp2
       go_region_held3 (fun w' => Aside0 (WayOk wb wr w' gs gm gf gn bm bf n A c l F all) ∧ w'.cell? ⟨gn, 0, none⟩ = some (.func (.func 108) #[] #[.pointer (some ⟨gs, 0, none⟩), .pointer (some ⟨gm, 0, none⟩), .pointer (some ⟨gf, 0, none⟩), .pointer (some ⟨gn, 0, none⟩)])) (first | exact HK0.out _ (below_drew1 (Below.refl _ _)) | exact HK1.out _ _ (‹Aside0 (WayOk wb wr _ gs gm gf gn bm bf n A c l F all) ∧ _›).1.out (by assumption)) (first | (go_at_call 108; obtain ⟨Dq, hSq, hKq⟩ := (‹Aside0 (WayOk wb wr _ gs gm gf gn bm bf n A c l F all) ∧ _›).1.out; (refine (IH.out (Go.bits .or .i64 set sx) (rv, rc) Dq _ hSq HREC.out).mono ?_); rintro e W3 ⟨rfl, hb3⟩))
       have HB3 := (‹Aside0 (WayOk wb wr _ gs gm gf gn bm bf n A c l F all) ∧ _›).1
       go_wp2
       go_roundg (L.length - (j + 1))
       case measure => omega
       case rel =>
        obtain ⟨D2, hS2, hK2⟩ := HB3.out
        exact ⟨j + 1, wrap64 (n1 + rv), c1 + rc, D2, congrArg (Value.int .i64) (i64_w _), by go_num, ⟨by omega, Nat.le_refl _⟩, ⟨HH2.out⟩, ⟨hS2⟩, ⟨HK.out.then_ hK2 (fun _ hk => .inl hk)⟩⟩
      ·
       rw [if_neg hx] at H
       cases H
     ·
      obtain rfl : j = L.length := by omega
      have hltz : ¬ (L.length : Int) < (L.length : Int) := by omega
      have H := HA.out
      clear HA
      rw [List.drop_of_length_le (Nat.le_refl _)] at H
      unfold sumF at H
      obtain ⟨rfl, rfl⟩ : n1 = v ∧ c1 = cc := by simpa using H
      clear H
      have HWV : Aside0 ((Lit.int .i64 n1).wf = true) := ⟨sumF_wf _ _ _ _ (WalkArith.wf_i64 (by omega)) HV.out⟩
      have q7 : wr.cell? ⟨gm, 0, none⟩ = some (.map (some bm)) := (blk_cell HS.out.b2 0).trans rfl
      go_wp2_with (at_mapUpdate; refine wpList_mapUpdate_own _ rfl _ _ _ 112 rfl 3 3 int_law Try.underlying112 _ bm 128 _ rfl HS.out.map (by unfold maxLen; omega) _ _ _ rfl rfl (Go.Maps.keyOf_int_mk Try.underlying3 HWF.out) _ [] (plainElem_int Try.underlying3 HWV.out) ?_; intro w9 hown9 hg9; have HOWN := asd hown9; have HG := asd hg9; clear hown9 hg9)
      go_ret
      exact ⟨rfl, D1.put (.int .i64 set) (.lit (.int .i64 n1)), HS.out.put HW.out HRG.out.1 HRG.out.2 HOWN.out HG.out, Kept.of_grown HG.out ((Kept.of_below HB5.out (fun k => k = bm)).then_ HK.out (fun _ hk => .inl hk)) (fun k hk => .inl (by cases hk; rfl))⟩

-- HAND impl_Space_ways: function 62
def impl_Space_ways.f (k : Nat) (a0_0 : Int) (l0_1 : List Int) (a1 : Int) : Option Int := (impl_Space_all.f a0_0 l0_1).bind fun all => (impl_Space_family.f a0_0 l0_1).bind fun F => (waysF all F k a1).bind fun r => some r.1
theorem impl_Space_ways.mono (y0 : Int) (y1 : List Int) (y2 : Int) (k : Nat) : LeO (impl_Space_ways.f k y0 y1 y2) (impl_Space_ways.f (k + 1) y0 y1 y2) :=
  LeO.bind (LeO.refl _) fun all => LeO.bind (LeO.refl _) fun F => LeO.bind (waysF_mono _ _ k _) fun r => LeO.refl _
theorem four_objs (W : World) (o1 o2 o3 o4 : Obj) : ((((W.alloc o1).alloc o2).alloc o3).alloc o4).heap[W.heap.size]? = some o1 ∧ ((((W.alloc o1).alloc o2).alloc o3).alloc o4).heap[W.heap.size + 1]? = some o2 ∧ ((((W.alloc o1).alloc o2).alloc o3).alloc o4).heap[W.heap.size + 1 + 1]? = some o3 ∧ ((((W.alloc o1).alloc o2).alloc o3).alloc o4).heap[W.heap.size + 1 + 1 + 1]? = some o4 ∧ Below W.heap.size W ((((W.alloc o1).alloc o2).alloc o3).alloc o4) := by
  have h1 := blk_new W o1
  have h2 := blk_new (W.alloc o1) o2
  have h3 := blk_new ((W.alloc o1).alloc o2) o3
  have h4 := blk_new (((W.alloc o1).alloc o2).alloc o3) o4
  rw [World.size_alloc] at h2
  rw [World.size_alloc, World.size_alloc] at h3
  rw [World.size_alloc, World.size_alloc, World.size_alloc] at h4
  exact ⟨blk_alloc (blk_alloc (blk_alloc h1 _) _) _, blk_alloc (blk_alloc h2 _) _, blk_alloc h3 _, h4, below_alloc (below_alloc (below_alloc (below_alloc (Below.refl _ _) _) _) _) _⟩
theorem fam_of {n : Int} {l : List Int} {F : List Bool} (h : impl_Space_family.f n l = some F) : (∀ x ∈ l, 0 ≤ x ∧ x < 128) ∧ F = famOf l := by
  unfold impl_Space_family.f at h
  split at h
  · rename_i hh
    refine ⟨fun x hx => ?_, (Option.some.inj h).symm⟩
    have h2 := List.all_eq_true.1 hh x hx
    rw [Bool.and_eq_true, decide_eq_true_eq, decide_eq_true_eq] at h2
    exact h2
  · cases h
theorem ways_start {n : Int} {A : Option Addr} {c : Nat} {l : List Int} {F : List Bool} {all : Int} {w W3 : World} {gs bf : Nat} (hb3 : Below w.heap.size w W3) (b1 : W3.heap[gs]? = some (.cells #[.int .i64 n, .slice A l.length c] 28 (0, 0))) (hF : FamAt W3 bf F) :
    WayS w ((((W3.alloc (.map #[] 0)).alloc (.cells #[.pointer (some ⟨bf, 0, none⟩)] 105)).alloc (.cells #[.map (some W3.heap.size)] 112)).alloc (.cells #[.func (.func 108) #[] #[.pointer (some ⟨gs, 0, none⟩), .pointer (some ⟨W3.heap.size + 1 + 1, 0, none⟩), .pointer (some ⟨W3.heap.size + 1, 0, none⟩), .pointer (some ⟨W3.heap.size + 1 + 1 + 1, 0, none⟩)]] 73)) gs (W3.heap.size + 1 + 1) (W3.heap.size + 1) (W3.heap.size + 1 + 1 + 1) W3.heap.size bf n A c l F all (.map []) ∧ Below W3.heap.size W3 ((((W3.alloc (.map #[] 0)).alloc (.cells #[.pointer (some ⟨bf, 0, none⟩)] 105)).alloc (.cells #[.map (some W3.heap.size)] 112)).alloc (.cells #[.func (.func 108) #[] #[.pointer (some ⟨gs, 0, none⟩), .pointer (some ⟨W3.heap.size + 1 + 1, 0, none⟩), .pointer (some ⟨W3.heap.size + 1, 0, none⟩), .pointer (some ⟨W3.heap.size + 1 + 1 + 1, 0, none⟩)]] 73)) := by
  obtain ⟨n1, n2, n3, n4, hX⟩ := four_objs W3 (.map #[] 0) (.cells #[.pointer (some ⟨bf, 0, none⟩)] 105) (.cells #[.map (some W3.heap.size)] 112) (.cells #[.func (.func 108) #[] #[.pointer (some ⟨gs, 0, none⟩), .pointer (some ⟨W3.heap.size + 1 + 1, 0, none⟩), .pointer (some ⟨W3.heap.size + 1, 0, none⟩), .pointer (some ⟨W3.heap.size + 1 + 1 + 1, 0, none⟩)]] 73)
  refine ⟨⟨below_step hb3 hX, blk_below b1 hX, n3, n2, n4, hF.below hX, ?_, ⟨⟨[], rfl, fun p hp => by cases hp⟩, fun x hx => by cases hx⟩, hb3.size⟩, hX⟩
  exact ((((World.ownsMap_made W3 Try.prog 3 (plainElem Try.prog 3)).mono (Nat.zero_le 128)).alloc _).alloc _).alloc _
set_option maxHeartbeats 4000000 in
set_option maxRecDepth 100000 in
theorem impl_Space_ways.calls (k : Nat) (a0_0 : Int) (A0_1 : Option Addr) (c0_1 : Nat) (l0_1 : List Int) (a1 : Int) (r : Int) (w : World) (hr0_1 : Kd.C (Kd.int .i64) w A0_1 l0_1.length l0_1) (hc0_1 : l0_1.length ≤ c0_1) (h : impl_Space_ways.f k a0_0 l0_1 a1 = some r) :
    Calls Try.prog 62 #[.agg #[.int .i64 a0_0, .slice A0_1 l0_1.length c0_1], .int .i64 a1] w fun e w' => e = .returned (.int .i64 r) ∧ Below w.heap.size w w' := by
  have hu := Try.underlying28
  have hmm := @run_makeMap Try.prog
  obtain ⟨all, hall, h⟩ := Option.bind_eq_some_iff.1 h
  obtain ⟨F, hF, h⟩ := Option.bind_eq_some_iff.1 h
  obtain ⟨rr, hr, h⟩ := Option.bind_eq_some_iff.1 h
  obtain rfl := Option.some.inj h
  obtain ⟨hM, rfl⟩ := fam_of hF
  have HR := Aside0.mk hr0_1
  have HC := Aside0.mk hc0_1
  have HALL := Aside0.mk hall
  have HM := Aside0.mk hM
  have HW := Aside0.mk hr
  have HB0 := Aside0.mk (Below.refl w.heap.size w)
  clear hr0_1 hc0_1 hall hF hr h hM
  go_enter Try.func62, Try.ntmps62
  go_wp2_with (first | ((with_reducible refine gate_dst (N := 2) rfl ?_); refine box_event ?hg (N := 2) ?hd (cs := #[.int .i64 a0_0, .slice A0_1 l0_1.length c0_1]) (t := 28) ?hr ?_; (case hd => rfl); (case hg => rfl); (case hr => first | (go_simp; done) | (go_simp; rfl)); intro gs gse W1 gsb W1b; have HB1 := Aside0.mk (below_step (by repeat (first | exact HB0.out | apply pw_below_drewN | apply below_drew1 | apply below_alloc)) W1b); have BK1 := Aside0.mk gsb; have GE1 := Aside0.mk ((by rw [gse]; exact below_size (by repeat (first | exact HB0.out | apply pw_below_drewN | apply below_drew1 | apply below_alloc))) : w.heap.size ≤ gs); have q1 : W1.cell? ⟨gs, 0, none⟩ = some (.int .i64 a0_0) := (blk_cell BK1.out 0).trans rfl; have q2 : W1.cell? ⟨gs, 1, none⟩ = some (.slice A0_1 l0_1.length c0_1) := (blk_cell BK1.out 1).trans rfl; clear W1b gsb gse) | (go_at_call 102; (with_reducible refine (impl_Space_family.walk a0_0 A0_1 c0_1 l0_1 _ ?sa ?sb HM.out).mono ?_); (case sa => exact Kd.C_below HR.out HB1.out); (case sb => exact HC.out); rintro e W3 ⟨bf, rfl, hf, hfb, hb3⟩; obtain ⟨hS3, hX3⟩ := ways_start (all := all) (below_step HB1.out hb3) (blk_below BK1.out hb3) hf; have HS3 := Aside0.mk hS3; have q9 : (((((W3.alloc (.map #[] 0)).alloc (.cells #[.pointer (some ⟨bf, 0, none⟩)] 105)).alloc (.cells #[.map (some W3.heap.size)] 112)).alloc (.cells #[.func (.func 108) #[] #[.pointer (some ⟨gs, 0, none⟩), .pointer (some ⟨W3.heap.size + 1 + 1, 0, none⟩), .pointer (some ⟨W3.heap.size + 1, 0, none⟩), .pointer (some ⟨W3.heap.size + 1 + 1 + 1, 0, none⟩)]] 73))).cell? ⟨W3.heap.size + 1 + 1 + 1, 0, none⟩ = some (.func (.func 108) #[] #[.pointer (some ⟨gs, 0, none⟩), .pointer (some ⟨W3.heap.size + 1 + 1, 0, none⟩), .pointer (some ⟨W3.heap.size + 1, 0, none⟩), .pointer (some ⟨W3.heap.size + 1 + 1 + 1, 0, none⟩)]) := (blk_cell hS3.b4 0).trans rfl; clear hf hfb hb3 hS3 hX3 q1 q2) | (go_at_call 108; (refine (impl_Space_ways_1.calls gs _ _ _ _ bf a0_0 A0_1 c0_1 l0_1 (famOf l0_1) all w HR.out HC.out HALL.out k a1 rr _ _ HS3.out HW.out).mono ?_); rintro e W7 ⟨rfl, D', hS7, hK7⟩; have HB7 := Aside0.mk hS7.bel; clear hS7 hK7))
  go_ret
  exact ⟨rfl, HB7.out⟩

-- HAND with (impl.Space).ways+(impl.Space).ways$1+(*impl.family).outer+impl.items
/-- The program's count. -/
theorem ways_ok {n : Int} {l : List Int} (hS : isSpaceB n l = true) : ∀ (d m x : Nat), m + d = n.toNat → GInv n.toNat (famOf l) x m → ∃ c, Ev (fun k => waysF (2 ^ n.toNat - 1) (famOf l) k x) ((cntW (famOf l) d x : Int), c)
  | 0, m, x, hd, hG => by
    obtain ⟨n1, n7, _⟩ := isSpaceB_parts hS
    have hall : (x : Int) = 2 ^ n.toNat - 1 := all_nat.2 ((hG.full (by omega)).2 (by omega))
    exact ⟨0, Ev.succ (g := fun _ => some (1, 0)) (fun k => by rw [waysF, if_pos hall]) (Ev.const rfl)⟩
  | d + 1, m, x, hd, hG => by
    obtain ⟨n1, n7, _⟩ := isSpaceB_parts hS
    have hx128 := hG.x128 (n := n.toNat) (by omega)
    have hall : ¬ (x : Int) = 2 ^ n.toNat - 1 := fun e => by
      have := (hG.full (by omega)).1 (all_nat.1 e)
      omega
    have ho : outerF (famOf l) x < 128 := maskOf_lt _
    have hlen : (itemsN (outerF (famOf l) x)).length ≤ 7 := List.length_filter_le _ _
    have loop : ∀ (I : List Nat) (s c : Nat), (∀ i ∈ I, (outerF (famOf l) x).testBit i = true) → s + I.length * 823543 ≤ 10000000 → ∃ c', Ev (fun k => sumF (fun s => waysF (2 ^ n.toNat - 1) (famOf l) k s) x (I.map fun (j : Nat) => (j : Int)) (s : Int) c) (((I.foldl (addV (cntW (famOf l) d) x) s : Nat) : Int), c') := by
      intro I
      induction I with
      | nil =>
        intro s c _ _
        exact ⟨c, Ev.const rfl⟩
      | cons i I ih =>
        intro s c hI hs
        obtain ⟨hin, hxi, hG2⟩ := outer_next hS hG (hI i List.mem_cons_self)
        have h2i : 2 ^ i < 128 := two_lt128 (by omega)
        have hbits : Go.bits .or .i64 (x : Int) (shl .i64 1 (i : Int)) = ((x ||| 2 ^ i : Nat) : Int) := by rw [shl_one i (by omega), bits_or x (2 ^ i) (by omega) (by omega)]
        obtain ⟨c1, h1⟩ := ways_ok hS d (m + 1) (x ||| 2 ^ i) (by omega) hG2
        have hsm := cntW_small (famOf l) (d := d) (by omega) (x ||| 2 ^ i)
        rw [List.length_cons, Nat.succ_mul] at hs
        obtain ⟨c', h2⟩ := ih (addV (cntW (famOf l) d) x s i) (c + c1) (fun j hj => hI j (List.mem_cons_of_mem _ hj)) (by unfold addV; omega)
        refine ⟨c', Ev.to (fun k => by rw [List.map_cons, sumF, if_pos (by omega), hbits]) ?_⟩
        refine Ev.bind h1 ?_
        have hw : wrap64 ((s : Int) + (cntW (famOf l) d (x ||| 2 ^ i) : Int)) = ((addV (cntW (famOf l) d) x s i : Nat) : Int) := by
          unfold addV
          rw [wrap_in (by omega) (by omega)]
          push_cast
          rfl
        exact Ev.to (fun k => by rw [hw]) h2
    obtain ⟨c', h⟩ := loop (itemsN (outerF (famOf l) x)) 0 0 (fun i hi => itemsN_bit hi) (by omega)
    refine ⟨c' + 1, Ev.succ (fun k => by rw [waysF, if_neg hall]) ?_⟩
    refine Ev.bindc (outer_f (famOf l) (famOf_length l) (x : Int) (by omega) (by omega)) ?_
    rw [Int.toNat_natCast]
    refine Ev.bind (itemsE (x := ((outerF (famOf l) x : Nat) : Int)) (by omega) (by omega)) ?_
    exact Ev.bind h (Ev.const rfl)

-- HAND with (impl.Space).ways+(impl.Space).ways$1+(*impl.family).outer+impl.items+(impl.Space).all+(impl.Space).family
theorem ways0_ok {n : Int} {l : List Int} (hS : isSpaceB n l = true) : Ev (fun k => impl_Space_ways.f k n l 0) (cntW (famOf l) n.toNat 0 : Int) := by
  obtain ⟨n1, n7, _⟩ := isSpaceB_parts hS
  have hG0 : GInv n.toNat (famOf l) 0 0 := GInv.start hS
  obtain ⟨c, hways⟩ := ways_ok hS n.toNat 0 0 (by omega) hG0
  unfold impl_Space_ways.f
  refine Ev.bindc (all_ok n l (by omega) n7) ?_
  refine Ev.bindc (family_f hS) ?_
  exact Ev.bind hways (Ev.const rfl)

-- HAND slices_Clone_int_int: function 85
def slices_Clone_int_int.f (l0 : List Nat) : Option (List Nat) := if l0.length < 1048576 then some l0 else none
set_option maxHeartbeats 8000000 in
set_option maxRecDepth 100000 in
theorem slices_Clone_int_int.calls (Ad : Nat → Option Addr) (cp : Nat → Nat) (ws : List (List Int)) (A0 : Option Addr) (c0 : Nat) (l0 : List Nat) (r : List Nat) (w : World) (hr0 : Kd.C (KW Ad cp ws) w A0 l0.length l0) (hc0 : l0.length ≤ c0) (h : slices_Clone_int_int.f l0 = some r) :
    Calls Try.prog 85 #[.slice A0 l0.length c0] w fun e w' => ∃ v0_ : Value, e = .returned (v0_) ∧ Kd.R (KW Ad cp ws) 22 w' w.heap.size (fun _ => True) v0_ r ∧ Below w.heap.size w w' := by
  unfold slices_Clone_int_int.f at h
  split at h
  · rename_i hlt
    obtain rfl := Option.some.inj h
    have LM := Aside0.mk hlt
    clear h hlt
    have he : ∀ (w : World) (A : Option Addr) (n c : Nat), (binOp .eql 40 (.slice A n c) (.slice none 0 0)).run Try.prog w = .ok (.bool A.isNone) w := fun w A n c => Go.Lib.run_eql_slice_nil w 40 22 A n c 0 0 Try.underlying40
    cases A0 with
    | none =>
      have hl : l0 = [] := by
        rcases Nat.eq_zero_or_pos l0.length with e | e
        · exact List.eq_nil_of_length_eq_zero e
        · obtain ⟨ad, he, _⟩ := hr0.2.2 e
          cases he
      subst hl
      clear hr0 hc0 LM
      have he0 : ∀ (w : World) (n c : Nat), (binOp .eql 40 (.slice none n c) (.slice none 0 0)).run Try.prog w = .ok (.bool true) w := fun w n c => he w none n c
      clear he
      go_enter Try.func85, Try.ntmps85
      go_wp2
      go_ret
      exact ⟨_, rfl, Kd.R_nil _ _ _ _ _, Below.refl _ _⟩
    | some ad =>
      have HR0 := Aside0.mk hr0
      have HC0 := Aside0.mk hc0
      clear hr0 hc0
      have he0 : ∀ (w : World) (n c : Nat), (binOp .eql 40 (.slice (some ad) n c) (.slice none 0 0)).run Try.prog w = .ok (.bool false) w := fun w n c => he w (some ad) n c
      clear he
      have HB := Aside0.mk (Below.refl w.heap.size w)
      go_enter Try.func85, Try.ntmps85
      go_wp2_with (first | ((with_reducible refine gate_dst (N := 5) rfl ?_); refine Kd.R_lit (KW Ad cp ws) _ 22 ?hg (N := 5) ?hd (xs := ([] : List Nat)) (inner := []) (ok := fun _ => True) (okp := fun _ => True) ?hr ?hp (fun _ hk => hk) trivial (Below.refl _ _) (Nat.le_refl _) (by simp) ?_; (case hd => rfl); (case hg => rfl); (case hr => first | (go_simp; done) | (go_simp; rfl)); (case hp => exact (Reps.none _ _)); intro v102 w3 ho4 hb hg_ hnew_; clear hg_ hnew_; have n0_ := Aside0.mk (Kd.R_lower ho4 (below_size (by repeat (first | (with_reducible first | exact HB.out | apply below_alloc | apply pw_below_drewN | apply below_drew1) | exact HB.out)))); have n1_ := Aside0.mk (below_step (by repeat (first | (with_reducible first | exact HB.out | apply below_alloc | apply pw_below_drewN | apply below_drew1) | exact HB.out)) hb); clear HB; have HO103 := n0_; have HB := n1_; clear n0_ n1_; clear hb ho4) | ((with_reducible refine gate_builtin (b := .append) (xs := #[.tmp 5, .tmp 6]) rfl ?_); at_builtin; refine Kd.R_append_rows (KW Ad cp ws) (w0 := w) w.heap.size rfl (.tmp 5) (.tmp 6) 40 22 (.slice none 0 0) 24 rfl Try.underlying40 info22 rfl (show 0 < 1 from Nat.one_pos) (by omega) v102 ([] : List Nat) l0 _ _ _ (fun _ => True) (fun _ => False) rfl rfl ?aO ?aR (fun _ _ h => h) (fun _ h => h.elim) ?aF ?aB ?aS ?aL ?_; (case aR => repeat (first | exact (Kd.C_below HR0.out HB.out) | (with_reducible refine Kd.C_alloc ?_ _) | (with_reducible refine Kd.C_drewN ?_ _) | (with_reducible refine Kd.C_drew ?_))); (case aB => exact (by repeat (first | (with_reducible first | exact HB.out | apply below_alloc | apply pw_below_drewN | apply below_drew1) | exact HB.out))); (case aF => exact (fun _ _ => trivial)); (case aO => exact (by (with_reducible repeat (first | apply Kd.R_alloc | apply Kd.R_drewN | apply Kd.R_drew)); exact HO103.out)); (case aS => exact (below_size (by repeat (first | (with_reducible first | exact HB.out | apply below_alloc | apply pw_below_drewN | apply below_drew1) | exact HB.out)))); (case aL => have := LM.out; simp; omega); intro v105 w5 ho hb hg hat; have n0_ := Aside0.mk (hb); have n1_ := Aside0.mk (ho); clear HB; clear HO103; have HB := n0_; have HO106 := n1_; clear n0_ n1_; clear ho hb hg hat))
      go_ret
      exact ⟨_, rfl, by (with_reducible repeat (first | apply Kd.R_alloc | apply Kd.R_drewN | apply Kd.R_drew)); exact HO106.out, by repeat (first | (with_reducible first | exact HB.out | apply below_alloc | apply pw_below_drewN | apply below_drew1) | exact HB.out)⟩
  · cases h

-- HAND slices_IndexFunc_int_int: function 125
/-- A predicate's value, asked of the entries of a list. -/
def PredRow (g : Nat) (lb : Array Value) (p : (List Int) → Bool) (l : List (List Int)) (w : World) : Prop :=
  ∀ (W : World) (x : (List Int)) (A : Option Addr) (c : Nat), x ∈ l → Below w.heap.size w W → Kd.C (Kd.int .i64) W A x.length x → x.length ≤ c → Calls Try.prog g (#[.slice A x.length c] ++ lb) W fun e w' => e = .returned (.bool (p x)) ∧ Below W.heap.size W w'
set_option maxHeartbeats 8000000 in
set_option maxRecDepth 100000 in
theorem slices_IndexFunc_Row.calls (g : Nat) (lb : Array Value) (eg : ∀ args w, (callFunc g args).run Try.prog w = .ok (.enter g args) w) (p : (List Int) → Bool) (A : Option Addr) (c : Nat) (l : List (List Int)) (w : World) (hr : Kd.C (Kd.slice 3 (Kd.int .i64)) w A l.length l) (hc : l.length ≤ c) (hp : PredRow g lb p l w) :
    Calls Try.prog 125 #[.slice A l.length c, .func (.func g) #[] lb] w fun e w' => e = .returned (.int .i64 (idxG p l)) ∧ Below w.heap.size w w' := by
  have HR := Aside0.mk hr
  have HC := Aside0.mk hc
  have HP := Aside0.mk hp
  have hm := Kd.C_max hr
  clear hr hc hp
  go_enter Try.func125, Try.ntmps125
  go_wp2
  go_loopw [8] (fun v8 wr => ∃ i : Int, Aside0 (0 ≤ i ∧ i ≤ l.length) ∧ v8 = .int .i64 i ∧ Aside0 (allG (fun x => !p x) l i = true) ∧ Aside0 (Below w.heap.size w wr)) (fun v8 _ => l.length - (intOf v8).toNat)
  case atStart => exact ⟨0, ⟨by omega⟩, rfl, ⟨rfl⟩, ⟨by repeat (first | exact Below.refl _ _ | apply pw_below_drewN | apply below_drew1)⟩⟩
  case round =>
    obtain ⟨i, hi, rfl, hz, HB⟩ := hrel
    by_cases hlt : i < l.length
    · have i0 := hi.out.1
      have HZ := Aside0.mk (allG_succ [] (fun x => !p x) l i i0 hlt)
      have HMEM := Aside0.mk (getD_mem [] i0 hlt)
      have HHIT : Aside0 (p (l.getD i.toNat []) = true → idxG p l = i) := ⟨idxG_hit [] i0 hlt hz.out⟩
      obtain ⟨ad, A0, c0, e, hcell, HL0, HC0⟩ := Kd.at_rows (Kd.C_below HR.out HB.out) i i0 hlt
      cases e
      have HCALL := Aside0.mk (HP.out wr (l.getD i.toNat []) A0 c0 HMEM.out HB.out HC0 HL0)
      clear HL0 HC0
      generalize l.getD i.toNat [] = x at *
      cases hq : p x with
      | true =>
        have HYES := Aside0.mk (HHIT.out hq)
        rw [hq] at HCALL
        go_wp2_with (go_at_fn g; refine HCALL.out.mono ?_; rintro e w' ⟨rfl, hb'⟩; have HB' := Aside0.mk (below_step HB.out hb'); clear hb')
        go_ret
        exact ⟨by rw [HYES.out]; rfl, HB'.out⟩
      | false =>
        have HNO := Aside0.mk hq
        rw [hq] at HCALL
        clear hq
        go_wp2_with (go_at_fn g; refine HCALL.out.mono ?_; rintro e w' ⟨rfl, hb'⟩; have HB' := Aside0.mk (below_step HB.out hb'); clear hb')
        go_roundw
        case rel => exact ⟨i + 1, ⟨by omega⟩, by first | rfl | go_num, ⟨by rw [HZ.out, hz.out, HNO.out]; rfl⟩, ⟨by repeat (first | exact HB'.out | apply pw_below_drewN | apply below_drew1)⟩⟩
        case measure => simp [intOf]; omega
    · have HNO : Aside0 (idxG p l = -1) := ⟨by have := hz.out; rw [allG_end _ _ _ (by have := hi.out; omega)] at this; exact idxG_miss this⟩
      clear hz
      go_wp2
      go_ret
      exact ⟨by rw [HNO.out]; rfl, HB.out⟩

-- HAND slices_ContainsFunc_int_int: function 86
set_option maxHeartbeats 8000000 in
set_option maxRecDepth 100000 in
theorem slices_ContainsFunc_Row.calls (g : Nat) (lb : Array Value) (eg : ∀ args w, (callFunc g args).run Try.prog w = .ok (.enter g args) w) (p : (List Int) → Bool) (A : Option Addr) (c : Nat) (l : List (List Int)) (w : World) (hr : Kd.C (Kd.slice 3 (Kd.int .i64)) w A l.length l) (hc : l.length ≤ c) (hp : PredRow g lb p l w) :
    Calls Try.prog 86 #[.slice A l.length c, .func (.func g) #[] lb] w fun e w' => e = .returned (.bool (l.any p)) ∧ Below w.heap.size w w' := by
  have HI := Aside0.mk (slices_IndexFunc_Row.calls g lb eg p A c l w hr hc hp)
  have HA := Aside0.mk (idxG_any p l)
  clear hr hc hp
  go_enter Try.func86, Try.ntmps86
  go_wp2_with (go_at_call 125; refine HI.out.mono ?_; rintro e w' ⟨rfl, hb'⟩)
  go_ret
  exact ⟨by rw [← HA.out]; rfl, hb'⟩

-- HAND impl_AreWordsOf_1: function 87
set_option maxHeartbeats 8000000 in
set_option maxRecDepth 100000 in
theorem impl_AreWordsOf_1.calls (k g : Nat) (n : Int) (A : Option Addr) (c : Nat) (l : List Int) (A1 : Option Addr) (c1 : Nat) (x : List Int) (r : Bool) (w : World) (hb : w.heap[g]? = some (.cells #[.int .i64 n, .slice A l.length c] 28 (0, 0))) (hr : Kd.C (Kd.int .i64) w A l.length l) (hc : l.length ≤ c) (hr1 : Kd.C (Kd.int .i64) w A1 x.length x) (hc1 : x.length ≤ c1) (h : impl_isFull.f k n l x = some r) :
    Calls Try.prog 87 #[.slice A1 x.length c1, .pointer (some ⟨g, 0, none⟩)] w fun e w' => e = .returned (.bool (!r)) ∧ Below w.heap.size w w' := by
  have hu := Try.underlying28
  have q0 : w.cell? ⟨g, 0, none⟩ = some (.int .i64 n) := (blk_cell hb 0).trans rfl
  have q1 : w.cell? ⟨g, 1, none⟩ = some (.slice A l.length c) := (blk_cell hb 1).trans rfl
  have HC := Aside0.mk hc
  have HR := Aside0.mk hr
  have HC1 := Aside0.mk hc1
  have HR1 := Aside0.mk hr1
  have HH := Aside0.mk h
  clear hr hc hr1 hc1 h hb
  go_enter Try.func87, Try.ntmps87
  go_wp2_with (go_at_call 88; (with_reducible refine (impl_isFull.calls k n _ _ l _ _ x r _ (by repeat (first | exact HR.out | (with_reducible refine Kd.C_drewN ?_ _) | (with_reducible refine Kd.C_drew ?_))) HC.out (by repeat (first | exact HR1.out | (with_reducible refine Kd.C_drewN ?_ _) | (with_reducible refine Kd.C_drew ?_))) HC1.out HH.out).mono ?_); rintro e w' ⟨rfl, hb5⟩)
  go_ret
  exact ⟨rfl, by first | exact hb5 | exact below_since hb5 | exact below_since1 hb5⟩
theorem areWords_any {g : Nat} {n : Int} {l : List Int} (hS : isSpaceB n l = true) (A : Option Addr) (c : Nat) (A1 : Option Addr) (c1 : Nat) (ws : List (List Int)) (w : World) (hb : w.heap[g]? = some (.cells #[.int .i64 n, .slice A l.length c] 28 (0, 0))) (hr : Kd.C (Kd.int .i64) w A l.length l) (hc : l.length ≤ c) (hr1 : Kd.C (Kd.slice 3 (Kd.int .i64)) w A1 ws.length ws) (hc1 : ws.length ≤ c1) :
    Calls Try.prog 86 #[.slice A1 ws.length c1, .func (.func 87) #[] #[.pointer (some ⟨g, 0, none⟩)]] w fun e w' => e = .returned (.bool (ws.any fun x => !fullV n l x)) ∧ Below w.heap.size w w' := by
  refine slices_ContainsFunc_Row.calls 87 #[.pointer (some ⟨g, 0, none⟩)] (enters_of Try.func87 (by kernel_rfl) rfl) (fun x => !fullV n l x) A1 c1 ws w hr1 hc1 ?_
  intro W x A2 c2 hx hbW hrx hcx
  obtain ⟨k, hk⟩ := isFull_ok hS x (Kd.C_max hrx)
  exact impl_AreWordsOf_1.calls k g n A c l A2 c2 x (fullV n l x) W ((hbW.block g (blk_lt hb)).trans hb) (Kd.C_below hr hbW) hc hrx hcx (hk k (Nat.le_refl _))
theorem rows_of {w : World} {A : Option Addr} {e : Nat} {Ad : Nat → Option Addr} {cp : Nat → Nat} {ws : List (List Int)} (h : Kd.C (KW Ad cp ws) w A (List.range ws.length).length (List.range ws.length)) (hR : RdW w Ad cp ws) : Kd.C (Kd.slice e (Kd.int .i64)) w A ws.length ws := by
  have hl : (List.range ws.length).length = ws.length := List.length_range
  refine ⟨rfl, by have := Kd.C_max h; omega, fun hp => ?_⟩
  obtain ⟨ad, e1, hc⟩ := h.2.2 (by omega)
  refine ⟨ad, e1, fun j p hj => ?_⟩
  obtain ⟨hjl, hjp⟩ := List.getElem?_eq_some_iff.1 hj
  obtain ⟨c, hs, hr, hcell⟩ := hc j j (by rw [List.getElem?_eq_getElem (by omega), List.getElem_range])
  have hp2 : ws.getD j [] = p := by rw [← hjp]; simp [List.getD, hjl]
  have hrd := hR j hjl
  rw [hp2] at hrd
  have hcs : c = [.slice (Ad j) p.length (cp j)] := by
    rw [show c = [hdW Ad cp ws j] from hr, ← hp2]
    rfl
  subst hcs
  exact ⟨_, rfl, ⟨Ad j, cp j, rfl, hrd.2, hrd.1⟩, hcell⟩
theorem perm_words {ws : List (List Int)} {L : List Nat} (h : L.Perm (List.range ws.length)) (x : List Int) : x ∈ (L.map fun i => ws.getD i []) ↔ x ∈ ws := by
  rw [(h.map fun i => ws.getD i []).mem_iff, List.mem_map]
  constructor
  · rintro ⟨i, hi, rfl⟩
    have h2 := List.mem_range.1 hi
    rw [List.getD_eq_getElem?_getD, List.getElem?_eq_getElem h2]
    exact List.getElem_mem h2
  · intro hx
    obtain ⟨i, hi, rfl⟩ := List.mem_iff_getElem.1 hx
    exact ⟨i, List.mem_range.2 hi, by simp [List.getD, hi]⟩
theorem all_any (p : List Int → Bool) : ∀ ws : List (List Int), (ws.any fun x => !p x) = !(ws.all p)
  | [] => rfl
  | x :: ws => by
    rw [List.any_cons, List.all_cons, all_any p ws]
    cases p x <;> rfl

-- NOT PRINTED: function 139 (slices_insertionSortCmpFunc_int)

-- NOT PRINTED: function 154 (slices_siftDownCmpFunc_int)

-- NOT PRINTED: function 140 (slices_heapSortCmpFunc_int)

-- NOT PRINTED: function 156 (slices_xorshift_Next)

-- NOT PRINTED: function 141 (slices_breakPatternsCmpFunc_int)

-- NOT PRINTED: function 161 (slices_order2CmpFunc_int)

-- NOT PRINTED: function 158 (slices_medianCmpFunc_int)

-- NOT PRINTED: function 157 (slices_medianAdjacentCmpFunc_int)

-- NOT PRINTED: function 142 (slices_choosePivotCmpFunc_int)

-- NOT PRINTED: function 143 (slices_reverseRangeCmpFunc_int)

-- NOT PRINTED: function 144 (slices_partialInsertionSortCmpFunc_int)

-- NOT PRINTED: function 145 (slices_partitionEqualCmpFunc_int)

-- NOT PRINTED: function 146 (slices_partitionCmpFunc_int)

-- NOT PRINTED: function 127 (slices_pdqsortCmpFunc_int)

/-! ### cmp_isNaN_int: function 149 -/
def cmp_isNaN_int.f (a0 : Int) : Option (Bool) := some (a0 != a0)
set_option maxHeartbeats 8000000 in
set_option maxRecDepth 100000 in
theorem cmp_isNaN_int.calls (a0 : Int) (r : Bool) (w : World) (h : cmp_isNaN_int.f a0 = some r) :
    Calls Try.prog 149 #[.int .i64 a0] w fun e w' => e = .returned (.bool r) ∧ Drawn0 w w' := by
  have H : (some (a0 != a0)) = some r := h
  clear h
  obtain rfl := Option.some.inj H
  go_enter Try.func149, Try.ntmps149
  go_wp2
  go_ret
  exact ⟨by first | rfl | (simp; done) | (simp [*]; done), by repeat (first | exact Drawn0.refl _ | apply Drawn0.step)⟩

/-! ### cmp_Compare_int: function 129 -/
def cmp_Compare_int.f (a0 : Int) (a1 : Int) : Option (Int) := (cmp_isNaN_int.f a0).bind fun t101 => ((cmp_isNaN_int.f a1).bind fun t102 => (if t101 = true then (if t102 = true then (some 0) else (some (-1))) else (if t102 = true then (some 1) else (if a0 < a1 then (some (-1)) else (if a0 > a1 then (some 1) else (some 0))))))
set_option maxHeartbeats 8000000 in
set_option maxRecDepth 100000 in
theorem cmp_Compare_int.calls (a0 : Int) (a1 : Int) (r : Int) (w : World) (h : cmp_Compare_int.f a0 a1 = some r) :
  Calls Try.prog 129 #[.int .i64 a0, .int .i64 a1] w fun e w' => e = .returned (.int .i64 r) ∧ Drawn0 w w' := by
 have H : ((cmp_isNaN_int.f a0).bind fun t101 => ((cmp_isNaN_int.f a1).bind fun t102 => (if t101 = true then (if t102 = true then (some 0) else (some (-1))) else (if t102 = true then (some 1) else (if a0 < a1 then (some (-1)) else (if a0 > a1 then (some 1) else (some 0))))))) = some r := h
 clear h
 replace H := Option.bind_eq_some_iff.mp H
 obtain ⟨t101, A30, H⟩ := H
 replace H : ((cmp_isNaN_int.f a1).bind fun t102 => (if t101 = true then (if t102 = true then (some 0) else (some (-1))) else (if t102 = true then (some 1) else (if a0 < a1 then (some (-1)) else (if a0 > a1 then (some 1) else (some 0)))))) = some r := H
 have A3 := asd A30
 clear A30
 replace H := Option.bind_eq_some_iff.mp H
 obtain ⟨t102, A40, H⟩ := H
 replace H : (if t101 = true then (if t102 = true then (some 0) else (some (-1))) else (if t102 = true then (some 1) else (if a0 < a1 then (some (-1)) else (if a0 > a1 then (some 1) else (some 0))))) = some r := H
 have A4 := asd A40
 clear A40
 by_cases c5 : t101 = true
 ·
  subst c5
  have H1 : (if t102 = true then (some 0) else (some (-1))) = some r := by rw [if_pos rfl] at H; exact H
  clear H
  have H := H1
  clear H1
  by_cases c6 : t102 = true
  ·
   subst c6
   have H1 : (some 0) = some r := by rw [if_pos rfl] at H; exact H
   clear H
   have H := H1
   clear H1
   obtain rfl := Option.some.inj H
   go_enter Try.func129, Try.ntmps129
   go_wp2_with (first | ((with_reducible refine gate_callee (f := 149) rfl ?_); refine goesL_ (some 8) rfl rfl Try.func149 (by kernel_rfl) rfl #[.int .i64 a0] rfl (by (try simp only [List.map_toArray, List.map_cons, List.map_nil]); first | done | rfl | (simp only [List.length_drop, List.length_take]; rfl)) ?_; (with_reducible refine (cmp_isNaN_int.calls a0 true _ A3.out).mono ?_); rintro e w' ⟨rfl, ⟨nd, rfl⟩⟩; refine ⟨_, rfl, ?_⟩) | ((with_reducible refine gate_callee (f := 149) rfl ?_); refine goesL_ (some 10) rfl rfl Try.func149 (by kernel_rfl) rfl #[.int .i64 a1] rfl (by (try simp only [List.map_toArray, List.map_cons, List.map_nil]); first | done | rfl | (simp only [List.length_drop, List.length_take]; rfl)) ?_; (with_reducible refine (cmp_isNaN_int.calls a1 true _ A4.out).mono ?_); rintro e w' ⟨rfl, ⟨nd, rfl⟩⟩; refine ⟨_, rfl, ?_⟩))
   go_ret
   exact ⟨by first | rfl | (simp; done) | (simp [*]; done), by repeat (first | exact Drawn0.refl _ | apply Drawn0.step)⟩
  ·
   replace c6 := Bool.eq_false_iff.mpr c6
   subst c6
   have H1 : (some (-1)) = some r := by rw [if_neg (show ¬ (false = true) by decide)] at H; exact H
   clear H
   have H := H1
   clear H1
   obtain rfl := Option.some.inj H
   go_enter Try.func129, Try.ntmps129
   go_wp2_with (first | ((with_reducible refine gate_callee (f := 149) rfl ?_); refine goesL_ (some 8) rfl rfl Try.func149 (by kernel_rfl) rfl #[.int .i64 a0] rfl (by (try simp only [List.map_toArray, List.map_cons, List.map_nil]); first | done | rfl | (simp only [List.length_drop, List.length_take]; rfl)) ?_; (with_reducible refine (cmp_isNaN_int.calls a0 true _ A3.out).mono ?_); rintro e w' ⟨rfl, ⟨nd, rfl⟩⟩; refine ⟨_, rfl, ?_⟩) | ((with_reducible refine gate_callee (f := 149) rfl ?_); refine goesL_ (some 10) rfl rfl Try.func149 (by kernel_rfl) rfl #[.int .i64 a1] rfl (by (try simp only [List.map_toArray, List.map_cons, List.map_nil]); first | done | rfl | (simp only [List.length_drop, List.length_take]; rfl)) ?_; (with_reducible refine (cmp_isNaN_int.calls a1 false _ A4.out).mono ?_); rintro e w' ⟨rfl, ⟨nd, rfl⟩⟩; refine ⟨_, rfl, ?_⟩))
   go_ret
   exact ⟨by first | rfl | (simp; done) | (simp [*]; done), by repeat (first | exact Drawn0.refl _ | apply Drawn0.step)⟩
 ·
  replace c5 := Bool.eq_false_iff.mpr c5
  subst c5
  have H1 : (if t102 = true then (some 1) else (if a0 < a1 then (some (-1)) else (if a0 > a1 then (some 1) else (some 0)))) = some r := by rw [if_neg (show ¬ (false = true) by decide)] at H; exact H
  clear H
  have H := H1
  clear H1
  by_cases c7 : t102 = true
  ·
   subst c7
   have H1 : (some 1) = some r := by rw [if_pos rfl] at H; exact H
   clear H
   have H := H1
   clear H1
   obtain rfl := Option.some.inj H
   go_enter Try.func129, Try.ntmps129
   go_wp2_with (first | ((with_reducible refine gate_callee (f := 149) rfl ?_); refine goesL_ (some 8) rfl rfl Try.func149 (by kernel_rfl) rfl #[.int .i64 a0] rfl (by (try simp only [List.map_toArray, List.map_cons, List.map_nil]); first | done | rfl | (simp only [List.length_drop, List.length_take]; rfl)) ?_; (with_reducible refine (cmp_isNaN_int.calls a0 false _ A3.out).mono ?_); rintro e w' ⟨rfl, ⟨nd, rfl⟩⟩; refine ⟨_, rfl, ?_⟩) | ((with_reducible refine gate_callee (f := 149) rfl ?_); refine goesL_ (some 10) rfl rfl Try.func149 (by kernel_rfl) rfl #[.int .i64 a1] rfl (by (try simp only [List.map_toArray, List.map_cons, List.map_nil]); first | done | rfl | (simp only [List.length_drop, List.length_take]; rfl)) ?_; (with_reducible refine (cmp_isNaN_int.calls a1 true _ A4.out).mono ?_); rintro e w' ⟨rfl, ⟨nd, rfl⟩⟩; refine ⟨_, rfl, ?_⟩))
   go_ret
   exact ⟨by first | rfl | (simp; done) | (simp [*]; done), by repeat (first | exact Drawn0.refl _ | apply Drawn0.step)⟩
  ·
   replace c7 := Bool.eq_false_iff.mpr c7
   subst c7
   have H1 : (if a0 < a1 then (some (-1)) else (if a0 > a1 then (some 1) else (some 0))) = some r := by rw [if_neg (show ¬ (false = true) by decide)] at H; exact H
   clear H
   have H := H1
   clear H1
   by_cases c8 : a0 < a1
   ·
    rw [if_pos c8] at H
    have c8b0 : decide (a0 < a1) = true := decide_eq_true c8
    clear c8
    obtain rfl := Option.some.inj H
    go_enter Try.func129, Try.ntmps129
    go_wp2_with (first | ((with_reducible refine gate_callee (f := 149) rfl ?_); refine goesL_ (some 8) rfl rfl Try.func149 (by kernel_rfl) rfl #[.int .i64 a0] rfl (by (try simp only [List.map_toArray, List.map_cons, List.map_nil]); first | done | rfl | (simp only [List.length_drop, List.length_take]; rfl)) ?_; (with_reducible refine (cmp_isNaN_int.calls a0 false _ A3.out).mono ?_); rintro e w' ⟨rfl, ⟨nd, rfl⟩⟩; refine ⟨_, rfl, ?_⟩) | ((with_reducible refine gate_callee (f := 149) rfl ?_); refine goesL_ (some 10) rfl rfl Try.func149 (by kernel_rfl) rfl #[.int .i64 a1] rfl (by (try simp only [List.map_toArray, List.map_cons, List.map_nil]); first | done | rfl | (simp only [List.length_drop, List.length_take]; rfl)) ?_; (with_reducible refine (cmp_isNaN_int.calls a1 false _ A4.out).mono ?_); rintro e w' ⟨rfl, ⟨nd, rfl⟩⟩; refine ⟨_, rfl, ?_⟩))
    go_ret
    exact ⟨by first | rfl | (simp; done) | (simp [*]; done), by repeat (first | exact Drawn0.refl _ | apply Drawn0.step)⟩
   ·
    rw [if_neg c8] at H
    have c8b0 : decide (a0 < a1) = false := decide_eq_false c8
    clear c8
    by_cases c9 : a0 > a1
    ·
     rw [if_pos c9] at H
     have c9b0 : decide (a1 < a0) = true := decide_eq_true c9
     clear c9
     obtain rfl := Option.some.inj H
     go_enter Try.func129, Try.ntmps129
     go_wp2_with (first | ((with_reducible refine gate_callee (f := 149) rfl ?_); refine goesL_ (some 8) rfl rfl Try.func149 (by kernel_rfl) rfl #[.int .i64 a0] rfl (by (try simp only [List.map_toArray, List.map_cons, List.map_nil]); first | done | rfl | (simp only [List.length_drop, List.length_take]; rfl)) ?_; (with_reducible refine (cmp_isNaN_int.calls a0 false _ A3.out).mono ?_); rintro e w' ⟨rfl, ⟨nd, rfl⟩⟩; refine ⟨_, rfl, ?_⟩) | ((with_reducible refine gate_callee (f := 149) rfl ?_); refine goesL_ (some 10) rfl rfl Try.func149 (by kernel_rfl) rfl #[.int .i64 a1] rfl (by (try simp only [List.map_toArray, List.map_cons, List.map_nil]); first | done | rfl | (simp only [List.length_drop, List.length_take]; rfl)) ?_; (with_reducible refine (cmp_isNaN_int.calls a1 false _ A4.out).mono ?_); rintro e w' ⟨rfl, ⟨nd, rfl⟩⟩; refine ⟨_, rfl, ?_⟩))
     go_ret
     exact ⟨by first | rfl | (simp; done) | (simp [*]; done), by repeat (first | exact Drawn0.refl _ | apply Drawn0.step)⟩
    ·
     rw [if_neg c9] at H
     have c9b0 : decide (a1 < a0) = false := decide_eq_false c9
     clear c9
     obtain rfl := Option.some.inj H
     go_enter Try.func129, Try.ntmps129
     go_wp2_with (first | ((with_reducible refine gate_callee (f := 149) rfl ?_); refine goesL_ (some 8) rfl rfl Try.func149 (by kernel_rfl) rfl #[.int .i64 a0] rfl (by (try simp only [List.map_toArray, List.map_cons, List.map_nil]); first | done | rfl | (simp only [List.length_drop, List.length_take]; rfl)) ?_; (with_reducible refine (cmp_isNaN_int.calls a0 false _ A3.out).mono ?_); rintro e w' ⟨rfl, ⟨nd, rfl⟩⟩; refine ⟨_, rfl, ?_⟩) | ((with_reducible refine gate_callee (f := 149) rfl ?_); refine goesL_ (some 10) rfl rfl Try.func149 (by kernel_rfl) rfl #[.int .i64 a1] rfl (by (try simp only [List.map_toArray, List.map_cons, List.map_nil]); first | done | rfl | (simp only [List.length_drop, List.length_take]; rfl)) ?_; (with_reducible refine (cmp_isNaN_int.calls a1 false _ A4.out).mono ?_); rintro e w' ⟨rfl, ⟨nd, rfl⟩⟩; refine ⟨_, rfl, ?_⟩))
     go_ret
     exact ⟨by first | rfl | (simp; done) | (simp [*]; done), by repeat (first | exact Drawn0.refl _ | apply Drawn0.step)⟩

end Go.Proofs.Ytkepeflplmkcmaa.Q
