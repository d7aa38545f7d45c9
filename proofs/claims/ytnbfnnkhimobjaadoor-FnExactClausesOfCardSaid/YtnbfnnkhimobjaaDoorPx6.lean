/- Contracts of functions that the laws reach: a call returns what the plain Lean function of the same name tells. Conditions: those of each theorem. Made by gen.py, a program of this session, over the print of the translation. -/
import Derived.Test.YtnbfnnkhimobjaaDoorPx0
import Derived.Test.YtnbfnnkhimobjaaDoorPx1
import Derived.Test.YtnbfnnkhimobjaaDoorPx3
import Derived.Test.YtnbfnnkhimobjaaDoorPx4
import Derived.Test.YtnbfnnkhimobjaaDoorPx5
namespace Go.Proofs.YtnbfnnkhimobjaaDoor.Q
open Go.RowKit Go.Proofs.YtnbfnnkhimobjaaDoorW.PrintWords Go.Proofs.YtnbfnnkhimobjaaDoorW.PrintLast Go.Proofs.YtnbfnnkhimobjaaDoorW.PrintMore
attribute [local go_sem] max2_int min2_int max_two min_two max_three min_three max_four min_four   -- for this text's walks alone
set_option linter.unusedVariables false
set_option linter.unusedSimpArgs false

-- HAND with laws.markIntSS+laws.heldIntSS+laws.heldIntS
theorem heldSS_loop (a : Int) : ∀ (r p : List (List Int)) (b : Int), 0 ≤ b → b + 1048576 * r.length < 4611686018427387904 → (∀ x ∈ r, x.length ≤ 1048576) → p.length + r.length ≤ 1048576 → Ev (fun k => laws_heldIntSS.l0 k (p ++ markTo b r r.length) b p.length) (b + totTo r r.length)
  | [], p, b, h0, hb, hx, hp => by
    show Ev _ (b + 0)
    rw [Int.add_zero]
    have hl : ((p ++ markTo b [] ([] : List (List Int)).length).length : Int) = p.length := by
      rw [List.length_append, markTo_len]
      simp
    exact Ev.succ (fun k => by simp only [laws_heldIntSS.l0]; rw [if_neg (by omega)]) (Ev.const rfl)
  | x :: r, p, b, h0, hb, hx, hp => by
    have hxl := hx x List.mem_cons_self
    have hl : (x :: r).length = r.length + 1 := rfl
    rw [hl] at hb hp
    push_cast at hb
    have hm : markTo b (x :: r) (x :: r).length = numsFrom b x.length :: markTo (b + x.length) r r.length := rfl
    have hlen : ((p ++ markTo b (x :: r) (x :: r).length).length : Int) = p.length + r.length + 1 := by
      rw [List.length_append, markTo_len, hl]
      push_cast
      omega
    have hn := heldSS_loop a r (p ++ [numsFrom b x.length]) (b + x.length) (by omega) (by omega) (fun y hy => hx y (List.mem_cons_of_mem _ hy)) (by rw [List.length_append, List.length_singleton]; omega)
    rw [List.append_assoc, List.singleton_append, ← hm, List.length_append, List.length_singleton] at hn
    push_cast at hn
    have hrd : rd_L9 (p ++ markTo b (x :: r) (x :: r).length) (p.length : Int) = numsFrom b x.length := by
      show (p ++ markTo b (x :: r) (x :: r).length).getD ((p.length : Int)).toNat [] = _
      rw [Int.toNat_natCast, hm, List.getD_eq_getElem?_getD, List.getElem?_append_right (Nat.le_refl _), Nat.sub_self]
      rfl
    have hws : wrap64 ((p.length : Int) + 1) = p.length + 1 := wrap_succ (by omega) (by omega)
    have hlt : (p.length : Int) < ((p ++ markTo b (x :: r) (x :: r).length).length : Int) := by omega
    have hb2 : 0 ≤ b + (x.length : Int) := by omega
    show Ev _ (b + ((x.length : Int) + totTo r r.length))
    rw [← Int.add_assoc]
    have hh := heldIntS_ok b x.length h0 (by omega)
    refine Ev.succ (fun k => by simp only [laws_heldIntSS.l0]; rw [if_pos hlt, if_pos (Int.natCast_nonneg _), hrd, hws]) ?_
    refine Ev.bind hh ?_
    exact Ev.to (fun k => by rw [if_neg (Int.not_lt.2 hb2)]) hn
theorem heldSS_ok (a : Int) (ls : List (List Int)) (h0 : 0 ≤ a) (ha : a ≤ 1048577) (hn : ls.length ≤ 1048576) (hw : ∀ x ∈ ls, x.length ≤ 1048576) : Ev (fun k => laws_heldIntSS.f k (markTo a ls ls.length) a) (a + totTo ls ls.length) := by
  unfold laws_heldIntSS.f
  exact heldSS_loop a ls [] a h0 (by omega) hw (by simp; omega)

-- HAND laws_FnExactClausesOf: function 3
/-- What is known of the law's own things: the box of what came in, the reference's rows, the space that was handed over, the program's rows; by age. -/
structure LawRows (w W : World) (g : Nat) (o : Obj) (N2 N3 : Nat) (vw : Value) (ws : List (List Int)) (vx : Value) (xs : List Int) (vg : Value) (gs : List (List Int)) : Prop where
  bel : Below w.heap.size w W
  gN : g < N2
  nn : N2 ≤ N3
  wN : w.heap.size ≤ N2
  box : W.heap[g]? = some o
  old : Kd.S (Kd.slice 3 (Kd.int .i64)) 22 W w.heap.size (fun k => k < N2) vw ws
  row : Kd.R (Kd.int .i64) 3 W w.heap.size (fun k => N2 ≤ k ∧ k < N3) vx xs
  res : Kd.S (Kd.slice 3 (Kd.int .i64)) 22 W w.heap.size (fun k => N3 ≤ k) vg gs
theorem LawRows.below {w W W' : World} {g : Nat} {o : Obj} {N2 N3 : Nat} {vw vx vg : Value} {ws gs : List (List Int)} {xs : List Int} (h : LawRows w W g o N2 N3 vw ws vx xs vg gs) (hb : Below W.heap.size W W') : LawRows w W' g o N2 N3 vw ws vx xs vg gs :=
  ⟨below_step h.bel hb, h.gN, h.nn, h.wN, (hb.block g (blk_lt h.box)).trans h.box, Kd.S_below h.old hb, Kd.R_below h.row hb, Kd.S_below h.res hb⟩
theorem LawRows.drewN {w W : World} {g : Nat} {o : Obj} {N2 N3 : Nat} {vw vx vg : Value} {ws gs : List (List Int)} {xs : List Int} (h : LawRows w W g o N2 N3 vw ws vx xs vg gs) (m : Nat) : LawRows w (W.drewN m) g o N2 N3 vw ws vx xs vg gs := h.below (pw_below_drewN (Below.refl _ _) m)
theorem LawRows.markX {w W W' : World} {g : Nat} {o : Obj} {N2 N3 : Nat} {vw vx vg : Value} {ws gs : List (List Int)} {xs xs' : List Int} {ok : Nat → Prop} (h : LawRows w W g o N2 N3 vw ws vx xs vg gs) (hk : Kept W W' (fun k => some k = vx.ownBlock)) (hb : Below w.heap.size w W') (hR : Kd.R (Kd.int .i64) 3 W' w.heap.size ok vx xs') : LawRows w W' g o N2 N3 vw ws vx xs' vg gs :=
  ⟨hb, h.gN, h.nn, h.wN, blk_kept h.box hk (fun e => by have := (h.row.1 g e.symm).1; have := h.gN; omega), Kd.S_kept h.old hk (fun k hk2 e => by have := (h.row.1 k e.symm).1; omega), Kd.R_mono (Kd.R_tight rfl hR) (fun k hk2 => h.row.1 k hk2.symm), Kd.S_kept h.res hk (fun k hk2 e => by have := (h.row.1 k e.symm).2; omega)⟩
theorem LawRows.markG {w W W' : World} {g : Nat} {o : Obj} {N2 N3 : Nat} {vw vx vg : Value} {ws gs gs' : List (List Int)} {xs : List Int} (h : LawRows w W g o N2 N3 vw ws vx xs vg gs) (hk : Kept W W' (fun k => N3 ≤ k)) (hb : Below w.heap.size w W') (hS : Kd.S (Kd.slice 3 (Kd.int .i64)) 22 W' w.heap.size (fun k => N3 ≤ k) vg gs') : LawRows w W' g o N2 N3 vw ws vx xs vg gs' :=
  ⟨hb, h.gN, h.nn, h.wN, blk_kept h.box hk (fun e => by have := h.gN; have := h.nn; omega), Kd.S_kept h.old hk (fun k hk2 e => by have := h.nn; omega), Kd.R_kept h.row hk (fun k hk2 e => by omega), hS⟩
theorem box_cells {W : World} {g : Nat} {n : Int} {A : Option Addr} {k c t : Nat} (h : W.heap[g]? = some (.cells #[.int .i64 n, .slice A k c] t (0, 0))) : W.cell? ⟨g, 0, none⟩ = some (.int .i64 n) ∧ W.cell? ⟨g, 1, none⟩ = some (.slice A k c) := ⟨(blk_cell h 0).trans rfl, (blk_cell h 1).trans rfl⟩
def rowsB (ls : List (List Int)) : Bool := decide (ls.length ≤ 1048576) && ls.all fun x => decide (x.length ≤ 1048576)
theorem rowsB_parts {ls : List (List Int)} (h : rowsB ls = true) : ls.length ≤ 1048576 ∧ ∀ x ∈ ls, x.length ≤ 1048576 := by
  unfold rowsB at h
  rw [Bool.and_eq_true, decide_eq_true_eq, List.all_eq_true] at h
  exact ⟨h.1, fun x hx => of_decide_eq_true (h.2 x hx)⟩
def laws_FnExactClausesOf.f (k : Nat) (n : Int) (l : List Int) : Option Bool := if (l.length : Int) ≤ 1048576 then (spec_ClausesOf.f k n l).bind fun a => (impl_ClausesOf.f k n l).bind fun b => if a = b ∧ rowsB b.1 = true then some true else none else some true
set_option maxHeartbeats 4000000 in
set_option maxRecDepth 100000 in
theorem laws_FnExactClausesOf.calls (k : Nat) (n : Int) (A : Option Addr) (c : Nat) (l : List Int) (r : Bool) (w : World) (hTab : TabAt w) (hr : Kd.C (Kd.int .i64) w A l.length l) (hc : l.length ≤ c) (h : laws_FnExactClausesOf.f k n l = some r) (hT_ : Aside0 (r = true)) :
    Calls Tryd.prog 3 #[.agg #[.int .i64 n, .slice A l.length c]] w fun e w' => e = .returned (.bool r) ∧ Below w.heap.size w w' := by
  have hu := Tryd.underlying24
  have hu2 := Tryd.underlying29
  have HTAB := Aside0.mk hTab
  clear hTab
  have HR := Aside0.mk hr
  have HC := Aside0.mk hc
  have HB0 := Aside0.mk (Below.refl w.heap.size w)
  have hmx := Kd.C_max hr
  clear hr hc
  unfold laws_FnExactClausesOf.f at h
  by_cases hlen : (l.length : Int) ≤ 1048576
  · rw [if_pos hlen] at h
    obtain ⟨⟨ws, ok⟩, hs, h⟩ := Option.bind_eq_some_iff.1 h
    obtain ⟨⟨gs, ok2⟩, hi, h⟩ := Option.bind_eq_some_iff.1 h
    by_cases he : (ws, ok) = (gs, ok2) ∧ rowsB gs = true
    · obtain ⟨he1, hrows⟩ := he
      cases he1
      rw [if_pos ⟨rfl, hrows⟩] at h
      obtain rfl := Option.some.inj h
      obtain ⟨hn1, hn2⟩ := rowsB_parts hrows
      have HS := Aside0.mk hs
      have HI := Aside0.mk hi
      obtain ⟨k1, h1⟩ := toSpace_ok n l (by omega)
      obtain ⟨k2, h2⟩ := eqIntSS_refl ws hn1 (fun x hx => Nat.le_trans (hn2 x hx) (by decide))
      obtain ⟨k3, h3⟩ := eqSpace_refl n l (by omega)
      obtain ⟨k4, h4⟩ := markSpace_ok n l 1 (by omega) (by omega)
      obtain ⟨k5, h5⟩ := heldSS_ok 1 ws (by omega) (by omega) hn1 hn2
      have hTot := (totTo_le ws hn2 ws.length).1
      have H1 := Aside0.mk (h1 k1 (Nat.le_refl _))
      have H2 := Aside0.mk (h2 k2 (Nat.le_refl _))
      have H3 := Aside0.mk (h3 k3 (Nat.le_refl _))
      have H4 := Aside0.mk (h4 k4 (Nat.le_refl _))
      have H5 := Aside0.mk (h5 k5 (Nat.le_refl _))
      have HN1 := Aside0.mk hn1
      have HN2 := Aside0.mk hn2
      have HSZ : Aside0 (laws_szSpace.f n l 1048576 = some ((1048576 : Int) - (l.length : Int))) := ⟨szSpace_fits n l 1048576 (Int.le_refl _) hlen⟩
      obtain ⟨m, hm⟩ : ∃ m, m = (1 : Int) + totTo ws ws.length := ⟨_, rfl⟩
      have HM := Aside0.mk hm
      have hm0 : ¬ m < 0 := by omega
      obtain ⟨ll, hll⟩ : ∃ ll : Int, ll = 1048576 - (l.length : Int) := ⟨_, rfl⟩
      have hl0 : ¬ ll < 0 := by omega
      obtain ⟨mk, hmk⟩ : ∃ mk : Int, mk = 1 + (l.length : Int) := ⟨_, rfl⟩
      have hmk0 : ¬ mk < 0 := by omega
      rw [← hll] at HSZ
      rw [← hmk] at H4
      rw [← hm] at H5
      clear hs hi h hrows hn1 hn2 h1 h2 h3 h4 h5 hTot hm hll hmk
      go_enter Tryd.func3, Tryd.ntmps3
      go_wp2_with (first | ((with_reducible refine gate_dst (N := 1) rfl ?_); refine box_event ?hg (N := 1) ?hd (cs := #[.int .i64 n, .slice A l.length c]) (t := 24) ?hr ?_; (case hd => rfl); (case hg => rfl); (case hr => first | (go_simp; done) | (go_simp; rfl)); intro g ge W1 gb W1b; have HB1 := Aside0.mk (below_step (by repeat (first | exact HB0.out | apply pw_below_drewN | apply below_drew1 | apply below_alloc)) W1b); have BK1 := Aside0.mk gb; have GE1 := Aside0.mk ((by rw [ge]; exact below_size (by repeat (first | exact HB0.out | apply pw_below_drewN | apply below_drew1 | apply below_alloc))) : w.heap.size ≤ g); have GL1 := Aside0.mk (blk_lt BK1.out); have p0 := (box_cells BK1.out).1; have p1 := (box_cells BK1.out).2; clear W1b gb ge) | (go_at_call 4; (refine (laws_szSpace.calls n _ _ l 1048576 ll _ (Kd.C_below HR.out HB1.out) HC.out HSZ.out).mono ?_); rintro e W2 ⟨rfl, hb⟩; have HB2 := Aside0.mk (below_step HB1.out hb); have BK2 := Aside0.mk ((hb.block g (blk_lt BK1.out)).trans BK1.out); have GL2 := Aside0.mk (Nat.lt_of_lt_of_le GL1.out hb.size); clear hb p0 p1; have p0 := (box_cells BK2.out).1; have p1 := (box_cells BK2.out).2))
      go_wp2_with (first | (go_at_call 6; (refine (laws_toSpace.calls k1 n _ _ l n l _ (Kd.C_below HR.out HB2.out) HC.out H1.out).mono ?_); rintro e W3 ⟨v3, rfl, hR3, hb⟩; obtain ⟨A3, c3, rfl⟩ := Kd.R_slice hR3; have HR3 := Aside0.mk hR3; have HB3 := Aside0.mk (below_step HB2.out hb); have BK3 := Aside0.mk ((hb.block g (blk_lt BK2.out)).trans BK2.out); have GL3 := Aside0.mk (Nat.lt_of_lt_of_le GL2.out hb.size); clear hb hR3 p0 p1) | (go_at_call 5; (refine (spec_ClausesOf.calls k n _ _ l ws ok _ (Kd.R_reads' HR3.out).2.2 (Kd.R_reads' HR3.out).2.1 HS.out).mono ?_); rintro e W4 ⟨v4, rfl, hS4, hb⟩; have HS4 := Aside0.mk (Kd.S_lower (Kd.S_mono (ok' := fun k => k < W4.heap.size) (Kd.S_bound hS4) (fun k hk => hk.2.2.1)) HB3.out.size); have HB4 := Aside0.mk (below_step HB3.out hb); have BK4 := Aside0.mk ((hb.block g (blk_lt BK3.out)).trans BK3.out); have GL4 := Aside0.mk (Nat.lt_of_lt_of_le GL3.out hb.size); clear hb hS4; have p0 := (box_cells BK4.out).1; have p1 := (box_cells BK4.out).2))
      go_wp2_with (first | (go_at_call 6; (refine (laws_toSpace.calls k1 n _ _ l n l _ (Kd.C_below HR.out HB4.out) HC.out H1.out).mono ?_); rintro e W5 ⟨v5, rfl, hR5, hb⟩; obtain ⟨A5, c5, rfl⟩ := Kd.R_slice hR5; have HR5 := Aside0.mk (Kd.R_lower (Kd.R_mono (ok' := fun k => W4.heap.size ≤ k ∧ k < W5.heap.size) (Kd.R_bound hR5) (fun k hk => ⟨hk.2.1, hk.2.2.1⟩)) HB4.out.size); have HS5 := Aside0.mk (Kd.S_below HS4.out hb); have HB5 := Aside0.mk (below_step HB4.out hb); have BK5 := Aside0.mk ((hb.block g (blk_lt BK4.out)).trans BK4.out); have HZ5 := Aside0.mk hb.size; have HXB := Aside0.mk (below_alloc HB5.out (.cells #[.int .i64 n, .slice A5 l.length c5] 29)); clear hb hR5 p0 p1) | (go_at_call 7; (refine (impl_ClausesOf.calls k n _ _ l ws ok _ (HTAB.out.below HXB.out) (Kd.C_alloc (Kd.R_reads' HR5.out).2.2 _) (Kd.R_reads' HR5.out).2.1 HI.out).mono ?_); rintro e W7 ⟨v7, rfl, hS7, hb⟩; have HL7 : Aside0 (LawRows w W7 g (.cells #[.int .i64 n, .slice A l.length c] 24 (0, 0)) W4.heap.size (W5.alloc (.cells #[.int .i64 n, .slice A5 l.length c5] 29)).heap.size v4 ws (.slice A5 l.length c5) l v7 ws) := ⟨⟨below_step HXB.out hb, GL4.out, Nat.le_trans HZ5.out (below_alloc (Below.refl _ _) _).size, HB4.out.size, (hb.block g (blk_lt (blk_alloc BK5.out _))).trans (blk_alloc BK5.out _), Kd.S_below (Kd.S_alloc HS5.out _) hb, Kd.R_mono (Kd.R_below (Kd.R_alloc HR5.out _) hb) (fun k hk => ⟨hk.1, Nat.lt_of_lt_of_le hk.2 (below_alloc (Below.refl W5.heap.size W5) _).size⟩), Kd.S_lower (Kd.S_mono (ok' := fun k => _ ≤ k) (Kd.S_bound hS7) (fun k hk => hk.2.1)) HXB.out.size⟩⟩; have BX7 := Aside0.mk ((hb.block _ (blk_lt (heap_alloc_new W5 _))).trans (heap_alloc_new W5 (.cells #[.int .i64 n, .slice A5 l.length c5] 29))); obtain ⟨N3, hN3⟩ : ∃ N3, N3 = (W5.alloc (.cells #[.int .i64 n, .slice A5 l.length c5] 29)).heap.size := ⟨_, rfl⟩; rw [← hN3] at HL7; obtain ⟨A7, c7, rfl⟩ := Kd.S_slice HL7.out.res; obtain ⟨A4, c4, rfl⟩ := Kd.S_slice HL7.out.old; clear hb hS7 hN3) | (go_at_call 8; (refine (laws_eqIntSS.calls k2 _ _ ws _ _ ws true _ (Kd.S_reads' HL7.out.res).2.2 (Kd.S_reads' HL7.out.res).2.1 (Kd.S_reads' HL7.out.old).2.2 (Kd.S_reads' HL7.out.old).2.1 H2.out).mono ?_); rintro e w' ⟨rfl, ⟨nd, rfl⟩⟩; have HL8 := Aside0.mk (HL7.out.drewN nd); have BX8 := Aside0.mk (blk_drewN BX7.out nd); generalize World.drewN W7 nd = W8 at *))
      have HK10 : Aside0 (∀ w', Below W8.heap.size W8 w' → Aside0 (Below W8.heap.size W8 w') ∧ w'.cell? ⟨g, 0, none⟩ = some (.int .i64 n) ∧ w'.cell? ⟨g, 1, none⟩ = some (.slice A l.length c) ∧ w'.cell? ⟨W5.heap.size, 0, none⟩ = some (.int .i64 n) ∧ w'.cell? ⟨W5.heap.size, 1, none⟩ = some (.slice A5 l.length c5)) :=
        ⟨fun w' hb => ⟨⟨hb⟩, pw_cell_below hb (box_cells HL8.out.box).1, pw_cell_below hb (box_cells HL8.out.box).2, pw_cell_below hb (box_cells BX8.out).1, pw_cell_below hb (box_cells BX8.out).2⟩⟩
      go_region_held3 (fun w' => Aside0 (Below W8.heap.size W8 w') ∧ w'.cell? ⟨g, 0, none⟩ = some (.int .i64 n) ∧ w'.cell? ⟨g, 1, none⟩ = some (.slice A l.length c) ∧ w'.cell? ⟨W5.heap.size, 0, none⟩ = some (.int .i64 n) ∧ w'.cell? ⟨W5.heap.size, 1, none⟩ = some (.slice A5 l.length c5)) (first | exact HK10.out _ (Below.refl _ _) | exact HK10.out _ (below_drew1 (Below.refl _ _)) | exact HK10.out _ (below_step (‹Aside0 (Below W8.heap.size W8 _) ∧ _›).1.out (by assumption))) (first | (go_at_call 6; (refine (laws_toSpace.calls k1 n _ _ l n l _ (Kd.C_below (Kd.C_below HR.out HL8.out.bel) (‹Aside0 (Below W8.heap.size W8 _) ∧ _›).1.out) HC.out H1.out).mono ?_); rintro e W9 ⟨v9, rfl, hR9, hb9⟩; obtain ⟨A9, c9, rfl⟩ := Kd.R_slice hR9) | (go_at_call 9; (refine (laws_eqSpace.calls k3 n _ _ l n _ _ l true _ ?ea ?eb ?ec ?ed H3.out).mono ?_); (case ea => exact Kd.C_below (Kd.R_reads' HL8.out.row).2.2 (‹Aside0 (Below W8.heap.size W8 _) ∧ _›).1.out); (case eb => exact (Kd.R_reads' HL8.out.row).2.1); (case ec => first | exact (Kd.R_reads' hR9).2.2 | (with_reducible refine Kd.C_drew ?_; exact (Kd.R_reads' hR9).2.2) | exact Kd.C_below (Kd.R_reads' hR9).2.2 (by assumption)); (case ed => exact (Kd.R_reads' hR9).2.1); rintro e W10 ⟨rfl, hb10⟩))
      have HB10 := (‹Aside0 (Below W8.heap.size W8 _) ∧ _›).1
      have HL10 := Aside0.mk (HL8.out.below HB10.out)
      have BX10 := Aside0.mk ((HB10.out.block _ (blk_lt BX8.out)).trans BX8.out)
      have z0 := (box_cells BX10.out).1
      have z1 := (box_cells BX10.out).2
      clear HK10
      go_wp2_with (first | (go_at_call 10; (refine (laws_markSpace.calls k4 n (fun k_ => some k_ = (.slice A5 l.length c5 : Value).ownBlock) (.slice A5 l.length c5) l 1 mk _ w _ HL10.out.bel (Kd.R_tight rfl HL10.out.row) H4.out).mono ?_); rintro e W11 ⟨rfl, hR11, hb11, hk11⟩; have HL11 := Aside0.mk (HL10.out.markX hk11 hb11 hR11); clear hR11 hb11 hk11) | (go_at_call 8; (refine (laws_eqIntSS.calls k2 _ _ ws _ _ ws true _ (Kd.S_reads' HL11.out.res).2.2 (Kd.S_reads' HL11.out.res).2.1 (Kd.S_reads' HL11.out.old).2.2 (Kd.S_reads' HL11.out.old).2.1 H2.out).mono ?_); rintro e w' ⟨rfl, ⟨nd, rfl⟩⟩; have HL12 := Aside0.mk (HL11.out.drewN nd); generalize World.drewN W11 nd = W12 at *) | (go_at_call 11; (refine (laws_markIntSS.calls (fun k => N3 ≤ k) (.slice A7 ws.length c7) ws 1 w _ HL12.out.bel HL12.out.res (by decide) (by decide) HN1.out HN2.out).mono ?_); rintro e W13 ⟨he13, hS13, hb13, hk13⟩; rw [← HM.out] at he13; subst he13; have HL13 := Aside0.mk (HL12.out.markG hk13 hb13 hS13); clear hS13 hb13 hk13; have HHELD : Aside0 (∀ (W : World), Kd.C (Kd.slice 3 (Kd.int .i64)) W A7 (markTo 1 ws ws.length).length (markTo 1 ws ws.length) → Calls Tryd.prog 12 #[.slice A7 ws.length c7, .int .i64 1] W fun e w' => e = .returned (.int .i64 m) ∧ Drawn0 W w') := ⟨fun W hC => by have h9 := laws_heldIntSS.calls k5 A7 c7 (markTo 1 ws ws.length) 1 m W hC (by rw [markTo_len]; exact (Kd.S_reads' HL13.out.res).2.1) H5.out; rw [markTo_len] at h9; exact h9⟩) | (go_at_call 12; (refine (HHELD.out _ (Kd.S_reads' HL13.out.res).2.2).mono ?_); rintro e w' ⟨rfl, ⟨nd, rfl⟩⟩; have HL14 := Aside0.mk (HL13.out.drewN nd); generalize World.drewN W13 nd = W14 at *; have y0 := (box_cells HL14.out.box).1; have y1 := (box_cells HL14.out.box).2))
      go_wp2_with (first | (go_at_call 6; (refine (laws_toSpace.calls k1 n _ _ l n l _ (Kd.C_below HR.out HL14.out.bel) HC.out H1.out).mono ?_); rintro e W15 ⟨v15, rfl, hR15, hb⟩; obtain ⟨A15, c15, rfl⟩ := Kd.R_slice hR15; have HR15 := Aside0.mk hR15; have HL15 := Aside0.mk (HL14.out.below hb); clear hb hR15 y0 y1) | (go_at_call 7; (refine (impl_ClausesOf.calls k n _ _ l ws ok _ (HTAB.out.below HL15.out.bel) (Kd.R_reads' HR15.out).2.2 (Kd.R_reads' HR15.out).2.1 HI.out).mono ?_); rintro e W16 ⟨v16, rfl, hS16, hb⟩; obtain ⟨A16, c16, rfl⟩ := Kd.S_slice hS16; have HS16 := Aside0.mk hS16; have HL16 := Aside0.mk (HL15.out.below hb); clear hb hS16) | (go_at_call 8; (refine (laws_eqIntSS.calls k2 _ _ ws _ _ ws true _ (Kd.S_reads' HS16.out).2.2 (Kd.S_reads' HS16.out).2.1 (Kd.S_reads' HL16.out.old).2.2 (Kd.S_reads' HL16.out.old).2.1 H2.out).mono ?_); rintro e w' ⟨rfl, ⟨nd, rfl⟩⟩; have HL17 := Aside0.mk (HL16.out.drewN nd); generalize World.drewN W16 nd = W17 at *) | (go_at_call 12; (refine (HHELD.out _ (Kd.S_reads' HL17.out.res).2.2).mono ?_); rintro e w' ⟨rfl, ⟨nd, rfl⟩⟩; have HL18 := Aside0.mk (HL17.out.drewN nd)))
      go_ret
      exact ⟨rfl, HL18.out.bel⟩
    · rw [if_neg he] at h
      cases h
  · rw [if_neg hlen] at h
    obtain rfl := Option.some.inj h
    have HSZ : Aside0 (laws_szSpace.f n l 1048576 = some (-1)) := ⟨szSpace_over n l 1048576 (Int.le_refl _) hmx (by omega) (by decide)⟩
    clear h
    go_enter Tryd.func3, Tryd.ntmps3
    go_wp2_with (first | ((with_reducible refine gate_dst (N := 1) rfl ?_); refine box_event ?hg (N := 1) ?hd (cs := #[.int .i64 n, .slice A l.length c]) (t := 24) ?hr ?_; (case hd => rfl); (case hg => rfl); (case hr => first | (go_simp; done) | (go_simp; rfl)); intro g ge W1 gb W1b; have HB1 := Aside0.mk (below_step (by repeat (first | exact HB0.out | apply pw_below_drewN | apply below_drew1 | apply below_alloc)) W1b); have BK1 := Aside0.mk gb; have GE1 := Aside0.mk ((by rw [ge]; exact below_size (by repeat (first | exact HB0.out | apply pw_below_drewN | apply below_drew1 | apply below_alloc))) : w.heap.size ≤ g); have p0 := (box_cells BK1.out).1; have p1 := (box_cells BK1.out).2; clear W1b gb ge) | (go_at_call 4; (refine (laws_szSpace.calls n _ _ l 1048576 (-1) _ (Kd.C_below HR.out HB1.out) HC.out HSZ.out).mono ?_); rintro e W2 ⟨rfl, hb⟩; have HB2 := Aside0.mk (below_step HB1.out hb); clear hb))
    go_ret
    exact ⟨rfl, HB2.out⟩

end Go.Proofs.YtnbfnnkhimobjaaDoor.Q
