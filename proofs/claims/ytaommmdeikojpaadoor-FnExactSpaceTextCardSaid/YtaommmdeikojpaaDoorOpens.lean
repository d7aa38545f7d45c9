/- Arguments that can be read as data are lists, numbers and records as the contracts want them. Conditions: those of each theorem. -/
import Derived.Lib.SmallJoins
import Derived.Test.YtaommmdeikojpaaDoorWWords
import Derived.Test.YtaommmdeikojpaaDoorWMore
namespace Go.Proofs.YtaommmdeikojpaaDoor.Opens
open Go.RowKit Go.Proofs.YtaommmdeikojpaaDoorW.PrintWords
set_option linter.unusedVariables false
/-- Readings of arguments as the walk's words tell them. -/
def Opens {H : Type} (enc : TypeId × Value → H) (P : Program) (W : World) {α : Type} (t : TypeId) (d : Kd α) (ok : α → Prop) : Prop :=
  P.cellsOf t = d.sz ∧ ∀ fuel cs y, DataW.trod enc P W 0 (fun _ => true) true fuel t cs = some y → ∃ x, d.K W x cs ∧ ok x
/-- A whole number of 64 bits. -/
def Int64 (n : Int) : Prop := -9223372036854775808 ≤ n ∧ n ≤ 9223372036854775807
def AllOk {α : Type} (ok : α → Prop) (l : List α) : Prop := ∀ x ∈ l, ok x
theorem int64_of_wf {n : Int} (h : (Lit.int .i64 n).wf = true) : Int64 n := by
  simp only [Lit.wf, Bool.and_eq_true, decide_eq_true_eq] at h
  exact ⟨h.1, h.2⟩
section
variable {H : Type} {enc : TypeId × Value → H} {P : Program} {W : World}
theorem Opens.int {t : TypeId} (hu : P.underlying t = some (.int .i64)) (hc : P.cellsOf t = 1) : Opens enc P W t (Kd.int .i64) Int64 := by
  refine ⟨hc, fun fuel cs y h => ?_⟩
  obtain ⟨n, rfl, _, hwf⟩ := Go.DataW.trod_int hu h
  exact ⟨n, rfl, int64_of_wf hwf⟩
theorem Opens.slice {α : Type} {t e : TypeId} {d : Kd α} {ok : α → Prop} (hu : P.underlying t = some (.slice e)) (hc : P.cellsOf t = 1) (he : Opens enc P W e d ok) : Opens enc P W t (Kd.slice e d) (AllOk ok) := by
  refine ⟨hc, fun fuel cs y h => ?_⟩
  rcases Go.Deep.open_slice hu h with ⟨rfl, _⟩ | ⟨a, len, cap, m, n, D, Pl, rfl, _, hl, hm, _, _, hel⟩
  · exact ⟨[], ⟨none, 0, rfl, Nat.le_refl _, Kd.C_nil d W⟩, fun x hx => by cases hx⟩
  · have hm' : len ≤ m := by
      rename_i hmm _
      rw [hmm]
      simp only [if_true]
      exact hl
    have h1 : ∀ i, i < len → ∃ x : α, ok x ∧ ∃ c, c.length = d.sz ∧ d.K W x c ∧ ∀ j u, c[j]? = some u → W.cell? (a.add (i * d.sz + j)) = some u := by
      intro i hi
      obtain ⟨cs', h2, h3⟩ := hel i (by omega)
      obtain ⟨x, hK, hx⟩ := he.2 _ _ _ h3
      obtain ⟨_, h5, h6⟩ := Go.World.cells?_some h2
      refine ⟨x, hx, cs', h5.trans he.1, hK, fun j u hu => ?_⟩
      have hj : j < P.cellsOf e := by
        have := (List.getElem?_eq_some_iff.1 hu).1
        omega
      have := h6 j hj
      rw [Go.Deep.add_add, he.1] at this
      rw [this, hu]
    by_cases h0 : len = 0
    · subst h0
      exact ⟨[], ⟨some a, cap, rfl, Nat.zero_le _, ⟨rfl, Nat.zero_le _, fun h => absurd h (Nat.lt_irrefl 0)⟩⟩, fun x hx => by cases hx⟩
    · obtain ⟨x0, _⟩ := h1 0 (by omega)
      haveI : Inhabited α := ⟨x0⟩
      obtain ⟨f, hf⟩ := Go.Deep.choose_lt h1
      refine ⟨(List.range len).map f, ⟨some a, cap, by simp, by simpa using hl, ⟨rfl, ?_, fun _ => ⟨a, rfl, fun j p hj => ?_⟩⟩⟩, fun x hx => ?_⟩
      · simp only [List.length_map, List.length_range]
        unfold maxLen at hm
        omega
      · have hj' : j < len := by
          have := (List.getElem?_eq_some_iff.1 hj).1
          simpa using this
        have : p = f j := by simpa [hj'] using hj.symm
        subst this
        exact (hf j hj').2
      · obtain ⟨j, hj, rfl⟩ := List.mem_map.1 hx
        exact (hf j (List.mem_range.1 hj)).1
theorem Opens.iso {α β : Type} {t : TypeId} {d : Kd α} {ok : α → Prop} {f : β → α} (g : α → β) (hfg : ∀ x, f (g x) = x) (h : Opens enc P W t d ok) : Opens enc P W t (Kd.iso d f) (fun x => ok (f x)) := by
  refine ⟨h.1, fun fuel cs y hy => ?_⟩
  obtain ⟨x, hK, hx⟩ := h.2 fuel cs y hy
  refine ⟨g x, ?_, by show ok (f (g x)); rw [hfg]; exact hx⟩
  show d.K W (f (g x)) cs
  rw [hfg]
  exact hK
theorem take_drop_all {cs : List Value} {n : Nat} (h : cs.length = n) : (cs.drop 0).take n = cs := by simp [← h]
theorem Opens.struct1 {α : Type} {t : TypeId} {f0 : Field} {a : Kd α} {oka : α → Prop} (hu : P.underlying t = some (.struct #[f0])) (h0 : f0.offset = 0) (hc : P.cellsOf t = a.sz)
    (ha : Opens enc P W f0.type a oka) : Opens enc P W t a oka := by
  refine ⟨hc, fun fuel cs y hy => ?_⟩
  obtain ⟨y0, n, _, hl, h1⟩ := Go.ChangeShapes.trod_struct1 hu hy
  rw [h0, ha.1, ← hc, take_drop_all hl] at h1
  exact ha.2 _ _ _ h1
theorem Opens.struct2 {α β : Type} {t : TypeId} {f0 f1 : Field} {a : Kd α} {b : Kd β} {oka : α → Prop} {okb : β → Prop} (hu : P.underlying t = some (.struct #[f0, f1])) (h0 : f0.offset = 0) (h1 : f1.offset = a.sz) (hc : P.cellsOf t = a.sz + b.sz)
    (ha : Opens enc P W f0.type a oka) (hb : Opens enc P W f1.type b okb) : Opens enc P W t (Kd.pair a b) (fun x => oka x.1 ∧ okb x.2) := by
  refine ⟨hc, fun fuel cs y hy => ?_⟩
  obtain ⟨y0, y1, n, _, hl, k0, k1⟩ := Go.ChangeShapes.trod_struct2 hu hy
  rw [h0, ha.1] at k0
  rw [h1, hb.1] at k1
  obtain ⟨x0, kx0, ox0⟩ := ha.2 _ _ _ k0
  obtain ⟨x1, kx1, ox1⟩ := hb.2 _ _ _ k1
  refine ⟨(x0, x1), ⟨_, _, ?_, kx0, kx1⟩, ox0, ox1⟩
  rw [hc] at hl
  rw [List.drop_zero, List.take_of_length_le (l := cs.drop a.sz) (by rw [List.length_drop]; omega), List.take_append_drop]
theorem Opens.struct3 {α β γ : Type} {t : TypeId} {f0 f1 f2 : Field} {a : Kd α} {b : Kd β} {c : Kd γ} {oka : α → Prop} {okb : β → Prop} {okc : γ → Prop} (hu : P.underlying t = some (.struct #[f0, f1, f2])) (h0 : f0.offset = 0) (h1 : f1.offset = a.sz) (h2 : f2.offset = a.sz + b.sz) (hc : P.cellsOf t = a.sz + (b.sz + c.sz))
    (ha : Opens enc P W f0.type a oka) (hb : Opens enc P W f1.type b okb) (hcc : Opens enc P W f2.type c okc) : Opens enc P W t (Kd.pair a (Kd.pair b c)) (fun x => oka x.1 ∧ okb x.2.1 ∧ okc x.2.2) := by
  refine ⟨hc, fun fuel cs y hy => ?_⟩
  obtain ⟨y0, y1, y2, n, _, hl, k0, k1, k2⟩ := Go.Deep.trod_struct3 hu hy
  rw [h0, ha.1] at k0
  rw [h1, hb.1] at k1
  rw [h2, hcc.1] at k2
  obtain ⟨x0, kx0, ox0⟩ := ha.2 _ _ _ k0
  obtain ⟨x1, kx1, ox1⟩ := hb.2 _ _ _ k1
  obtain ⟨x2, kx2, ox2⟩ := hcc.2 _ _ _ k2
  rw [hc] at hl
  refine ⟨(x0, x1, x2), ⟨_, _, ?_, kx0, _, _, rfl, kx1, kx2⟩, ox0, ox1, ox2⟩
  rw [List.drop_zero, List.take_of_length_le (l := cs.drop (a.sz + b.sz)) (by rw [List.length_drop]; omega), ← List.drop_drop, List.take_append_drop, List.take_append_drop]
/-- A row inside: its length, too. -/
theorem Opens.sliceL {α : Type} {t e : TypeId} {d : Kd α} {ok : α → Prop} (h : Opens enc P W t (Kd.slice e d) (AllOk ok)) : Opens enc P W t (Kd.slice e d) (fun l : List α => l.length ≤ 9223372036854775807 ∧ AllOk ok l) :=
  ⟨h.1, fun fuel cs y hh => (h.2 fuel cs y hh).elim fun l ⟨⟨A, c, hcs, hl, hC⟩, hok⟩ => ⟨l, ⟨A, c, hcs, hl, hC⟩, Kd.C_max hC, hok⟩⟩
/-- A slice that came in. -/
theorem Opens.get_slice {α : Type} {t e : TypeId} {d : Kd α} {ok : List α → Prop} {a : Option Addr} {len cap : Nat} {dd : DataW H} {ps : List MemPlace} (h : Opens enc P W t (Kd.slice e d) ok) (hT : DataW.Trod enc P W 0 (fun _ => true) true t (.slice a len cap) dd ps) :
    ∃ l, len = l.length ∧ l.length ≤ cap ∧ d.C W a l.length l ∧ ok l := by
  obtain ⟨fuel, hf⟩ := hT
  obtain ⟨l, ⟨A, c, hcs, hl, hC⟩, hok⟩ := h.2 _ _ _ hf
  have e1 : (Value.slice a len cap) = .slice A l.length c := by simpa [Value.cells] using hcs
  injection e1 with e1 e2 e3
  subst e1 e2 e3
  exact ⟨l, rfl, hl, hC, hok⟩
/-- A struct that came in. -/
theorem Opens.get_agg {α : Type} {t : TypeId} {d : Kd α} {ok : α → Prop} {fs : Array Field} {r : Reach} {b : Nat} {v : Value} {dd : DataW H} {ps : List MemPlace} (h : Opens enc P W t d ok) (hu : P.underlying t = some (.struct fs)) (hv : Value.okWide P W r b t v) (hT : DataW.Trod enc P W 0 (fun _ => true) true t v dd ps) :
    ∃ x cs, v = .agg cs ∧ d.K W x cs.toList ∧ ok x := by
  obtain ⟨cs, rfl, _⟩ := Go.WideShapes.okWide_struct hu hv
  obtain ⟨fuel, hf⟩ := hT
  obtain ⟨x, hK, hok⟩ := h.2 _ _ _ hf
  exact ⟨x, cs, rfl, by simpa [Value.cells] using hK, hok⟩
end
end Go.Proofs.YtaommmdeikojpaaDoor.Opens
