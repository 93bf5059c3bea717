/- What came in: edits, one edit. -/
import Derived.Test.YtcapaiiegfedmaaDoorOpenR
import Derived.Test.YtcapaiiegfedmaaDoorEE
import Derived.Lib.SmallJoins
namespace Go.Proofs.YtcapaiiegfedmaaDoor
open Go.RowKit Go.WideShapes Go.ChangeShapes Go.Joins
theorem cells_edit : Tryd.prog.cellsOf 23 = 4 := by kernel_rfl
theorem cells_i : Tryd.prog.cellsOf 3 = 1 := by kernel_rfl
theorem cells_s : Tryd.prog.cellsOf 9 = 1 := by kernel_rfl
theorem four_of {α : Type} (l : List α) (h : l.length = 4) : ∃ a b c d, l = [a, b, c, d] := by
  match l, h with
  | [a, b, c, d], _ => exact ⟨a, b, c, d, rfl⟩
theorem one_of {α : Type} (l : List α) (h : l.length = 1) : ∃ a, l = [a] := by
  match l, h with
  | [a], _ => exact ⟨a, rfl⟩
set_option maxRecDepth 100000 in
theorem edits_open {H : Type} {enc : TypeId × Value → H} {W : World} {v : Value} {d : DataW H} {p : List MemPlace} (hv : ∃ A l c, v = .slice A l c) (h : DataW.Trod enc Tryd.prog W 0 (fun _ => true) true 25 v d p) :
    ∃ (A : Option Addr) (c : Nat) (es : List EditD), v = .slice A es.length c ∧ Slc W A (es.flatMap eV) ∧ es.length ≤ c ∧ c ≤ maxLen := by
  obtain ⟨A, c, es, h1, h2, h3, h4, _⟩ := rows_open (P := Tryd.prog) eV (fun _ => True) 4 (by omega) (fun _ => rfl) Tryd.underlying25 cells_edit (fun fuel cs x hx => by
    obtain ⟨xs, n, _, _, hl, hxl, hf⟩ := DataW.trod_struct Tryd.underlying23 hx
    rw [cells_edit] at hl
    obtain ⟨v0, v1, v2, v3, rfl⟩ := four_of cs hl
    have g0 := hf 0 _ rfl
    have g1 := hf 1 _ rfl
    have g2 := hf 2 _ rfl
    have g3 := hf 3 _ rfl
    have g0 : DataW.trod enc Tryd.prog W 0 (fun _ => true) true n 3 [v0] = xs[0]? := by simpa [cells_i] using g0
    have g1 : DataW.trod enc Tryd.prog W 0 (fun _ => true) true n 9 [v1] = xs[1]? := by simpa [cells_s] using g1
    have g2 : DataW.trod enc Tryd.prog W 0 (fun _ => true) true n 9 [v2] = xs[2]? := by simpa [cells_s] using g2
    have g3 : DataW.trod enc Tryd.prog W 0 (fun _ => true) true n 3 [v3] = xs[3]? := by simpa [cells_i] using g3
    obtain ⟨y0, hy0⟩ : ∃ y0, xs[0]? = some y0 := ⟨_, List.getElem?_eq_getElem (by rw [hxl]; decide)⟩
    obtain ⟨y1, hy1⟩ : ∃ y1, xs[1]? = some y1 := ⟨_, List.getElem?_eq_getElem (by rw [hxl]; decide)⟩
    obtain ⟨y2, hy2⟩ : ∃ y2, xs[2]? = some y2 := ⟨_, List.getElem?_eq_getElem (by rw [hxl]; decide)⟩
    obtain ⟨y3, hy3⟩ : ∃ y3, xs[3]? = some y3 := ⟨_, List.getElem?_eq_getElem (by rw [hxl]; decide)⟩
    obtain ⟨n0, e0, _, _⟩ := DataW.trod_int Tryd.underlying3 (g0.trans hy0)
    obtain ⟨s1, e1, _⟩ := DataW.trod_string Tryd.underlying9 (g1.trans hy1)
    obtain ⟨s2, e2, _⟩ := DataW.trod_string Tryd.underlying9 (g2.trans hy2)
    obtain ⟨n3, e3, _, _⟩ := DataW.trod_int Tryd.underlying3 (g3.trans hy3)
    simp only [List.cons.injEq, and_true] at e0 e1 e2 e3
    subst e0; subst e1; subst e2; subst e3
    exact ⟨(n0, L s1, L s2, n3), by unfold eV; rw [str_mk, str_mk], trivial⟩) hv h
  exact ⟨A, c, es, h1, h2, h3, h4⟩
set_option maxRecDepth 100000 in
theorem wedit_open {H : Type} {enc : TypeId × Value → H} {W : World} {r : Reach} {b0 : Nat} {v : Value} {d : DataW H} {p : List MemPlace} (hv : Value.okWide Tryd.prog W r b0 23 v) (h : DataW.Trod enc Tryd.prog W 0 (fun _ => true) true 23 v d p) :
    ∃ (k : Int) (f t : ByteArray) (n : Int), v = .agg #[.int .i64 k, .string f, .string t, .int .i64 n] := by
  obtain ⟨v0, v1, v2, v3, y0, y1, y2, y3, m, rfl, _, _, h0, h1, h2, h3⟩ := open_agg4 Tryd.underlying23 (by kernel_rfl) cells_edit hv h
  obtain ⟨n0, e0, _, _⟩ := DataW.trod_int Tryd.underlying3 h0
  obtain ⟨s1, e1, _⟩ := DataW.trod_string Tryd.underlying9 h1
  obtain ⟨s2, e2, _⟩ := DataW.trod_string Tryd.underlying9 h2
  obtain ⟨n3, e3, _, _⟩ := DataW.trod_int Tryd.underlying3 h3
  simp only [List.cons.injEq, and_true] at e0 e1 e2 e3
  subst e0; subst e1; subst e2; subst e3
  exact ⟨_, _, _, _, rfl⟩
end Go.Proofs.YtcapaiiegfedmaaDoor
