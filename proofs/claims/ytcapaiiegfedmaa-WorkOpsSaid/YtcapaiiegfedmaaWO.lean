/- What came in: nodes, an edit, an entry, Bytes. (printed by gen_wopen.py) -/
import Derived.Test.YtcapaiiegfedmaaWA
import Derived.Lib.SmallJoins
namespace Go.Proofs.Ytcapaiiegfedmaa
open Go.RowKit Go.WideShapes Go.ChangeShapes Go.Joins
theorem cells_node : Try.prog.cellsOf 136 = 5 := by kernel_rfl
theorem cells_wi : Try.prog.cellsOf 3 = 1 := by kernel_rfl
theorem cells_ws : Try.prog.cellsOf 9 = 1 := by kernel_rfl
theorem cells_wedit : Try.prog.cellsOf 59 = 4 := by kernel_rfl
theorem cells_went : Try.prog.cellsOf 65 = 16 := by kernel_rfl
theorem cells_wbytes : Try.prog.cellsOf 68 = 4 := by kernel_rfl
theorem five_of {α : Type} (l : List α) (h : l.length = 5) : ∃ a b c d e, l = [a, b, c, d, e] := by
  match l, h with
  | [a, b, c, d, e], _ => exact ⟨a, b, c, d, e, rfl⟩
theorem sixteen_of {α : Type} (l : List α) (h : l.length = 16) : ∃ a0 a1 a2 a3 a4 a5 a6 a7 a8 a9 a10 a11 a12 a13 a14 a15, l = [a0, a1, a2, a3, a4, a5, a6, a7, a8, a9, a10, a11, a12, a13, a14, a15] := by
  match l, h with
  | [a0, a1, a2, a3, a4, a5, a6, a7, a8, a9, a10, a11, a12, a13, a14, a15], _ => exact ⟨a0, a1, a2, a3, a4, a5, a6, a7, a8, a9, a10, a11, a12, a13, a14, a15, rfl⟩
theorem wf_range {n : Int} (h : (Lit.int .i64 n).wf = true) : -9223372036854775808 ≤ n ∧ n ≤ 9223372036854775807 := by
  unfold Lit.wf at h
  rw [Bool.and_eq_true, decide_eq_true_eq, decide_eq_true_eq] at h
  exact h
theorem wf_urange {n : Int} (h : (Lit.int .u64 n).wf = true) : 0 ≤ n ∧ n ≤ 18446744073709551615 := by
  unfold Lit.wf at h
  rw [Bool.and_eq_true, decide_eq_true_eq, decide_eq_true_eq] at h
  exact h
set_option maxRecDepth 100000 in
theorem nodes_open {H : Type} {enc : TypeId × Value → H} {W : World} {v : Value} {d : DataW H} {p : List MemPlace} (hv : ∃ A l c, v = .slice A l c) (h : DataW.Trod enc Try.prog W 0 (fun _ => true) true 66 v d p) :
    ∃ (A : Option Addr) (c : Nat) (es : List NodeD), v = .slice A es.length c ∧ Slc W A (es.flatMap nV) ∧ es.length ≤ c ∧ c ≤ maxLen := by
  obtain ⟨A, c, es, h1, h2, h3, h4, _⟩ := rows_open (P := Try.prog) nV (fun _ => True) 5 (by omega) (fun _ => rfl) Try.underlying66 cells_node (fun fuel cs x hx => by
    obtain ⟨xs, n, _, _, hl, hxl, hf⟩ := DataW.trod_struct Try.underlying136 hx
    rw [cells_node] at hl
    obtain ⟨v0, v1, v2, v3, v4, rfl⟩ := five_of cs hl
    have g0 := hf 0 _ rfl
    have g1 := hf 1 _ rfl
    have g2 := hf 2 _ rfl
    have g3 := hf 3 _ rfl
    have g4 := hf 4 _ rfl
    have g0 : DataW.trod enc Try.prog W 0 (fun _ => true) true n 9 [v0] = xs[0]? := by simpa [cells_ws] using g0
    have g1 : DataW.trod enc Try.prog W 0 (fun _ => true) true n 3 [v1] = xs[1]? := by simpa [cells_wi] using g1
    have g2 : DataW.trod enc Try.prog W 0 (fun _ => true) true n 3 [v2] = xs[2]? := by simpa [cells_wi] using g2
    have g3 : DataW.trod enc Try.prog W 0 (fun _ => true) true n 3 [v3] = xs[3]? := by simpa [cells_wi] using g3
    have g4 : DataW.trod enc Try.prog W 0 (fun _ => true) true n 9 [v4] = xs[4]? := by simpa [cells_ws] using g4
    obtain ⟨y0, hy0⟩ : ∃ y0, xs[0]? = some y0 := ⟨_, List.getElem?_eq_getElem (by rw [hxl]; decide)⟩
    obtain ⟨y1, hy1⟩ : ∃ y1, xs[1]? = some y1 := ⟨_, List.getElem?_eq_getElem (by rw [hxl]; decide)⟩
    obtain ⟨y2, hy2⟩ : ∃ y2, xs[2]? = some y2 := ⟨_, List.getElem?_eq_getElem (by rw [hxl]; decide)⟩
    obtain ⟨y3, hy3⟩ : ∃ y3, xs[3]? = some y3 := ⟨_, List.getElem?_eq_getElem (by rw [hxl]; decide)⟩
    obtain ⟨y4, hy4⟩ : ∃ y4, xs[4]? = some y4 := ⟨_, List.getElem?_eq_getElem (by rw [hxl]; decide)⟩
    obtain ⟨s0, e0, _⟩ := DataW.trod_string Try.underlying9 (g0.trans hy0)
    obtain ⟨n1, e1, _, _⟩ := DataW.trod_int Try.underlying3 (g1.trans hy1)
    obtain ⟨n2, e2, _, _⟩ := DataW.trod_int Try.underlying3 (g2.trans hy2)
    obtain ⟨n3, e3, _, _⟩ := DataW.trod_int Try.underlying3 (g3.trans hy3)
    obtain ⟨s4, e4, _⟩ := DataW.trod_string Try.underlying9 (g4.trans hy4)
    simp only [List.cons.injEq, and_true] at e0 e1 e2 e3 e4
    subst e0; subst e1; subst e2; subst e3; subst e4
    exact ⟨(L s0, n1, n2, n3, L s4), by unfold nV; rw [str_mk, str_mk], trivial⟩) hv h
  exact ⟨A, c, es, h1, h2, h3, h4⟩
set_option maxRecDepth 100000 in
theorem wedit_open {H : Type} {enc : TypeId × Value → H} {W : World} {r : Reach} {b0 : Nat} {v : Value} {d : DataW H} {p : List MemPlace} (hv : Value.okWide Try.prog W r b0 59 v) (h : DataW.Trod enc Try.prog W 0 (fun _ => true) true 59 v d p) :
    ∃ (k : Int) (f t : ByteArray) (n : Int), v = .agg #[.int .i64 k, .string f, .string t, .int .i64 n] := by
  obtain ⟨v0, v1, v2, v3, y0, y1, y2, y3, m, rfl, _, _, h0, h1, h2, h3⟩ := open_agg4 Try.underlying59 (by kernel_rfl) cells_wedit hv h
  obtain ⟨n0, e0, _, _⟩ := DataW.trod_int Try.underlying3 h0
  obtain ⟨s1, e1, _⟩ := DataW.trod_string Try.underlying9 h1
  obtain ⟨s2, e2, _⟩ := DataW.trod_string Try.underlying9 h2
  obtain ⟨n3, e3, _, _⟩ := DataW.trod_int Try.underlying3 h3
  simp only [List.cons.injEq, and_true] at e0 e1 e2 e3
  subst e0; subst e1; subst e2; subst e3
  exact ⟨_, _, _, _, rfl⟩
set_option maxRecDepth 100000 in
theorem wentry_open {H : Type} {enc : TypeId × Value → H} {W : World} {r : Reach} {b0 : Nat} {v : Value} {d : DataW H} {p : List MemPlace} (hv : Value.okWide Try.prog W r b0 65 v) (h : DataW.Trod enc Try.prog W 0 (fun _ => true) true 65 v d p) :
    ∃ (mo ti : Int) (ta : ByteArray) (c0 c1 c4 c5 c6 c8 c9 c10 c11 c12 c13 c14 c15 : Value), v = .agg #[c0, c1, .int .i64 mo, .int .i64 ti, c4, c5, c6, .string ta, c8, c9, c10, c11, c12, c13, c14, c15] := by
  obtain ⟨cs, rfl, hsz⟩ := okWide_struct Try.underlying65 hv
  obtain ⟨l⟩ := cs
  obtain ⟨a0, a1, a2, a3, a4, a5, a6, a7, a8, a9, a10, a11, a12, a13, a14, a15, rfl⟩ := sixteen_of l (hsz.trans cells_went)
  obtain ⟨fuel, hf⟩ := h
  obtain ⟨xs, n, _, _, _, hxl, hg⟩ := DataW.trod_struct Try.underlying65 hf
  have g2 := hg 2 _ rfl
  have g3 := hg 3 _ rfl
  have g6 := hg 6 _ rfl
  have g2 : DataW.trod enc Try.prog W 0 (fun _ => true) true n 3 [a2] = xs[2]? := by simpa [Value.cells, cells_wi] using g2
  have g3 : DataW.trod enc Try.prog W 0 (fun _ => true) true n 3 [a3] = xs[3]? := by simpa [Value.cells, cells_wi] using g3
  have g6 : DataW.trod enc Try.prog W 0 (fun _ => true) true n 9 [a7] = xs[6]? := by simpa [Value.cells, cells_ws] using g6
  obtain ⟨y2, hy2⟩ : ∃ y2, xs[2]? = some y2 := ⟨_, List.getElem?_eq_getElem (by rw [hxl]; decide)⟩
  obtain ⟨y3, hy3⟩ : ∃ y3, xs[3]? = some y3 := ⟨_, List.getElem?_eq_getElem (by rw [hxl]; decide)⟩
  obtain ⟨y6, hy6⟩ : ∃ y6, xs[6]? = some y6 := ⟨_, List.getElem?_eq_getElem (by rw [hxl]; decide)⟩
  obtain ⟨n2, e2, _, _⟩ := DataW.trod_int Try.underlying3 (g2.trans hy2)
  obtain ⟨n3, e3, _, _⟩ := DataW.trod_int Try.underlying3 (g3.trans hy3)
  obtain ⟨s6, e6, _⟩ := DataW.trod_string Try.underlying9 (g6.trans hy6)
  simp only [List.cons.injEq, and_true] at e2 e3 e6
  subst e2; subst e3; subst e6
  exact ⟨n2, n3, s6, a0, a1, a4, a5, a6, a8, a9, a10, a11, a12, a13, a14, a15, rfl⟩
set_option maxRecDepth 100000 in
theorem wbytes_open {H : Type} {enc : TypeId × Value → H} {W : World} {r : Reach} {b0 : Nat} {v : Value} {d : DataW H} {p : List MemPlace} (hv : Value.okWide Try.prog W r b0 68 v) (h : DataW.Trod enc Try.prog W 0 (fun _ => true) true 68 v d p) :
    ∃ (s : ByteArray) (m : Int) (A : Option Addr) (c : Nat) (es : List NodeD) (bo : Int), v = .agg #[.string s, .int .i64 m, .slice A es.length c, .int .u64 bo] ∧ Slc W A (es.flatMap nV) ∧ es.length ≤ c ∧ c ≤ maxLen ∧ (-9223372036854775808 ≤ m ∧ m ≤ 9223372036854775807) ∧ (0 ≤ bo ∧ bo ≤ 18446744073709551615) := by
  obtain ⟨v0, v1, v2, v3, y0, y1, y2, y3, n, rfl, _, _, h0, h1, h2, h3⟩ := open_agg4 Try.underlying68 (by kernel_rfl) cells_wbytes hv h
  obtain ⟨s0, e0, _⟩ := DataW.trod_string Try.underlying9 h0
  obtain ⟨n1, e1, _, w1⟩ := DataW.trod_int Try.underlying3 h1
  obtain ⟨n3, e3, _, w3⟩ := DataW.trod_int Try.underlying60 h3
  have hv2 : ∃ A l c, v2 = .slice A l c := by
    rcases Deep.open_slice Try.underlying66 h2 with ⟨hcs, _⟩ | ⟨a, l', c', m, k, D, Pl, hcs, _⟩
    · simp only [List.cons.injEq, and_true] at hcs; exact ⟨_, _, _, hcs⟩
    · simp only [List.cons.injEq, and_true] at hcs; exact ⟨_, _, _, hcs⟩
  have hT : DataW.Trod enc Try.prog W 0 (fun _ => true) true 66 v2 y2.1 y2.2 := by
    obtain ⟨A, l, c, rfl⟩ := hv2
    exact ⟨n, h2⟩
  obtain ⟨A, c, es, rfl, hx, hl, hc⟩ := nodes_open hv2 hT
  simp only [List.cons.injEq, and_true] at e0 e1 e3
  subst e0; subst e1; subst e3
  exact ⟨_, _, A, c, es, _, rfl, hx, hl, hc, wf_range w1, wf_urange w3⟩
end Go.Proofs.Ytcapaiiegfedmaa
