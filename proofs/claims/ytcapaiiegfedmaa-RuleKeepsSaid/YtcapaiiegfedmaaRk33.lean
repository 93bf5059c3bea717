/- A slice of rules that came in. · flittinglaw03.RuleKeeps: the walk, whole. -/
import Derived.Test.YtcapaiiegfedmaaRk32
namespace Go.Proofs.Ytcapaiiegfedmaa
open Go.RowKit Go.WideShapes Go.ChangeShapes
theorem cells_rule : Try.prog.cellsOf 102 = 2 := by kernel_rfl
theorem cells_rb : Try.prog.cellsOf 4 = 1 := by kernel_rfl
theorem cells_rs : Try.prog.cellsOf 9 = 1 := by kernel_rfl
set_option maxRecDepth 100000 in
theorem rules_open {H : Type} {enc : TypeId × Value → H} {W : World} {v : Value} {d : DataW H} {p : List MemPlace} (hv : ∃ A l c, v = .slice A l c) (h : DataW.Trod enc Try.prog W 0 (fun _ => true) true 98 v d p) :
    ∃ (A : Option Addr) (c : Nat) (rs : List RuleD), v = .slice A rs.length c ∧ Slc W A (rs.flatMap rV) ∧ rs.length ≤ c ∧ c ≤ maxLen := by
  obtain ⟨A, c, rs, h1, h2, h3, h4, _⟩ := rows_open (P := Try.prog) rV (fun _ => True) 2 (by omega) (fun _ => rfl) Try.underlying98 cells_rule (fun fuel cs x hx => by
    obtain ⟨xs, n, _, _, hl, hxl, hf⟩ := DataW.trod_struct Try.underlying102 hx
    rw [cells_rule] at hl
    obtain ⟨v0, v1, rfl⟩ := list2 cs hl
    have g0 := hf 0 _ rfl
    have g1 := hf 1 _ rfl
    have g0 : DataW.trod enc Try.prog W 0 (fun _ => true) true n 4 [v0] = xs[0]? := by simpa [cells_rb] using g0
    have g1 : DataW.trod enc Try.prog W 0 (fun _ => true) true n 9 [v1] = xs[1]? := by simpa [cells_rs] using g1
    obtain ⟨y0, hy0⟩ : ∃ y0, xs[0]? = some y0 := ⟨_, List.getElem?_eq_getElem (by rw [hxl]; decide)⟩
    obtain ⟨y1, hy1⟩ : ∃ y1, xs[1]? = some y1 := ⟨_, List.getElem?_eq_getElem (by rw [hxl]; decide)⟩
    obtain ⟨b0, e0, _⟩ := DataW.trod_bool Try.underlying4 (g0.trans hy0)
    obtain ⟨s1, e1, _⟩ := DataW.trod_string Try.underlying9 (g1.trans hy1)
    simp only [List.cons.injEq, and_true] at e0 e1
    subst e0; subst e1
    exact ⟨(b0, L s1), by unfold rV; rw [str_mk], trivial⟩) hv h
  exact ⟨A, c, rs, h1, h2, h3, h4⟩
end Go.Proofs.Ytcapaiiegfedmaa
namespace Go.Proofs.Ytcapaiiegfedmaa
open Go.RowKit Go.Shelf
theorem ruleKeeps_all (A : Option Addr) (c : Nat) (rs : List RuleD) (p : ByteArray) (d : Bool) (hbig : rs.length ≤ maxLen) (w : World) (hx : Slc w A (rs.flatMap rV)) :
    Calls Try.prog 15 #[.slice A rs.length c, .string p, .bool d] w fun e w' => e = .returned (.bool true) ∧ Below w.heap.size w w' :=
  ruleKeeps_walk rparse_walk A c rs p d hbig w hx
end Go.Proofs.Ytcapaiiegfedmaa
