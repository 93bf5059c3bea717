/- A slice of the document's records that came in. -/
import Derived.Test.YtcapaiiegfedmaaOpenR
import Derived.Test.YtcapaiiegfedmaaJE
namespace Go.Proofs.Ytcapaiiegfedmaa
open Go.RowKit Go.WideShapes Go.ChangeShapes
theorem cells_rrec : Try.prog.cellsOf 54 = 2 := by kernel_rfl
theorem cells_int : Try.prog.cellsOf 3 = 1 := by kernel_rfl
set_option maxRecDepth 100000 in
theorem rrec_open {H : Type} {enc : TypeId × Value → H} {W : World} {v : Value} {d : DataW H} {p : List MemPlace} (hv : ∃ A l c, v = .slice A l c) (h : DataW.Trod enc Try.prog W 0 (fun _ => true) true 45 v d p) :
    ∃ (A : Option Addr) (c : Nat) (rs : List (Int × Int)), v = .slice A rs.length c ∧ Slc W A (recsV rs) ∧ rs.length ≤ c ∧ c ≤ maxLen := by
  obtain ⟨A, c, rs, h1, h2, h3, h4, _⟩ := rows_open (P := Try.prog) recV (fun _ => True) 2 (by omega) (fun _ => rfl) Try.underlying45 cells_rrec (fun fuel cs x hx => by
    obtain ⟨xs, n, _, _, hl, hxl, hf⟩ := DataW.trod_struct Try.underlying54 hx
    rw [cells_rrec] at hl
    obtain ⟨v0, v1, rfl⟩ := list2 cs hl
    · have g0 := hf 0 _ rfl
      have g1 := hf 1 _ rfl
      have g0 : DataW.trod enc Try.prog W 0 (fun _ => true) true n 3 [v0] = xs[0]? := by simpa [cells_int] using g0
      have g1 : DataW.trod enc Try.prog W 0 (fun _ => true) true n 3 [v1] = xs[1]? := by simpa [cells_int] using g1
      obtain ⟨y0, hy0⟩ : ∃ y0, xs[0]? = some y0 := ⟨_, List.getElem?_eq_getElem (by rw [hxl]; decide)⟩
      obtain ⟨y1, hy1⟩ : ∃ y1, xs[1]? = some y1 := ⟨_, List.getElem?_eq_getElem (by rw [hxl]; decide)⟩
      obtain ⟨n0, e0, _, _⟩ := DataW.trod_int Try.underlying3 (g0.trans hy0)
      obtain ⟨n1, e1, _, _⟩ := DataW.trod_int Try.underlying3 (g1.trans hy1)
      exact ⟨(n0, n1), by simp [recV] at e0 e1 ⊢; exact ⟨e0, e1⟩, trivial⟩) hv h
  exact ⟨A, c, rs, h1, h2, h3, h4⟩
end Go.Proofs.Ytcapaiiegfedmaa
