/- A slice of strings that came in, in the words of the walks. -/
import Derived.Test.YtcapaiiegfedmaaDoorOpen
import Derived.SliceStrings
namespace Go.Proofs.YtcapaiiegfedmaaDoor
open Go.RowKit Go.WideShapes Go.ChangeShapes
theorem str_mk (s : ByteArray) : strV (L s) = .string s := by unfold strV; rw [B_L]
theorem strs_open {H : Type} {enc : TypeId × Value → H} {P : Program} {W : World} {t e : TypeId} {v : Value} {d : DataW H} {p : List MemPlace} (ht : P.underlying t = some (.slice e)) (he : P.underlying e = some .string) (hc : P.cellsOf e = 1)
    (hv : ∃ A l c, v = .slice A l c) (h : DataW.Trod enc P W 0 (fun _ => true) true t v d p) :
    ∃ (A : Option Addr) (c : Nat) (xs : List Bs), v = .slice A xs.length c ∧ Slc W A (xs.map strV) ∧ xs.length ≤ c ∧ c ≤ maxLen ∧ (∀ x ∈ xs, x.length ≤ maxLen) ∧ (A = none → c = 0) := by
  obtain ⟨A, l, c, rfl⟩ := hv
  obtain ⟨fuel, hf⟩ := h
  rcases open_strings ht he hc hf with ⟨hcs, _⟩ | ⟨a, l', c', ss, hcs, _, hl, hm, hss, _, hcell, hsz⟩
  · simp only [Value.cells, List.cons.injEq, Value.slice.injEq, and_true] at hcs
    obtain ⟨rfl, rfl, rfl⟩ := hcs
    exact ⟨none, 0, [], rfl, .inl rfl, Nat.le_refl _, Nat.zero_le _, by simp, fun _ => rfl⟩
  · simp only [Value.cells, List.cons.injEq, Value.slice.injEq, and_true] at hcs
    obtain ⟨rfl, rfl, rfl⟩ := hcs
    simp only [if_true] at hss
    have hlen : ((ss.take l).map L).length = l := by rw [List.length_map, List.length_take]; omega
    refine ⟨some a, c, (ss.take l).map L, by rw [hlen], ?_, by rw [hlen]; exact hl, hm, ?_, fun h => by cases h⟩
    · by_cases h0 : l = 0
      · left; subst h0; rfl
      · right
        have hc0 := hcell 0 (by omega)
        obtain ⟨b, off, spot⟩ := a
        have hspot : spot = none := by simpa [Addr.add] using World.cell?_spot hc0
        subst hspot
        have hadd : ∀ i, (⟨b, off, none⟩ : Addr).add i = ⟨b, off + i, none⟩ := fun i => by unfold Addr.add; split <;> simp_all
        refine ⟨b, off, rfl, ?_, fun i u hu => ?_⟩
        · rw [hadd 0] at hc0
          by_cases hb : b < W.heap.size
          · exact hb
          · have : W.heap[b]? = none := by simp; omega
            simp [World.cell?, this] at hc0
        · rw [List.getElem?_map, List.getElem?_map, List.getElem?_take] at hu
          split at hu
          · next hi =>
            rw [List.getElem?_eq_getElem (by omega)] at hu
            simp only [Option.map_some, Option.some.injEq] at hu
            have := hcell i (by omega)
            rw [hadd i, List.getD_eq_getElem?_getD, List.getElem?_eq_getElem (by omega)] at this
            rw [this, ← hu, str_mk]; rfl
          · simp at hu
    · intro x hx
      obtain ⟨s, hs, rfl⟩ := List.mem_map.1 hx
      rw [L_len]; exact hsz s (List.mem_of_mem_take hs)
end Go.Proofs.YtcapaiiegfedmaaDoor
