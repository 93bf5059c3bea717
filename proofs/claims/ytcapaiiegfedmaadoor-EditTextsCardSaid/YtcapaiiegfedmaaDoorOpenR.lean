/- A slice of structs that came in, in the words of the walks: whatever the struct, if each element's cells are an image of plain data. -/
import Derived.Test.YtcapaiiegfedmaaDoorOpenS
import Derived.Deep.Slices
namespace Go.Proofs.YtcapaiiegfedmaaDoor
open Go.RowKit Go.WideShapes Go.ChangeShapes
theorem addr_plus (b o i : Nat) : (⟨b, o, none⟩ : Addr).add i = ⟨b, o + i, none⟩ := by unfold Addr.add; split <;> simp_all
theorem addr_twice (a : Addr) (i j : Nat) : (a.add i).add j = a.add (i + j) := by
  unfold Addr.add
  by_cases hi : i = 0 <;> by_cases hj : j = 0 <;> simp_all <;> omega
theorem flat_get {α : Type} (f : α → List Value) (n : Nat) (hf : ∀ x, (f x).length = n) (xs : List α) (i j : Nat) (hj : j < n) : (xs.flatMap f)[i * n + j]? = (xs[i]?).bind (fun x => (f x)[j]?) := by
  induction xs generalizing i with
  | nil => simp
  | cons x t ih =>
    rw [List.flatMap_cons]
    cases i with
    | zero => rw [Nat.zero_mul, Nat.zero_add, List.getElem?_append_left (by rw [hf]; exact hj)]; rfl
    | succ i =>
      rw [List.getElem?_append_right (by rw [hf, Nat.succ_mul]; omega), hf, show (i + 1) * n + j - n = i * n + j by rw [Nat.succ_mul]; omega, ih]; rfl
theorem flat_len {α : Type} (f : α → List Value) (n : Nat) (hf : ∀ x, (f x).length = n) (xs : List α) : (xs.flatMap f).length = xs.length * n := by
  induction xs with
  | nil => simp
  | cons x t ih => rw [List.flatMap_cons, List.length_append, hf, ih, List.length_cons, Nat.succ_mul]; omega
theorem list_of {α : Type} (n : Nat) (p : Nat → α → Prop) (h : ∀ i, i < n → ∃ x, p i x) : ∃ xs : List α, xs.length = n ∧ ∀ i x, xs[i]? = some x → p i x := by
  induction n with
  | zero => exact ⟨[], rfl, by simp⟩
  | succ n ih =>
    obtain ⟨xs, hl, hx⟩ := ih (fun i hi => h i (by omega))
    obtain ⟨y, hy⟩ := h n (by omega)
    refine ⟨xs ++ [y], by simp [hl], fun i x hi => ?_⟩
    by_cases hin : i < n
    · rw [List.getElem?_append_left (by omega)] at hi; exact hx i x hi
    · have hlt := (List.getElem?_eq_some_iff.1 hi).1
      simp only [List.length_append, List.length_singleton] at hlt
      obtain rfl : i = n := by omega
      rw [List.getElem?_append_right (by omega)] at hi
      simp [hl] at hi
      rw [← hi]; exact hy
theorem rows_open {H : Type} {enc : TypeId × Value → H} {P : Program} {W : World} {t e : TypeId} {v : Value} {d : DataW H} {p : List MemPlace} {α : Type} (f : α → List Value) (good : α → Prop) (n : Nat) (hn : 0 < n) (hf : ∀ x, (f x).length = n)
    (ht : P.underlying t = some (.slice e)) (hc : P.cellsOf e = n)
    (hel : ∀ (fuel : Nat) (cs : List Value) (x : DataW H × List MemPlace), DataW.trod enc P W 0 (fun _ => true) true fuel e cs = some x → ∃ y : α, cs = f y ∧ good y)
    (hv : ∃ A l c, v = .slice A l c) (h : DataW.Trod enc P W 0 (fun _ => true) true t v d p) :
    ∃ (A : Option Addr) (c : Nat) (xs : List α), v = .slice A xs.length c ∧ Slc W A (xs.flatMap f) ∧ xs.length ≤ c ∧ c ≤ maxLen ∧ (∀ x ∈ xs, good x) := by
  obtain ⟨A, l, c, rfl⟩ := hv
  obtain ⟨fuel, hfu⟩ := h
  rcases Deep.open_slice ht hfu with ⟨hcs, _⟩ | ⟨a, l', c', m, k, D, Pl, hcs, _, hl, hm, hmm, _, hi⟩
  · simp only [Value.cells, List.cons.injEq, Value.slice.injEq, and_true] at hcs
    obtain ⟨rfl, rfl, rfl⟩ := hcs
    exact ⟨none, 0, [], rfl, .inl rfl, Nat.le_refl _, Nat.zero_le _, by simp⟩
  · simp only [Value.cells, List.cons.injEq, Value.slice.injEq, and_true] at hcs
    obtain ⟨rfl, rfl, rfl⟩ := hcs
    simp only [if_true] at hmm
    subst hmm
    rw [hc] at hi
    obtain ⟨xs, hxl, hx⟩ := list_of l (fun i x => W.cells? 0 (a.add (i * n)) n = some (f x) ∧ good x) (fun i hil => by
      obtain ⟨cs', h1, h2⟩ := hi i (by omega)
      obtain ⟨y, rfl, hy⟩ := hel _ _ _ h2
      exact ⟨y, h1, hy⟩)
    refine ⟨some a, m, xs, by rw [hxl], ?_, by omega, hm, fun x hxm => ?_⟩
    · by_cases h0 : l = 0
      · left
        have : xs = [] := List.length_eq_zero_iff.1 (by omega)
        rw [this]; rfl
      · right
        have hcell : ∀ i x, xs[i]? = some x → ∀ j, j < n → W.cell? (a.add (i * n + j)) = (f x)[j]? := by
          intro i x hix j hj
          obtain ⟨_, _, h3⟩ := World.cells?_some (hx i x hix).1
          rw [← addr_twice]; exact h3 j hj
        obtain ⟨x0, hx0⟩ : ∃ x0, xs[0]? = some x0 := ⟨_, List.getElem?_eq_getElem (by omega)⟩
        have hc0 := hcell 0 x0 hx0 0 hn
        obtain ⟨v0, hv0⟩ : ∃ v0, (f x0)[0]? = some v0 := ⟨_, List.getElem?_eq_getElem (by rw [hf]; exact hn)⟩
        rw [hv0] at hc0
        obtain ⟨b, off, spot⟩ := a
        have hspot : spot = none := by simpa [Addr.add] using World.cell?_spot hc0
        subst hspot
        rw [addr_plus] at hc0
        refine ⟨b, off, rfl, World.block_lt_of_cell? W _ hc0, fun i u hu => ?_⟩
        have hiu := (List.getElem?_eq_some_iff.1 hu).1
        rw [flat_len f n hf, hxl] at hiu
        have hdiv : i / n * n + i % n = i := Nat.div_add_mod' i n
        have hq : i / n < xs.length := by rw [hxl]; exact (Nat.div_lt_iff_lt_mul hn).2 hiu
        have hr : i % n < n := Nat.mod_lt _ hn
        rw [← hdiv, flat_get f n hf xs _ _ hr, List.getElem?_eq_getElem hq] at hu
        have := hcell (i / n) _ (List.getElem?_eq_getElem hq) (i % n) hr
        rw [hdiv, addr_plus] at this
        rw [this]; exact hu
    · obtain ⟨i, hi⟩ := List.getElem?_of_mem hxm
      exact (hx i x hi).2
end Go.Proofs.YtcapaiiegfedmaaDoor
