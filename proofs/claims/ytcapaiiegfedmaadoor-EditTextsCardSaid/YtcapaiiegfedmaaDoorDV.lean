/- What edit.Read makes of a line's words, in plain Lean. -/
import Derived.Test.YtcapaiiegfedmaaDoorDW
namespace Go.Proofs.YtcapaiiegfedmaaDoor
open Go.RowKit Go.Shelf
def rd1 (k : Int) (ws : List Bs) : Bs × List Bs := popW (fromE k) ws.tail
def rd2 (k : Int) (ws : List Bs) : Bs × List Bs := popW (toE k) (rd1 k ws).2
def rd3 (k : Int) (ws : List Bs) : Bs × List Bs := popW (nE k) (rd2 k ws).2
def numN (k : Int) (n : Int) (ok : Bool) : Int := if nE k && ok then n else 0
theorem kind_of (s : Bs) (k j : Int) (hk : KindIs s k) (hw : wordE j = s) (hn : wordE j ≠ []) : k = j := by
  have hj : 1 ≤ j ∧ j ≤ 9 := by
    constructor
    · apply Classical.byContradiction; intro h
      apply hn
      by_cases h0 : j = 0
      · subst h0; rfl
      · exact wordE_out j (.inl (by omega))
    · apply Classical.byContradiction; intro h
      exact hn (wordE_out j (.inr (by omega)))
  rcases hk with ⟨_, h⟩ | ⟨i, rfl, _, _, h⟩
  · exact absurd (by rw [show ((j.toNat : Nat) : Int) = j by omega]; exact hw) (h j.toNat (by omega) (by omega))
  · exact (wordE_inj j (i : Int) hn (hw.trans h.symm)).symm
theorem read_line (k : Int) (f t : Bs) (m : Nat) (hr : rightE k f t (m : Int) = true) : rd1 k (wordsL k f t m) = (f, (if toE k then [t] else []) ++ (if nE k then [digB m] else [])) ∧ rd2 k (wordsL k f t m) = (t, (if nE k then [digB m] else [])) ∧ rd3 k (wordsL k f t m) = ((if nE k then digB m else []), []) := by
  obtain ⟨_, _, _, a4, a5, _⟩ := right_parts k f t _ hr
  unfold rd3 rd2 rd1 wordsL lineL popW headW
  cases hf : fromE k <;> cases ht : toE k <;> cases hn : nE k <;> simp only [hf, ht] at a4 a5 <;> simp at a4 a5 <;> simp [*]
theorem read_bad (line : Bs) (k n : Int) (ok : Bool) (hk : KindIs (headW (splS line)) k) (hn : NumE (rd3 k (splS line)).1 n ok)
    (h : (nE k = true ∧ ok = false) ∨ (rd3 k (splS line)).2 ≠ [] ∨ rightE k (rd1 k (splS line)).1 (rd2 k (splS line)).1 (numN k n ok) = false) : OneE line none := by
  intro j f t i hr he
  subst he
  have hw := line_words j f t i hr
  rw [hw] at hk hn h
  obtain ⟨m, rfl, hm, hm0⟩ := right_num j f t i hr
  simp only [Int.toNat_natCast] at hk hn h
  obtain rfl : k = j := kind_of _ k j hk (by unfold wordsL lineL headW; simp) (right_parts j f t _ hr).1
  obtain ⟨r1, r2, r3⟩ := read_line k f t m hr
  rw [r1, r2, r3] at h
  rw [r3] at hn
  simp only at h hn
  rcases h with ⟨h1, h2⟩ | h | h
  · rw [h1] at hn
    simp only [if_true] at hn
    exact hn.2 h2 m hm rfl
  · exact h rfl
  · have hN : numN k n ok = (m : Int) := by
      unfold numN
      cases hnk : nE k with
      | false => rw [hm0 hnk]; rfl
      | true =>
        rw [hnk] at hn
        simp only [if_true] at hn
        cases ok with
        | false => exact absurd rfl (hn.2 rfl m hm)
        | true =>
          obtain ⟨x, rfl, _, hx⟩ := hn.1 rfl
          have : x = m := by rw [← val_dig x, hx, val_dig]
          rw [this]; rfl
    rw [hN, hr] at h
    cases h
theorem pop_true (ws : List Bs) (h : (popW true ws).1 ≠ []) : ws = (popW true ws).1 :: (popW true ws).2 := by
  cases ws with
  | nil => exact absurd rfl h
  | cons x t => rfl
theorem pop_false (ws : List Bs) : popW false ws = ([], ws) := rfl
theorem read_good (line : Bs) (k n : Int) (ok : Bool) (hk : KindIs (headW (splS line)) k) (hn : NumE (rd3 k (splS line)).1 n ok) (h1 : nE k = true → ok = true) (h2 : (rd3 k (splS line)).2 = [])
    (h3 : rightE k (rd1 k (splS line)).1 (rd2 k (splS line)).1 (numN k n ok) = true) : OneE line (some (k, (rd1 k (splS line)).1, (rd2 k (splS line)).1, numN k n ok)) := by
  refine ⟨h3, ?_⟩
  show lineE k _ _ _ = line
  obtain ⟨p1, _, _, p4, p5, p6, p7⟩ := right_parts k _ _ _ h3
  have hw0 : wordE k = headW (splS line) := by
    rcases hk with ⟨rfl, _⟩ | ⟨i, rfl, _, _, h⟩
    · exact absurd rfl p1
    · exact h
  have hws : splS line = headW (splS line) :: (splS line).tail := by unfold headW; exact splS_eq line
  have hm : nE k = true → digB (numN k n ok).toNat = (rd3 k (splS line)).1 ∧ (rd3 k (splS line)).1 ≠ [] := fun hnk => by
    have hok := h1 hnk
    subst hok
    obtain ⟨x, rfl, _, hx⟩ := hn.1 rfl
    have : numN k (x : Int) true = (x : Int) := by unfold numN; rw [hnk]; rfl
    rw [this, Int.toNat_natCast, hx]
    exact ⟨rfl, by rw [← hx]; exact dig_ne x⟩
  have hl : wordsL k (rd1 k (splS line)).1 (rd2 k (splS line)).1 (numN k n ok).toNat = splS line := by
    unfold wordsL lineL
    rw [hw0]
    generalize hN : (numN k n ok).toNat = N at *
    have e3 : (rd2 k (splS line)).2 = if nE k then [digB N] else [] := by
      cases hnk : nE k with
      | true =>
        obtain ⟨a, b⟩ := hm hnk
        unfold rd3 at a b h2
        rw [hnk] at a b h2
        have := pop_true _ b
        rw [h2, ← a] at this
        exact this
      | false =>
        unfold rd3 at h2
        rw [hnk, pop_false] at h2
        exact h2
    have e2 : (rd1 k (splS line)).2 = (if toE k then [(rd2 k (splS line)).1] else []) ++ (rd2 k (splS line)).2 := by
      cases ht : toE k with
      | true =>
        have b := p7 ht
        unfold rd2 at b ⊢
        rw [ht] at b ⊢
        exact pop_true _ b
      | false =>
        unfold rd2
        rw [ht, pop_false]
        rfl
    have e1 : (splS line).tail = (if fromE k then [(rd1 k (splS line)).1] else []) ++ (rd1 k (splS line)).2 := by
      cases hf : fromE k with
      | true =>
        have b := p6 hf
        unfold rd1 at b ⊢
        rw [hf] at b ⊢
        exact pop_true _ b
      | false =>
        unfold rd1
        rw [hf, pop_false]
        rfl
    have e1' := e1
    rw [e2, e3] at e1'
    refine Eq.trans ?_ hws.symm
    rw [e1']
    simp [List.append_assoc]
  unfold lineE
  rw [if_pos h3, hl, glS_join, glS_splS]
end Go.Proofs.YtcapaiiegfedmaaDoor
