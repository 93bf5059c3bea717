/- Glob: skip. -/
import Derived.Test.YtcapaiiegfedmaaGJ
namespace Go.Proofs.Ytcapaiiegfedmaa
open Go.RowKit Go.Shelf
/-- all that was there is as it was, but for one block -/
def Grew (w : World) (b : Nat) (w' : World) : Prop := w'.os = w.os ∧ w'.tape = w.tape ∧ w'.output = w.output ∧ w.heap.size ≤ w'.heap.size ∧ ∀ j, j < w.heap.size → j ≠ b → w'.heap[j]? = w.heap[j]?
theorem Grew.refl (w : World) (b : Nat) : Grew w b w := ⟨rfl, rfl, rfl, Nat.le_refl _, fun _ _ _ => rfl⟩
theorem Grew.below {w w' w'' : World} {b : Nat} (h : Grew w b w') (hb : Below w'.heap.size w' w'') : Grew w b w'' :=
  ⟨hb.os.trans h.1, hb.tape.trans h.2.1, hb.output.trans h.2.2.1, Nat.le_trans h.2.2.2.1 hb.size, fun j hj hjb => (hb.block j (Nat.lt_of_lt_of_le hj h.2.2.2.1)).trans (h.2.2.2.2 j hj hjb)⟩
theorem Grew.set {w w' : World} {b : Nat} (h : Grew w b w') (k : Nat) (v : Value) : Grew w b (w'.setCell ⟨b, k, none⟩ v) :=
  ⟨h.1, h.2.1, h.2.2.1, by simpa [World.setCell] using h.2.2.2.1, fun j hj hjb => (cell_set_other w' b k j v hjb).trans (h.2.2.2.2 j hj hjb)⟩
theorem Grew.trans {w w' w'' : World} {b : Nat} (h : Grew w b w') (h2 : Grew w' b w'') : Grew w b w'' :=
  ⟨h2.1.trans h.1, h2.2.1.trans h.2.1, h2.2.2.1.trans h.2.2.1, Nat.le_trans h.2.2.2.1 h2.2.2.2.1, fun j hj hjb => (h2.2.2.2.2 j (Nat.lt_of_lt_of_le hj h.2.2.2.1) hjb).trans (h.2.2.2.2 j hj hjb)⟩
theorem Grew.to {w w' : World} {b n : Nat} (h : Grew w b w') (hn : n ≤ b) (hs : n ≤ w.heap.size) : Below n w w' :=
  ⟨h.1, h.2.1, h.2.2.1, h.2.2.2.1, fun j hj => h.2.2.2.2 j (by omega) (by omega)⟩
theorem Grew.slc {w w' : World} {b : Nat} {A : Option Addr} {cs : List Value} (h : Grew w b w') (hs : Slc w A cs) (hA : ∀ x, A = some x → x.block ≠ b) : Slc w' A cs := by
  rcases hs with hs | ⟨g, o, rfl, hlt, hc⟩
  · exact .inl hs
  · refine .inr ⟨g, o, rfl, Nat.lt_of_lt_of_le hlt h.2.2.2.1, fun i v hv => ?_⟩
    have := hc i v hv
    have hb := h.2.2.2.2 g hlt (hA _ rfl)
    unfold World.cell? at this ⊢
    simp only at this ⊢
    rw [hb]; exact this
theorem parts_range {w : World} {A : Option Addr} {l : List Part} (h : Slc w A (partsV l)) {k : Nat} {p : Part} (hk : l[k]? = some p) : ∃ b o, A = some ⟨b, o, none⟩ ∧ b < w.heap.size ∧ w.rangeAt b (o + k * 257) (partV p).toList := by
  have hkl := (List.getElem?_eq_some_iff.1 hk).1
  have hlen : ∀ q : Part, ((partV q).toList).length = 257 := fun q => by rw [Array.length_toList, partV_size]
  have hget : ∀ j, j < 257 → (partsV l)[k * 257 + j]? = (partV p).toList[j]? := by
    intro j hj
    clear h
    induction l generalizing k with
    | nil => simp at hkl
    | cons x t ih =>
      rw [show partsV (x :: t) = (partV x).toList ++ partsV t by unfold partsV; rw [List.flatMap_cons]]
      cases k with
      | zero =>
        rw [Nat.zero_mul, Nat.zero_add, List.getElem?_append_left (by rw [hlen]; exact hj)]
        simp at hk; rw [hk]
      | succ k =>
        rw [List.getElem?_append_right (by rw [hlen, Nat.succ_mul]; omega), hlen, show (k + 1) * 257 + j - 257 = k * 257 + j by rw [Nat.succ_mul]; omega]
        exact ih (by simpa using hk) (by simpa using hkl)
  rcases h with h | ⟨b, o, rfl, hlt, hc⟩
  · have := hget 0 (by omega)
    rw [h, List.getElem?_nil] at this
    rw [List.getElem?_eq_getElem (by rw [hlen]; omega)] at this
    cases this
  · refine ⟨b, o, rfl, hlt, fun j v hv => ?_⟩
    have hj : j < 257 := by have := (List.getElem?_eq_some_iff.1 hv).1; rw [hlen] at this; exact this
    rw [Nat.add_assoc]
    exact hc _ v ((hget j hj).trans hv)
section
variable {ops : Array Oper} {rest : List Oper} {o : Oper} {a : Act} {w : World} {Q : Exit → Act → World → Prop}
theorem step_part (dst : Nat) (hd : o.dst = some dst) (hg : o.guard = none) (x : Operand) (ho : o.op = .load 173 x) (b off : Nat) (hx : a.eval x = .pointer (some ⟨b, off, none⟩)) (p : Part) (hc : w.rangeAt b off (partV p).toList)
    (h : wpList Try.prog ops Q rest (a.put (some dst) (.agg (partV p))) w) : wpList Try.prog ops Q (o :: rest) a w := by
  refine Great.wpList_runTo hg (some dst) hd _ _ ?_ h
  unfold execOp
  have := run_loadAt_mid (P := Try.prog) w b off 173 (partV p).toList _ hc Try.underlying173 rfl (by rw [size_partV p]; simp)
  simp only [ho, hx]
  rw [Sem.run_bind, this]
  rfl
end
def skG (l : List Part) (g : Nat → Bool) : Nat → Bool
  | 0 => g 0
  | j + 1 => g (j + 1) || (skG l g j && manyAt l j)
def skRow (l : List Part) (g : Nat → Bool) (k : Nat) : Nat → Bool := fun i => if i ≤ k then skG l g i else g i
theorem sk_start (l : List Part) (g : Nat → Bool) (n : Nat) : rowV n g = rowV n (skRow l g 0) := by
  apply rowV_ext; intro i _; unfold skRow
  by_cases h : i ≤ 0
  · obtain rfl : i = 0 := by omega
    rw [if_pos h]; rfl
  · rw [if_neg h]
theorem sk_set (l : List Part) (g : Nat → Bool) (n k : Nat) (h : (skG l g k && manyAt l k) = true) : rowV n (fun i => if i = k + 1 then true else skRow l g k i) = rowV n (skRow l g (k + 1)) := by
  apply rowV_ext; intro i _; unfold skRow
  by_cases hi : i = k + 1
  · subst hi; rw [if_pos rfl, if_pos (Nat.le_refl _)]
    show true = (g (k + 1) || (skG l g k && manyAt l k)); rw [h]; simp
  · rw [if_neg hi]
    by_cases h2 : i ≤ k
    · rw [if_pos h2, if_pos (by omega)]
    · rw [if_neg h2, if_neg (by omega)]
theorem sk_keep (l : List Part) (g : Nat → Bool) (n k : Nat) (h : (skG l g k && manyAt l k) = false) : rowV n (skRow l g k) = rowV n (skRow l g (k + 1)) := by
  apply rowV_ext; intro i _; unfold skRow
  by_cases hi : i = k + 1
  · subst hi; rw [if_neg (by omega), if_pos (Nat.le_refl _)]
    show g (k + 1) = (g (k + 1) || (skG l g k && manyAt l k)); rw [h]; simp
  · by_cases h2 : i ≤ k
    · rw [if_pos h2, if_pos (by omega)]
    · rw [if_neg h2, if_neg (by omega)]
theorem sk_end (l : List Part) (g : Nat → Bool) (n : Nat) : rowV (n + 1) (skRow l g n) = rowV (n + 1) (skG l g) := by
  apply rowV_ext; intro i hi; unfold skRow; rw [if_pos (by omega)]
set_option maxRecDepth 100000 in
set_option maxHeartbeats 4000000 in
theorem skip_walk (A : Option Addr) (c : Nat) (l : List Part) (b cb : Nat) (g : Nat → Bool) (w : World) (hp : Slc w A (partsV l)) (hb : w.heap[b]? = some (.cells (rowV (l.length + 1) g) 4 (0, 0))) (hA : 0 < l.length → ∀ x, A = some x → x.block ≠ b) (hn : l.length ≤ 100000) (hcb : l.length + 1 ≤ cb) :
    Calls Try.prog 120 #[.agg #[.slice A l.length c], .slice (some ⟨b, 0, none⟩) (l.length + 1) cb] w fun e w' => e = .returned (.tuple #[]) ∧ w'.heap[b]? = some (.cells (rowV (l.length + 1) (skG l g)) 4 (0, 0)) ∧ Grew w b w' := by
  have HPP := Lib.hid hp
  have HBB := Lib.hid hb
  have hbs := (Array.getElem?_eq_some_iff.1 hb).1
  have HAA := Lib.hid hA
  clear hp hb hA
  go_enter Try.func120, Try.ntmps120
  go_wp2_with fail
  go_loopw [9] (fun i wr => ∃ k : Nat, k ≤ l.length ∧ i = .int .i64 k ∧ Hid (wr.heap[b]? = some (.cells (rowV (l.length + 1) (skRow l g k)) 4 (0, 0))) ∧ Hid (Grew w b wr)) (fun i _ => l.length - (intOf i).toNat)
  case atStart => exact ⟨0, Nat.zero_le _, rfl, by rw [← sk_start]; exact (Below.heap_alloc _ _ _ hbs).trans HBB.out, (Grew.refl w b).below ((Below.refl _ _).alloc (Nat.le_refl _) _)⟩
  case round =>
    obtain ⟨k, hk, rfl, HK, HG⟩ := hrel
    have hgs := HG.out.2.2.2.1
    by_cases hlt : k < l.length
    · obtain ⟨p, hpk⟩ : ∃ p, l[k]? = some p := ⟨_, List.getElem?_eq_getElem hlt⟩
      obtain ⟨pb, po, rfl, hpl, hpr⟩ := parts_range (HG.out.slc HPP.out (HAA.out (by omega))) hpk
      have HPR := Lib.hid hpr
      clear hpr
      have hm : manyAt l k = p.2 := by unfold manyAt; rw [hpk]; rfl
      have hsk : skRow l g k k = skG l g k := by unfold skRow; rw [if_pos (Nat.le_refl _)]
      have hsk1 : skRow l g k (k + 1) = g (k + 1) := by unfold skRow; rw [if_neg (by omega)]
      have HS1 := Lib.hid (sk_set l g (l.length + 1) k)
      have HS2 := Lib.hid (sk_keep l g (l.length + 1) k)
      rw [hm] at HS1 HS2
      have hi0 : (0 : Int) ≤ (k : Int) := Int.natCast_nonneg _
      have hi1 : (k : Int) < (l.length : Int) := by omega
      have hi2 : (k : Int) < (l.length : Int) + 1 := by omega
      have hi3 : (0 : Int) ≤ (k : Int) + 1 := by omega
      have hi4 : (k : Int) + 1 < (l.length : Int) + 1 := by omega
      clear hpk hm
      have hbw := Nat.lt_of_lt_of_le hbs hgs
      cases ha : skG l g k <;> cases hpm : p.2
      all_goals
        go_wp2_with (first
          | (refine step_part 13 rfl rfl _ rfl _ _ rfl p HPR.out ?_; simp only [Act.put, List.setIfInBounds_toArray, List.set_cons_zero, List.set_cons_succ])
          | (refine step_new 5 rfl rfl 173 rfl _ _ zero_part ?_; intro w3 HR3 hs3 HB3; simp only [Act.put, List.setIfInBounds_toArray, List.set_cons_zero, List.set_cons_succ])
          | (refine step_store rfl rfl 173 _ _ rfl _ rfl _ _ rfl _ HR3.out (size_partV _) (rows_same _) (all_partV _) ?_; intro w9 HX HB9; have HBN := Lib.hid (HB3.out.trans (HB9.out _ (Nat.le_refl _))); have HKN := Lib.hid ((HBN.out.block _ hbw).trans HK.out); have c1 := cell_row HKN.out k (by omega); rw [hsk, ha] at c1; have c2 := cell_row HX.out 256 (by omega); rw [if_neg (by omega), hpm] at c2; have c3 := cell_row HKN.out (k + 1) (by omega); rw [hsk1] at c3; have f3 := free_row HKN.out (k + 1)))
      all_goals first
        | (refine ⟨⟨k + 1, by omega, by go_num, by rw [← HS2.out (by rw [ha, hpm]; rfl)]; exact HKN.out, HG.out.below HBN.out⟩, by simp [intOf]; omega⟩)
        | (refine ⟨⟨k + 1, by omega, by go_num, by rw [← HS1.out (by rw [ha, hpm]; rfl)]; exact set_row HKN.out (k + 1) true, (HG.out.below HBN.out).set _ _⟩, by simp [intOf]; omega⟩)
    · obtain rfl : k = l.length := by omega
      rw [sk_end] at HK
      go_wp2_with fail
      refine bodyPost_end (results_none rfl _ _ _) rfl ?_
      exact ⟨rfl, HK.out, HG.out⟩
end Go.Proofs.Ytcapaiiegfedmaa
