/- The range over a function whose round begins by laying a box (a loop variable that is a struct). -/
import Derived.Test.YtcapaiiegfedmaaRange
namespace Go.Proofs.Ytcapaiiegfedmaa
open Go.RowKit
attribute [local go_sem] Oper.semAt_some
theorem wp_range2 {α : Type} {P : Program} {g : Operand} {ps : Array Tmp} {assign body : Code} {Q : Exit → Act → World → Prop} {a : Act} {w : World}
    {gf : Nat} {lb : Array Value} (hg : a.eval g = .func (.func gf) #[] lb) (eg : ∀ args w, (callFunc gf args).run P w = .ok (.enter gf args) w)
    {enc : α → Array Value} {xs : List α} {row : Option Nat} {Ks : Nat → Prop} (hrow : ∀ r, row = some r → r < w.heap.size)
    (hseq : ∀ W, w.heap.size ≤ W.heap.size → (∀ k, k < w.heap.size → W.heap[k]? = w.heap[k]?) → Iter P gf lb enc xs row Ks W) (hps : ∀ x, (enc x).size = ps.size)
    (I : Nat → World → Prop) (Ix : Code → Nat → World → Prop) (hI : ∀ i A C, I i A → Turn w.heap.size row A C → I i C) (hIx : ∀ c i A C, Ix c i A → Turn w.heap.size row A C → Ix c i C)
    (h0 : I 0 w) (S : α → Nat → Act → World → Prop) (hS : ∀ x i a A C, S x i a A → Turn w.heap.size row A C → S x i a C)
    (hassign : ∀ (l i : Nat) (x : α) (W : World) (K : Act → World → Prop), xs[i]? = some x → w.heap.size ≤ W.heap.size → I i W → (∀ b W', Below W.heap.size W W' → S x i b W' → K b W') →
      assign.wpIn (Fence.wide.inRound l) 0 P (Exit.then K (fun _ _ _ => False)) { tmps := (ps.zip (enc x)).foldl (fun t (p, v) => t.setIfInBounds p v) a.tmps, defers := [] } W)
    (hbody : ∀ (l i : Nat) (x : α) (b : Act) (W : World), xs[i]? = some x → S x i b W → body.wpIn (Fence.wide.inRound l) 0 P (roundEnd Ks I Ix (i + 1) W) b W)
    (hdone : ∀ (D : Nat) (W : World), w.heap.size ≤ D → I xs.length W → W.heap[D]? = some (.deferred (some [])) → Q .normal { a with defers := { target := .collected D, args := #[] } :: a.defers } W)
    (hstop : ∀ (D : Nat) (c : Code) (i : Nat) (W : World), w.heap.size ≤ D → 0 < i → i ≤ xs.length → Ix c i W → W.heap[D]? = some (.deferred (some [])) → c.wpIn Fence.wide 0 P Q { a with defers := { target := .collected D, args := #[] } :: a.defers } W) :
    (Code.rangeFunc g ps assign body).wpIn Fence.wide 0 P Q a w := by
  refine wpIn_rangeFunc ?_
  intro fn hfn
  rw [show Fence.wide.round = none from rfl]
  obtain ⟨rec, hrec⟩ : ∃ rec : LoopState → Option Code → Loop, rec = fun st pe => { state := st, pending := pe, fn, tmps := a.tmps, params := ps, assign, body, defers := w.heap.size } := ⟨_, rfl⟩
  obtain ⟨W1, hW1⟩ : ∃ W1, (w.alloc (.deferred (some []))).alloc (.loop (rec .ready none)) = W1 := ⟨_, rfl⟩
  have hL1 : W1.heap[w.heap.size + 1]? = some (.loop (rec .ready none)) := by
    rw [← hW1]; have := World.alloc_heap_new (w.alloc (.deferred (some []))) (.loop (rec .ready none)); rwa [World.size_alloc] at this
  have hK1 : W1.heap[w.heap.size]? = some (.deferred (some [])) := by
    rw [← hW1]; exact (Below.heap_alloc _ _ _ (by simp)).trans (World.alloc_heap_new w _)
  have hb1 : Below w.heap.size w W1 := by
    rw [← hW1]; exact ((Below.refl _ w).alloc (Nat.le_refl _) _).alloc (by simp) _
  have hg1 : w.grownBy W1 row := ⟨hb1.os, hb1.tape, hb1.output, hb1.size, fun k hk _ => hb1.block k hk⟩
  have hI1 : I 0 W1 := hI 0 w W1 h0 (Turn.of_grownBy hg1 (Nat.le_refl _))
  have hrl : row ≠ some (w.heap.size + 1) := fun e => by have := hrow _ e; omega
  have hrd : row ≠ some w.heap.size := fun e => by have := hrow _ e; omega
  refine ⟨w.heap.size + 1, [{ target := .collected w.heap.size, args := #[] }], W1, { target := .fn (.func gf) lb, args := #[.func (.yield (w.heap.size + 1)) #[] #[]] }, W1, gf,
    #[.func (.yield (w.heap.size + 1)) #[] #[]] ++ lb, W1, ?_, ?_, ?_, ?_, fun h => by simp [Fence.wide] at h, ?_⟩
  · rw [← hW1, hrec]; exact run_enterLoop_outer _ _ _ _ _
  · simp only [resolve, hg]
    simp [go_sem]
  · intro f' _; trivial
  · simp [invoke, go_sem, eg]
  · refine (hseq W1 hb1.size hb1.block (w.heap.size + 1)
      (fun i W => I i W ∧ W.heap[w.heap.size + 1]? = some (.loop (rec .ready none)) ∧ W.heap[w.heap.size]? = some (.deferred (some [])) ∧ w.heap.size ≤ W.heap.size)
      (fun i W => ∃ c, Ix c i W ∧ W.heap[w.heap.size + 1]? = some (.loop (rec .done (some c))) ∧ W.heap[w.heap.size]? = some (.deferred (some [])) ∧ w.heap.size ≤ W.heap.size)
      ?_ ?_ ?_ ⟨hI1, hL1, hK1, hb1.size⟩).mono ?_
    · rintro i A C ⟨hi, hl, hd, hs⟩ hgr
      exact ⟨hI i A C hi (Turn.of_grownBy hgr hs), (hgr.block _ (Array.getElem?_eq_some_iff.1 hl).1 (fun e => hrl e.symm)).trans hl, (hgr.block _ (Array.getElem?_eq_some_iff.1 hd).1 (fun e => hrd e.symm)).trans hd, Nat.le_trans hs hgr.size⟩
    · rintro i A C ⟨c, hi, hl, hd, hs⟩ hgr
      exact ⟨c, hIx c i A C hi (Turn.of_grownBy hgr hs), (hgr.block _ (Array.getElem?_eq_some_iff.1 hl).1 (fun e => hrl e.symm)).trans hl, (hgr.block _ (Array.getElem?_eq_some_iff.1 hd).1 (fun e => hrd e.symm)).trans hd, Nat.le_trans hs hgr.size⟩
    · rintro i x W hx ⟨hi, hl, hk, hs⟩
      have hlt : w.heap.size + 1 < W.heap.size := (Array.getElem?_eq_some_iff.1 hl).1
      have hy := run_yield (P := P) (args := enc x) hl (by rw [hrec]; exact hps x)
      rw [hrec] at hy
      refine ⟨fn, _, assign, body, hy, roundIn_of_wpIn hfn (hassign _ i x W _ hx (by omega) hi (fun b' W' hbW hS' => ⟨_, run_beginRound (l := w.heap.size + 1) (?_ : W'.heap[w.heap.size + 1]? = some (.loop (rec .ready none))) (by rw [hrec]), ?_⟩))⟩
      · exact (hbW.block _ hlt).trans hl
      have hl' : W'.heap[w.heap.size + 1]? = some (.loop (rec .ready none)) := (hbW.block _ hlt).trans hl
      have hk' : W'.heap[w.heap.size]? = some (.deferred (some [])) := (hbW.block _ (by omega)).trans hk
      have hbs := hbW.size
      have hl2 : (W'.putObj (w.heap.size + 1) (.loop { rec .ready none with state := .busy })).heap[w.heap.size + 1]? = some (.loop { rec .ready none with state := .busy }) := World.putObj_heap_same (by omega)
      have hk2 : (W'.putObj (w.heap.size + 1) (.loop { rec .ready none with state := .busy })).heap[w.heap.size]? = some (.deferred (some [])) := (World.putObj_heap_other (by omega)).trans hk'
      refine wpIn_mono (hbody _ i x b' _ hx (hS x i b' _ _ hS' (Turn.putObj _ hl' rfl (by omega)))) ?_
      have fin : ∀ (jump : Option Code) (W3 : World), Calm Ks (W'.putObj (w.heap.size + 1) (.loop { rec .ready none with state := .busy })) W3 →
          (Instr.endRound (w.heap.size + 1) jump).run P W3 = .ok (.bool jump.isNone) (W3.putObj (w.heap.size + 1) (.loop (rec (if jump.isNone then .ready else .done) jump))) ∧
          W3.heap[w.heap.size + 1]? = some (.loop { rec .ready none with state := .busy }) ∧
          (W3.putObj (w.heap.size + 1) (.loop (rec (if jump.isNone then .ready else .done) jump))).heap[w.heap.size + 1]? = some (.loop (rec (if jump.isNone then .ready else .done) jump)) ∧
          (W3.putObj (w.heap.size + 1) (.loop (rec (if jump.isNone then .ready else .done) jump))).heap[w.heap.size]? = some (.deferred (some [])) ∧
          (∀ k o, k ≠ w.heap.size + 1 → W'.heap[k]? = some o → (o.isCells = false ∨ Ks k) → (W3.putObj (w.heap.size + 1) (.loop (rec (if jump.isNone then .ready else .done) jump))).heap[k]? = some o) ∧
          W'.heap.size ≤ (W3.putObj (w.heap.size + 1) (.loop (rec (if jump.isNone then .ready else .done) jump))).heap.size := fun jump W3 hk3 => by
        have hl3 := hk3.same _ _ hl2 (.inl rfl)
        have := run_endRound (P := P) jump hl3
        rw [hrec] at this ⊢
        refine ⟨this, by rw [hrec] at hl3; exact hl3, World.putObj_heap_same (Array.getElem?_eq_some_iff.1 hl3).1, (World.putObj_heap_other (by omega)).trans (hk3.same _ _ hk2 (.inl rfl)), fun k o hne ho hc => ?_, ?_⟩
        · exact (World.putObj_heap_other (by omega)).trans (hk3.same k o ((World.putObj_heap_other (by omega)).trans ho) hc)
        · have := hk3.size; simp at this ⊢; exact this
      rintro e a3 W3 hp
      cases e with
      | normal =>
        obtain ⟨hk3, hi3⟩ := hp
        obtain ⟨hr, hl3, hl4, hk4, hsm, hsz⟩ := fin none W3 hk3
        refine ⟨_, _, hr, .inl ⟨rfl, ⟨hI _ _ _ hi3 (Turn.putObj _ hl3 rfl (by omega)), hl4, hk4, by omega⟩, by omega, fun k o ho hc => ?_⟩⟩
        by_cases hkl : k = w.heap.size + 1
        · subst hkl
          rw [hl] at ho; cases ho
          exact hl4
        · exact hsm k o hkl ((hbW.block k (Array.getElem?_eq_some_iff.1 ho).1).trans ho) hc
      | ret =>
        obtain ⟨hk3, hi3⟩ := hp
        obtain ⟨hr, hl3, hl4, hk4, hsm, hsz⟩ := fin (some .ret) W3 hk3
        exact ⟨_, _, hr, .inr ⟨rfl, .ret, hIx _ _ _ _ hi3 (Turn.putObj _ hl3 rfl (by omega)), hl4, hk4, by omega⟩⟩
      | exit id =>
        obtain ⟨hk3, hi3⟩ := hp
        obtain ⟨hr, hl3, hl4, hk4, hsm, hsz⟩ := fin (some (.exit id)) W3 hk3
        exact ⟨_, _, hr, .inr ⟨rfl, .exit id, hIx _ _ _ _ hi3 (Turn.putObj _ hl3 rfl (by omega)), hl4, hk4, by omega⟩⟩
      | goto t =>
        obtain ⟨hk3, hi3⟩ := hp
        obtain ⟨hr, hl3, hl4, hk4, hsm, hsz⟩ := fin (some (.goto t)) W3 hk3
        exact ⟨_, _, hr, .inr ⟨rfl, .goto t, hIx _ _ _ _ hi3 (Turn.putObj _ hl3 rfl (by omega)), hl4, hk4, by omega⟩⟩
      | panic ch => exact hp.elim
      | outgrown => exact hp.elim
    · rintro e W2 ⟨⟨v, rfl⟩, (⟨hi, hl, hk, hs⟩ | ⟨i, h0i, hil, c, hi, hl, hk, hs⟩)⟩
      · exact ⟨none, _, by have := run_endLoop (P := P) hl (by rw [hrec]; simp); rw [hrec] at this; exact this, hdone _ _ (Nat.le_refl _) (hI _ _ _ hi (Turn.putObj _ hl rfl (by omega))) ((World.putObj_heap_other (by omega)).trans hk)⟩
      · exact ⟨some c, _, by have := run_endLoop (P := P) hl (by rw [hrec]; simp); rw [hrec] at this; exact this, hstop _ c i _ (Nat.le_refl _) h0i hil (hIx _ _ _ _ hi (Turn.putObj _ hl rfl (by omega))) ((World.putObj_heap_other (by omega)).trans hk)⟩

/-! ### how a function that holds such a loop ends -/
end Go.Proofs.Ytcapaiiegfedmaa
