/- A range over a function whose iterator keeps what it has left in one box of its own (a captured variable): one law for the caller, one form of contract for the iterator. At the wide fence. -/
import Derived.RangeFuncNested
import Derived.RangeFuncBound
import Derived.RangeFuncCalls
import Derived.RangeFuncLeaves
import Derived.Shelf.Abstract
import Derived.Shelf.RegionOpen
import Derived.OwnWalkIn
import Derived.TacticsInMore
import Derived.LoopNIn
import Derived.LoopIn
import Derived.Test.YtcapaiiegfedmaaDoorBase
namespace Go.Proofs.YtcapaiiegfedmaaDoor
open Go.RowKit
attribute [local go_sem] Oper.semAt_some

/-- What may turn about the caller's facts: new blocks; the iterator's box; blocks from 'base' on that are no cells. -/
structure Turn (base : Nat) (row : Option Nat) (W W' : World) : Prop where
  os : W'.os = W.os
  tape : W'.tape = W.tape
  output : W'.output = W.output
  size : W.heap.size ≤ W'.heap.size
  low : ∀ k, k < base → some k ≠ row → W'.heap[k]? = W.heap[k]?
  cells : ∀ k o, W.heap[k]? = some o → o.isCells = true → some k ≠ row → W'.heap[k]? = some o
theorem Turn.refl (base : Nat) (row : Option Nat) (W : World) : Turn base row W W := ⟨rfl, rfl, rfl, Nat.le_refl _, fun _ _ _ => rfl, fun _ _ h _ _ => h⟩
theorem Turn.of_grownBy {base : Nat} {row : Option Nat} {W W' : World} (h : W.grownBy W' row) (hb : base ≤ W.heap.size) : Turn base row W W' :=
  ⟨h.os, h.tape, h.output, h.size, fun k hk hn => h.block k (by omega) hn, fun k o ho _ hn => (h.block k (Array.getElem?_eq_some_iff.1 ho).1 hn).trans ho⟩
theorem Turn.putObj {base : Nat} {row : Option Nat} {W : World} {l : Nat} {o : Obj} (o' : Obj) (hl : W.heap[l]? = some o) (ho : o.isCells = false) (hb : base ≤ l) : Turn base row W (W.putObj l o') :=
  ⟨rfl, rfl, rfl, by simp, fun k hk _ => World.putObj_heap_other (by omega), fun k x hx hc _ => by
    refine (World.putObj_heap_other ?_).trans hx
    rintro rfl
    rw [hl] at hx; cases hx; rw [ho] at hc; cases hc⟩
theorem Turn.below {base : Nat} {row : Option Nat} {W W' w : World} {n : Nat} (h : Turn base row W W') (hb : Below n w W) (hn : n ≤ base) (hr : ∀ r, row = some r → n ≤ r) : Below n w W' :=
  hb.trans ⟨h.os, h.tape, h.output, h.size, fun k hk => h.low k (by omega) (fun e => by have := hr k e.symm; omega)⟩
theorem Turn.heap {base : Nat} {row : Option Nat} {W W' : World} (h : Turn base row W W') {g : Nat} {cs : Array Value} {t : TypeId} {z : Nat × Nat} (hg : W.heap[g]? = some (.cells cs t z)) (hn : some g ≠ row) : W'.heap[g]? = some (.cells cs t z) :=
  h.cells g _ hg rfl hn
theorem Turn.owns {base : Nat} {row : Option Nat} {W W' : World} (h : Turn base row W W') {b : Nat} {e : TypeId} {size : Nat} {v : Value} {n : Nat} {xs : List Value} (ho : W.ownsRow b e size v n xs) (hr : ∀ r, row = some r → r < b) :
    W'.ownsRow b e size v n xs := by
  obtain ⟨h1, h2⟩ := ho
  refine ⟨h1, ?_⟩
  rcases h2 with h2 | ⟨g, cap, cur, hv, hg, hh, r⟩
  · exact .inl h2
  · exact .inr ⟨g, cap, cur, hv, hg, h.cells g _ hh rfl (fun e => by have := hr g e.symm; omega), r⟩

/-- What a round must keep: the blocks of Ks, and whatever is no cells. -/
structure Calm (Ks : Nat → Prop) (W W' : World) : Prop where
  size : W.heap.size ≤ W'.heap.size
  same : ∀ k o, W.heap[k]? = some o → (o.isCells = false ∨ Ks k) → W'.heap[k]? = some o
theorem Calm.refl (Ks : Nat → Prop) (W : World) : Calm Ks W W := ⟨Nat.le_refl _, fun _ _ h _ => h⟩
theorem Calm.trans {Ks : Nat → Prop} {A C D : World} (h : Calm Ks A C) (k : Calm Ks C D) : Calm Ks A D :=
  ⟨Nat.le_trans h.size k.size, fun i o hi ho => k.same i o (h.same i o hi ho) ho⟩
theorem Calm.alloc {Ks : Nat → Prop} {W C : World} (h : Calm Ks W C) (o : Obj) : Calm Ks W (C.alloc o) :=
  h.trans ⟨by simp, fun k _ hk _ => (Below.heap_alloc C o k (Array.getElem?_eq_some_iff.1 hk).1).trans hk⟩
theorem Calm.drew {Ks : Nat → Prop} {W C : World} (h : Calm Ks W C) : Calm Ks W C.drew := ⟨h.size, h.same⟩
theorem Calm.drewN {Ks : Nat → Prop} {W C : World} (h : Calm Ks W C) (n : Nat) : Calm Ks W (C.drewN n) := ⟨h.size, h.same⟩
theorem Calm.setCell {Ks : Nat → Prop} {W C : World} (h : Calm Ks W C) {a : Addr} (v : Value) (hr : ¬ Ks a.block) : Calm Ks W (C.setCell a v) :=
  h.trans ⟨(KeepsOthers.setCell C a v).size, fun k o hk ho => by
    by_cases e : k = a.block
    · subst e
      rcases ho with ho | ho
      · exact (KeepsOthers.setCell C a v).same _ o hk ho
      · exact absurd ho hr
    · exact (Below.heap_setCell C a v k e).trans hk⟩
theorem Calm.below {Ks : Nat → Prop} {W C D : World} (h : Calm Ks W C) (hb : Below C.heap.size C D) : Calm Ks W D :=
  h.trans ⟨hb.size, fun k o hk _ => (hb.block k (Array.getElem?_eq_some_iff.1 hk).1).trans hk⟩
theorem Calm.grown {Ks : Nat → Prop} {r : Option Nat} {W C D : World} (h : Calm Ks W C) (hg : C.grownBy D r) (hr : ∀ j o, r = some j → C.heap[j]? = some o → o.isCells = true ∧ ¬ Ks j) : Calm Ks W D :=
  h.trans ⟨hg.size, fun k o hk ho => by
    refine (hg.block k (Array.getElem?_eq_some_iff.1 hk).1 ?_).trans hk
    intro e
    obtain ⟨h1, h2⟩ := hr k o e.symm hk
    rcases ho with ho | ho
    · rw [h1] at ho; cases ho
    · exact h2 ho⟩

/-- AN ITERATOR's CONTRACT: it tells xs, in order, till a round says 'no more'; it turns its box (row) alone, and new blocks; a round keeps the blocks of Ks. -/
def Iter {α : Type} (P : Program) (gf : Nat) (lb : Array Value) (enc : α → Array Value) (xs : List α) (row : Option Nat) (Ks : Nat → Prop) (W : World) : Prop :=
  ∀ (l : Nat) (J Jx : Nat → World → Prop),
    (∀ i A C, J i A → A.grownBy C row → J i C) → (∀ i A C, Jx i A → A.grownBy C row → Jx i C) →
    (∀ i x A, xs[i]? = some x → J i A → YieldAt Fence.wide 0 P l (enc x) A fun e C => (e = .returned (.bool true) ∧ J (i + 1) C ∧ Calm Ks A C) ∨ (e = .returned (.bool false) ∧ Jx (i + 1) C)) →
    J 0 W →
    CallsIn Fence.wide 0 P gf (#[.func (.yield l) #[] #[]] ++ lb) W fun e C => (∃ v, e = .returned v) ∧ (J xs.length C ∨ ∃ i, 0 < i ∧ i ≤ xs.length ∧ Jx i C)

/-- HOW THE BODY OF A ROUND MAY BE LEFT. -/
def roundEnd (Ks : Nat → Prop) (I : Nat → World → Prop) (Ix : Code → Nat → World → Prop) (i : Nat) (W : World) : Exit → Act → World → Prop
  | .normal, _, W' => Calm Ks W W' ∧ I i W'
  | .ret, _, W' => Calm Ks W W' ∧ Ix .ret i W'
  | .exit id, _, W' => Calm Ks W W' ∧ Ix (.exit id) i W'
  | .goto t, _, W' => Calm Ks W W' ∧ Ix (.goto t) i W'
  | .panic _, _, _ => False
  | .outgrown, _, _ => False

theorem wp_range {α : Type} {P : Program} {g : Operand} {ps : Array Tmp} {assign body : Code} {Q : Exit → Act → World → Prop} {a : Act} {w : World}
    {gf : Nat} {lb : Array Value} (hg : a.eval g = .func (.func gf) #[] lb) (eg : ∀ args w, (callFunc gf args).run P w = .ok (.enter gf args) w)
    {enc : α → Array Value} {xs : List α} {row : Option Nat} {Ks : Nat → Prop} (hrow : ∀ r, row = some r → r < w.heap.size)
    (hseq : ∀ W, w.heap.size ≤ W.heap.size → (∀ k, k < w.heap.size → W.heap[k]? = w.heap[k]?) → Iter P gf lb enc xs row Ks W) (hps : ∀ x, (enc x).size = ps.size)
    (I : Nat → World → Prop) (Ix : Code → Nat → World → Prop) (hI : ∀ i A C, I i A → Turn w.heap.size row A C → I i C) (hIx : ∀ c i A C, Ix c i A → Turn w.heap.size row A C → Ix c i C)
    (h0 : I 0 w) (a₁ : α → Act)
    (hassign : ∀ (l : Nat) (x : α) (W : World) (K : Act → World → Prop), K (a₁ x) W →
      assign.wpIn (Fence.wide.inRound l) 0 P (Exit.then K (fun _ _ _ => False)) { tmps := (ps.zip (enc x)).foldl (fun t (p, v) => t.setIfInBounds p v) a.tmps, defers := [] } W)
    (hbody : ∀ (l i : Nat) (x : α) (W : World), xs[i]? = some x → I i W → body.wpIn (Fence.wide.inRound l) 0 P (roundEnd Ks I Ix (i + 1) W) (a₁ x) W)
    (hdone : ∀ (D : Nat) (W : World), w.heap.size ≤ D → I xs.length W → W.heap[D]? = some (.deferred (some [])) → Q .normal { a with defers := { target := .collected D, args := #[] } :: a.defers } W)
    (hstop : ∀ (D : Nat) (c : Code) (i : Nat) (W : World), w.heap.size ≤ D → 0 < i → i ≤ xs.length → Ix c i W → W.heap[D]? = some (.deferred (some [])) → c.wpIn Fence.wide 0 P Q { a with defers := { target := .collected D, args := #[] } :: a.defers } W) :
    (Code.rangeFunc g ps assign body).wpIn Fence.wide 0 P Q a w := by
  refine wpIn_rangeFunc ?_
  intro fn hfn
  rw [show Fence.wide.round = none from rfl]
  obtain ⟨rec, hrec⟩ : ∃ rec : LoopState → Option Code → Loop, rec = fun st pe => { state := st, pending := pe, fn, tmps := a.tmps, params := ps, assign, body, defers := w.heap.size } := ⟨_, rfl⟩
  obtain ⟨W1, hW1⟩ : ∃ W1, (w.alloc (.deferred (some []))).alloc (.loop (rec .ready none)) = W1 := ⟨_, rfl⟩
  have hL1 : W1.heap[w.heap.size + 1]? = some (.loop (rec .ready none)) := by
    rw [← hW1]; have := World.alloc_heap_new (w.alloc (.deferred (some []))) (.loop (rec .ready none)); rwa [World.size_alloc] at this
  have hK1 : W1.heap[w.heap.size]? = some (.deferred (some [])) := by
    rw [← hW1]; exact (Below.heap_alloc _ _ _ (by simp)).trans (World.alloc_heap_new w _)
  have hb1 : Below w.heap.size w W1 := by
    rw [← hW1]; exact ((Below.refl _ w).alloc (Nat.le_refl _) _).alloc (by simp) _
  have hg1 : w.grownBy W1 row := ⟨hb1.os, hb1.tape, hb1.output, hb1.size, fun k hk _ => hb1.block k hk⟩
  have hI1 : I 0 W1 := hI 0 w W1 h0 (Turn.of_grownBy hg1 (Nat.le_refl _))
  have hrl : row ≠ some (w.heap.size + 1) := fun e => by have := hrow _ e; omega
  have hrd : row ≠ some w.heap.size := fun e => by have := hrow _ e; omega
  refine ⟨w.heap.size + 1, [{ target := .collected w.heap.size, args := #[] }], W1, { target := .fn (.func gf) lb, args := #[.func (.yield (w.heap.size + 1)) #[] #[]] }, W1, gf,
    #[.func (.yield (w.heap.size + 1)) #[] #[]] ++ lb, W1, ?_, ?_, ?_, ?_, fun h => by simp [Fence.wide] at h, ?_⟩
  · rw [← hW1, hrec]; exact run_enterLoop_outer _ _ _ _ _
  · simp only [resolve, hg]
    simp [go_sem]
  · intro f' _; trivial
  · simp [invoke, go_sem, eg]
  · refine (hseq W1 hb1.size hb1.block (w.heap.size + 1)
      (fun i W => I i W ∧ W.heap[w.heap.size + 1]? = some (.loop (rec .ready none)) ∧ W.heap[w.heap.size]? = some (.deferred (some [])) ∧ w.heap.size ≤ W.heap.size)
      (fun i W => ∃ c, Ix c i W ∧ W.heap[w.heap.size + 1]? = some (.loop (rec .done (some c))) ∧ W.heap[w.heap.size]? = some (.deferred (some [])) ∧ w.heap.size ≤ W.heap.size)
      ?_ ?_ ?_ ⟨hI1, hL1, hK1, hb1.size⟩).mono ?_
    · rintro i A C ⟨hi, hl, hd, hs⟩ hgr
      exact ⟨hI i A C hi (Turn.of_grownBy hgr hs), (hgr.block _ (Array.getElem?_eq_some_iff.1 hl).1 (fun e => hrl e.symm)).trans hl, (hgr.block _ (Array.getElem?_eq_some_iff.1 hd).1 (fun e => hrd e.symm)).trans hd, Nat.le_trans hs hgr.size⟩
    · rintro i A C ⟨c, hi, hl, hd, hs⟩ hgr
      exact ⟨c, hIx c i A C hi (Turn.of_grownBy hgr hs), (hgr.block _ (Array.getElem?_eq_some_iff.1 hl).1 (fun e => hrl e.symm)).trans hl, (hgr.block _ (Array.getElem?_eq_some_iff.1 hd).1 (fun e => hrd e.symm)).trans hd, Nat.le_trans hs hgr.size⟩
    · rintro i x W hx ⟨hi, hl, hk, hs⟩
      have hlt : w.heap.size + 1 < W.heap.size := (Array.getElem?_eq_some_iff.1 hl).1
      have hy := run_yield (P := P) (args := enc x) hl (by rw [hrec]; exact hps x)
      rw [hrec] at hy
      refine ⟨fn, _, assign, body, hy, roundIn_of_wpIn hfn (hassign _ x W _ ⟨_, run_beginRound hl (by rw [hrec]), ?_⟩)⟩
      have hl2 : (W.putObj (w.heap.size + 1) (.loop { rec .ready none with state := .busy })).heap[w.heap.size + 1]? = some (.loop { rec .ready none with state := .busy }) := World.putObj_heap_same hlt
      have hk2 : (W.putObj (w.heap.size + 1) (.loop { rec .ready none with state := .busy })).heap[w.heap.size]? = some (.deferred (some [])) := (World.putObj_heap_other (by omega)).trans hk
      refine wpIn_mono (hbody _ i x _ hx (hI i _ _ hi (Turn.putObj _ hl rfl (by omega)))) ?_
      have fin : ∀ (jump : Option Code) (W3 : World), Calm Ks (W.putObj (w.heap.size + 1) (.loop { rec .ready none with state := .busy })) W3 →
          (Instr.endRound (w.heap.size + 1) jump).run P W3 = .ok (.bool jump.isNone) (W3.putObj (w.heap.size + 1) (.loop (rec (if jump.isNone then .ready else .done) jump))) ∧
          W3.heap[w.heap.size + 1]? = some (.loop { rec .ready none with state := .busy }) ∧
          (W3.putObj (w.heap.size + 1) (.loop (rec (if jump.isNone then .ready else .done) jump))).heap[w.heap.size + 1]? = some (.loop (rec (if jump.isNone then .ready else .done) jump)) ∧
          (W3.putObj (w.heap.size + 1) (.loop (rec (if jump.isNone then .ready else .done) jump))).heap[w.heap.size]? = some (.deferred (some [])) ∧
          (∀ k o, k ≠ w.heap.size + 1 → W.heap[k]? = some o → (o.isCells = false ∨ Ks k) → (W3.putObj (w.heap.size + 1) (.loop (rec (if jump.isNone then .ready else .done) jump))).heap[k]? = some o) ∧
          W.heap.size ≤ (W3.putObj (w.heap.size + 1) (.loop (rec (if jump.isNone then .ready else .done) jump))).heap.size := fun jump W3 hk3 => by
        have hl3 := hk3.same _ _ hl2 (.inl rfl)
        have := run_endRound (P := P) jump hl3
        rw [hrec] at this ⊢
        refine ⟨this, by rw [hrec] at hl3; exact hl3, World.putObj_heap_same (Array.getElem?_eq_some_iff.1 hl3).1, (World.putObj_heap_other (by omega)).trans (hk3.same _ _ hk2 (.inl rfl)), fun k o hne ho hc => ?_, ?_⟩
        · exact (World.putObj_heap_other (by omega)).trans (hk3.same k o ((World.putObj_heap_other (by omega)).trans ho) hc)
        · have := hk3.size; simp at this ⊢; exact this
      rintro e a3 W3 hp
      cases e with
      | normal =>
        obtain ⟨hk3, hi3⟩ := hp
        obtain ⟨hr, hl3, hl4, hk4, hsm, hsz⟩ := fin none W3 hk3
        refine ⟨_, _, hr, .inl ⟨rfl, ⟨hI _ _ _ hi3 (Turn.putObj _ hl3 rfl (by omega)), hl4, hk4, by omega⟩, hsz, fun k o ho hc => ?_⟩⟩
        by_cases hkl : k = w.heap.size + 1
        · subst hkl
          rw [hl] at ho; cases ho
          exact hl4
        · exact hsm k o hkl ho hc
      | ret =>
        obtain ⟨hk3, hi3⟩ := hp
        obtain ⟨hr, hl3, hl4, hk4, hsm, hsz⟩ := fin (some .ret) W3 hk3
        exact ⟨_, _, hr, .inr ⟨rfl, .ret, hIx _ _ _ _ hi3 (Turn.putObj _ hl3 rfl (by omega)), hl4, hk4, by omega⟩⟩
      | exit id =>
        obtain ⟨hk3, hi3⟩ := hp
        obtain ⟨hr, hl3, hl4, hk4, hsm, hsz⟩ := fin (some (.exit id)) W3 hk3
        exact ⟨_, _, hr, .inr ⟨rfl, .exit id, hIx _ _ _ _ hi3 (Turn.putObj _ hl3 rfl (by omega)), hl4, hk4, by omega⟩⟩
      | goto t =>
        obtain ⟨hk3, hi3⟩ := hp
        obtain ⟨hr, hl3, hl4, hk4, hsm, hsz⟩ := fin (some (.goto t)) W3 hk3
        exact ⟨_, _, hr, .inr ⟨rfl, .goto t, hIx _ _ _ _ hi3 (Turn.putObj _ hl3 rfl (by omega)), hl4, hk4, by omega⟩⟩
      | panic ch => exact hp.elim
      | outgrown => exact hp.elim
    · rintro e W2 ⟨⟨v, rfl⟩, (⟨hi, hl, hk, hs⟩ | ⟨i, h0i, hil, c, hi, hl, hk, hs⟩)⟩
      · exact ⟨none, _, by have := run_endLoop (P := P) hl (by rw [hrec]; simp); rw [hrec] at this; exact this, hdone _ _ (Nat.le_refl _) (hI _ _ _ hi (Turn.putObj _ hl rfl (by omega))) ((World.putObj_heap_other (by omega)).trans hk)⟩
      · exact ⟨some c, _, by have := run_endLoop (P := P) hl (by rw [hrec]; simp); rw [hrec] at this; exact this, hstop _ c i _ (Nat.le_refl _) h0i hil (hIx _ _ _ _ hi (Turn.putObj _ hl rfl (by omega))) ((World.putObj_heap_other (by omega)).trans hk)⟩

/-! ### how a function that holds such a loop ends -/
theorem end_plainM {P : Program} {fn : Func} {R : Ending → World → Prop} {a : Act} {w : World} {v : Value} (hd : a.defers = []) (hr : (results fn a.tmps).run P w = .ok v w) (hR : R (.returned v) w) :
    bodyPostM Fence.wide 0 P fn R .ret a w := by
  show LeavesInM Fence.wide 0 P fn a.tmps R a.defers .returning w
  rw [hd]
  exact ⟨v, hr, hR⟩
theorem end_markM {P : Program} {fn : Func} {R : Ending → World → Prop} {a : Act} {w : World} {v : Value} {D : Nat} (hd : a.defers = [{ target := .collected D, args := #[] }]) (hK : w.heap[D]? = some (.deferred (some [])))
    (hr : (results fn a.tmps).run P (w.putObj D (.deferred none)) = .ok v (w.putObj D (.deferred none))) (hR : R (.returned v) (w.putObj D (.deferred none))) :
    bodyPostM Fence.wide 0 P fn R .ret a w := by
  show LeavesInM Fence.wide 0 P fn a.tmps R a.defers .returning w
  rw [hd]
  exact ⟨by simp, .inl ⟨_, _, rfl, run_takeDeferred hK, ⟨v, hr, hR⟩⟩⟩
theorem Boxed.mark {W : World} {b : Nat} {t : TypeId} {v : Value} (h : Boxed W b t v) {D : Nat} (hK : W.heap[D]? = some (.deferred (some []))) : Boxed (W.putObj D (.deferred none)) b t v :=
  h.kept (grownBy_putObj' W D _) (fun e => by injection e with e; rw [← e, show W.heap[b]? = _ from h] at hK; cases hK)
theorem Turn.boxed {base : Nat} {row : Option Nat} {W W' : World} (h : Turn base row W W') {b : Nat} {t : TypeId} {v : Value} (hb : Boxed W b t v) (hn : some b ≠ row) : Boxed W' b t v := h.heap hb hn
theorem below_mark {n : Nat} {w W : World} {D : Nat} (h : Below n w W) (hn : n ≤ D) (hs : n ≤ W.heap.size) : Below n w (W.putObj D (.deferred none)) :=
  h.grown (grownBy_putObj' W D _) hs (fun k e => by cases e; exact hn)
end Go.Proofs.YtcapaiiegfedmaaDoor
