/- A region that draws its order, walked in one order that the prover tells: what is taken first must yield in every world that meets a condition; each call is the only one that may come up. The order's checks are asked apart from the walk. -/
import Derived.Deep.RegionHeld3
import Derived.Great.Walk
import Derived.Test.YtcapaiiegfedmaaBase
namespace Go.Proofs.Ytcapaiiegfedmaa
open Go.RowKit
def updB (ls : Array Bool) (is : List Nat) : Array Bool := is.foldl (fun l i => l.setIfInBounds i true) ls
def orderP (ops : Array Oper) (calls : List Nat) : Array Bool → List Nat → Bool
  | _, [] => true
  | ls, i :: rest => (if calls.contains i then Region.ready .any ops ls == [i] else Region.free .any ops ls i && (Region.ready .any ops ls).contains i) && orderP ops calls (ls.setIfInBounds i true) rest
theorem orderP_app (ops : Array Oper) (calls : List Nat) (a b : List Nat) (ls : Array Bool) : orderP ops calls ls (a ++ b) = (orderP ops calls ls a && orderP ops calls (updB ls a) b) := by
  induction a generalizing ls with
  | nil => rfl
  | cons i t ih => rw [List.cons_append, orderP, ih, orderP, Bool.and_assoc]; rfl
section
variable (P : Program) (ops : Array Oper) (S : World → Prop) (Q : Exit → Act → World → Prop) (calls : List Nat)
def seqW : List Nat → Act → World → Prop
  | [], a, w => Q .normal a w
  | i :: rest, a, w => ∃ o, ops[i]? = some o ∧
    if calls.contains i then (if Region.wanted o (yielded ops a.tmps) then o.wp P a w (fun a' w' => S w' ∧ seqW rest a' w') Q else S w ∧ seqW rest (a.put o.dst undef) w)
    else ∃ v, YieldsIf P ops S o v a ∧ S w ∧ seqW rest (a.put o.dst v) w
/-- the same, the operations written beside their numbers -/
def seqL : List Nat → List (Option Oper) → Act → World → Prop
  | [], _, a, w => Q .normal a w
  | i :: rest, some o :: os, a, w =>
    if calls.contains i then (if Region.wanted o (yielded ops a.tmps) then o.wp P a w (fun a' w' => S w' ∧ seqL rest os a' w') Q else S w ∧ seqL rest os (a.put o.dst undef) w)
    else ∃ v, YieldsIf P ops S o v a ∧ S w ∧ seqL rest os (a.put o.dst v) w
  | _ :: _, _, _, _ => False
end
section
variable {P : Program} {ops : Array Oper} {S : World → Prop} {Q : Exit → Act → World → Prop} {calls : List Nat}
theorem seqL_list (is : List Nat) (a : Act) (w : World) (h : seqL P ops S Q calls is (is.map (fun i => ops[i]?)) a w) : seqW P ops S Q calls is a w := by
  induction is generalizing a w with
  | nil => exact h
  | cons i t ih =>
    rw [List.map_cons] at h
    cases ho : ops[i]? with
    | none => rw [ho] at h; exact h.elim
    | some o =>
      rw [ho] at h
      unfold seqL at h
      unfold seqW
      refine ⟨o, ho, ?_⟩
      cases hk : calls.contains i with
      | true =>
        rw [hk] at h
        simp only [if_true] at h ⊢
        cases hw : Region.wanted o (yielded ops a.tmps) with
        | true =>
          rw [hw] at h
          simp only [if_true] at h ⊢
          exact Oper.wp_mono (fun a' w' h' => ⟨h'.1, ih a' w' h'.2⟩) h
        | false =>
          rw [hw] at h
          simp only [Bool.false_eq_true, if_false] at h ⊢
          exact ⟨h.1, ih _ w h.2⟩
      | false =>
        rw [hk] at h
        simp only [Bool.false_eq_true, if_false] at h ⊢
        obtain ⟨v, hy, hS, hn⟩ := h
        exact ⟨v, hy, hS, ih _ w hn⟩
theorem seqL_take {i : Nat} {o : Oper} {rest : List Nat} {os : List (Option Oper)} {v : Value} {a : Act} {w : World} (hk : calls.contains i = false) (hy : YieldsIf P ops S o v a) (hS : S w) (h : seqL P ops S Q calls rest os (a.put o.dst v) w) :
    seqL P ops S Q calls (i :: rest) (some o :: os) a w := by
  unfold seqL
  rw [if_neg (by rw [hk]; simp)]
  exact ⟨v, hy, hS, h⟩
theorem seqL_call {i : Nat} {o : Oper} {rest : List Nat} {os : List (Option Oper)} {a : Act} {w : World} (hk : calls.contains i = true) (hw : Region.wanted o (yielded ops a.tmps) = true)
    (h : ∀ K : Act → World → Prop, Hid (∀ a' w', S w' → seqL P ops S Q calls rest os a' w' → K a' w') → o.wp P a w K Q) : seqL P ops S Q calls (i :: rest) (some o :: os) a w := by
  unfold seqL
  rw [if_pos hk, if_pos hw]
  exact h _ (show ∀ a' w', S w' → seqL P ops S Q calls rest os a' w' → S w' ∧ seqL P ops S Q calls rest os a' w' from fun a' w' h1 h2 => ⟨h1, h2⟩)
theorem seqL_done {a : Act} {w : World} (h : Q .normal a w) : seqL P ops S Q calls [] [] a w := h
theorem y_row {o : Oper} {a : Act} {t : TypeId} {x : Operand} (ho : o.op = .load t x) (hw : Region.wanted o (yielded ops a.tmps) = true) {b : Nat} (hx : a.eval x = .pointer (some ⟨b, 0, none⟩)) {cs : Array Value} {e : TypeId} {z : Nat × Nat} (hb : ∀ w, S w → w.heap[b]? = some (.cells cs e z))
    {d : TypeDesc} (hu : P.underlying t = some d) (hd : d.isRow = true) (hi : (P.info? t).map (·.size) = some cs.size) : YieldsIf P ops S o (.agg cs) a :=
  .inl ⟨hw, fun w hs => by
    unfold execOp
    simp only [ho, hx, Instr.loadAt, Instr.sureAddr, Sem.run_bind, Sem.run_pure, Result.andThen_ok, run_loadVar_row w b e t cs z d (hb w hs) hu (by cases d <;> first | rfl | exact hd) hi]⟩
theorem wpAnyH_of_seq (hs : Region.noSelect ops = true) (hQ : ∀ d v c a w, Q (.panic c) (Act.put a d v) w → Q (.panic c) a w) :
    ∀ (is : List Nat) (ls : Array Bool) (a : Act) (w : World), orderP ops calls ls is = true → Region.ready .any ops (updB ls is) = [] → seqW P ops S Q calls is a w → wpAnyH P .any ops Q S is.length ls a w := by
  intro is
  induction is with
  | nil => intro ls a w _ hr h; exact ⟨hr, h⟩
  | cons i t ih =>
    intro ls a w hc hr h
    unfold seqW at h
    obtain ⟨o, ho, h⟩ := h
    rw [orderP, Bool.and_eq_true] at hc
    obtain ⟨hc, hc'⟩ := hc
    have hr' : Region.ready .any ops (updB (ls.setIfInBounds i true) t) = [] := hr
    cases hk : calls.contains i with
    | true =>
      rw [hk] at h hc
      simp only [if_true, beq_iff_eq] at h hc
      refine wpAnyH_all hc (by simp) ?_
      intro j hj
      obtain rfl : j = i := by simpa using hj
      unfold wpOp
      simp only [ho]
      cases hw : Region.wanted o (yielded ops a.tmps) with
      | true =>
        rw [hw] at h
        rw [if_pos rfl]
        simp only [if_true] at h
        exact Or.inl (Oper.wp_mono (fun a' w' h' => ⟨h'.1, ih _ a' w' hc' hr' h'.2⟩) h)
      | false =>
        rw [hw] at h
        rw [if_neg (by simp)]
        simp only [Bool.false_eq_true, if_false] at h
        exact ⟨h.1, ih _ _ w hc' hr' h.2⟩
    | false =>
      rw [hk] at h hc
      simp only [Bool.false_eq_true, if_false, Bool.and_eq_true] at h hc
      obtain ⟨v, hy, hS, hn⟩ := h
      exact wpAnyH_take ho hs hc.1 hc.2 (fun c a w => hQ o.dst v c a w) hy hS (ih _ _ w hc' hr' hn)
end
end Go.Proofs.Ytcapaiiegfedmaa
