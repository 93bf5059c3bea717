/- Glob: the operations on a whole row; the sets of bytes. -/
import Derived.Test.YtcapaiiegfedmaaGD
namespace Go.Proofs.Ytcapaiiegfedmaa
open Go.RowKit Go.Shelf
section
variable {P : Program} {ops : Array Oper} {rest : List Oper} {o : Oper} {a : Act} {w : World} {Q : Exit → Act → World → Prop}
theorem step_new (dst : Nat) (hd : o.dst = some dst) (hg : o.guard = none) (t : TypeId) (ho : o.op = .alloc t) (z : Array Value) (n : Nat) (hz : (P.info? t).map (fun i => (i.zero, i.size)) = some (some (.agg z), n))
    (h : ∀ w', Hid (w'.heap[w.heap.size]? = some (.cells z t (0, 0))) → w.heap.size < w'.heap.size → Hid (Below w.heap.size w w') → wpList P ops Q rest (a.put (some dst) (.pointer (some ⟨w.heap.size, 0, none⟩))) w') : wpList P ops Q (o :: rest) a w := by
  refine Great.wpList_runTo hg (some dst) hd _ (w.alloc (.cells z t)) ?_ (h _ (Lib.hid (World.alloc_heap_new _ _)) (by simp) (Lib.hid ((Below.refl _ _).alloc (Nat.le_refl _) _)))
  cases hi : P.info? t with
  | none => simp [hi] at hz
  | some i =>
    simp only [hi, Option.map_some, Option.some.injEq, Prod.mk.injEq] at hz
    unfold execOp
    simp [ho, Instr.alloc, zeroValue, typeInfo, hi, hz.1, newVar, newRow, Value.cells]
theorem step_build (hg : o.guard = none) (t : TypeId) (parts : Array (Nat × Operand)) (ho : o.op = .build t parts) (l : List (Nat × Value)) (hl : parts.toList.map (fun (i, x) => (i, a.eval x)) = l) (cs : Array Value) (hb : P.built t l = some cs)
    (h : wpList P ops Q rest (a.put o.dst (.agg cs)) w) : wpList P ops Q (o :: rest) a w := by
  refine Great.wpList_runTo hg o.dst rfl _ _ ?_ h
  unfold execOp
  simp only [ho]
  rw [Sem.run_bind, run_build w t _ cs (by rw [Array.toList_map, hl]; exact hb)]
  rfl
theorem step_load (dst : Nat) (hdst : o.dst = some dst) (hg : o.guard = none) (t : TypeId) (x : Operand) (ho : o.op = .load t x) (b : Nat) (hx : a.eval x = .pointer (some ⟨b, 0, none⟩)) (cs : Array Value) (e : TypeId) (z : Nat × Nat) (hb : w.heap[b]? = some (.cells cs e z))
    (d : TypeDesc) (hu : P.underlying t = some d) (hd : d.isRow = true) (hi : (P.info? t).map (·.size) = some cs.size)
    (h : wpList P ops Q rest (a.put (some dst) (.agg cs)) w) : wpList P ops Q (o :: rest) a w := by
  refine Great.wpList_runTo hg (some dst) hdst _ _ ?_ h
  unfold execOp
  simp only [ho, hx, Instr.loadAt, Instr.sureAddr, Sem.run_bind, Sem.run_pure, Result.andThen_ok, run_loadVar_row w b e t cs z d hb hu (by cases d <;> first | rfl | exact hd) hi]
theorem step_store (hdst : o.dst = none) (hg : o.guard = none) (t : TypeId) (x y : Operand) (ho : o.op = .store t x y) (b : Nat) (hx : a.eval x = .pointer (some ⟨b, 0, none⟩)) (cs old : Array Value) (hy : a.eval y = .agg cs) (e : TypeId) (hb : w.heap[b]? = some (.cells old e (0, 0)))
    (hi : (P.info? t).map (·.size) = some cs.size) (hs : old.size = cs.size) (h1 : cs.all (·.oneCell') = true)
    (h : ∀ w', Hid (w'.heap[b]? = some (.cells cs e (0, 0))) → Hid (∀ n, n ≤ b → Below n w w') → wpList P ops Q rest a w') : wpList P ops Q (o :: rest) a w := by
  refine wpList_plain hg fun K hK => ?_
  unfold Oper.wp execOp
  simp only [ho, hx, hy, Instr.storeAt, Instr.sureAddr, Sem.run_bind, Sem.run_pure, Result.andThen_ok, run_storeVar_row w b e t old cs hb hi hs h1]
  have := h (w.setRow b cs) (Lib.hid (setRow_heap w b old cs e (0, 0) hb)) (Lib.hid (fun n hn =>
    ⟨rfl, rfl, rfl, by simp [World.setRow], fun k hk => by simp [World.setRow, Array.getElem?_modify]; intro e; omega⟩))
  have hq : a.put o.dst undef = a := by rw [hdst]; rfl
  show K (a.put o.dst undef) _
  rw [hq]
  exact hK _ _ this
end
theorem zero_set : (Try.prog.info? 171).map (fun i => (i.zero, i.size)) = some (some (.agg (rowV 256 (fun _ => false))), 256) := by rw [← rowV_zero]; exact info_set
theorem zero_part : (Try.prog.info? 173).map (fun i => (i.zero, i.size)) = some (some (.agg (rowV 257 (fun _ => false))), 257) := by rw [← rowV_zero]; exact info_part
theorem zero_cells : Try.zeroCells173 = rowV 257 (fun _ => false) := by rw [← rowV_zero]; kernel_rfl
theorem cell_row {w : World} {b n : Nat} {g : Nat → Bool} {e : TypeId} {z : Nat × Nat} (hb : w.heap[b]? = some (.cells (rowV n g) e z)) (k : Nat) (hk : k < n) : w.cell? ⟨b, k, none⟩ = some (.bool (g k)) := by
  simp [World.cell?, hb, rowV_get n g k hk]
theorem free_row {w : World} {b : Nat} {cs : Array Value} {e : TypeId} (hb : w.heap[b]? = some (.cells cs e (0, 0))) (k : Nat) : w.frozen? ⟨b, k, none⟩ = false := by
  simp [World.frozen?, hb]
theorem set_row {w : World} {b n : Nat} {g : Nat → Bool} {e : TypeId} {z : Nat × Nat} (hb : w.heap[b]? = some (.cells (rowV n g) e z)) (k : Nat) (v : Bool) : (w.setCell ⟨b, k, none⟩ (.bool v)).heap[b]? = some (.cells (rowV n (fun i => if i = k then v else g i)) e z) := by
  rw [← rowV_set]
  simp [World.setCell, Array.getElem?_modify, hb]
theorem cell_set_other (w : World) (b i k : Nat) (v : Value) (h : k ≠ b) : (w.setCell ⟨b, i, none⟩ v).heap[k]? = w.heap[k]? := by
  simp [World.setCell, Array.getElem?_modify, Ne.symm h]
theorem just_row (c : UInt8) : rowV 256 (fun i => if i = c.toNat then true else false) = setV (justB c) := by
  apply rowV_ext
  intro i hi
  unfold justB
  have : (i.toUInt8 == c) = decide (i = c.toNat) := by
    rw [Bool.eq_iff_iff, beq_iff_eq, decide_eq_true_eq]
    constructor
    · rintro rfl; simp; omega
    · rintro rfl; simp
  rw [this]
  by_cases h : i = c.toNat <;> simp [h]
theorem loaded_set {w : World} {b : Nat} {g : Nat → Bool} {e : TypeId} {z : Nat × Nat} (hb : w.heap[b]? = some (.cells (rowV 256 g) e z)) : (loadVar 171 ⟨b, 0, none⟩).run Try.prog w = .ok (.agg (rowV 256 g)) w :=
  run_loadVar_row w b e 171 (rowV 256 g) z _ hb Try.underlying171 rfl (size_row g)
theorem loaded_part {w : World} {b : Nat} {g : Nat → Bool} {e : TypeId} {z : Nat × Nat} (hb : w.heap[b]? = some (.cells (rowV 257 g) e z)) : (loadVar 173 ⟨b, 0, none⟩).run Try.prog w = .ok (.agg (rowV 257 g)) w :=
  run_loadVar_row w b e 173 (rowV 257 g) z _ hb Try.underlying173 rfl (size_part g)
theorem results_cell {fn : Func} {p : Tmp} {ty : TypeId} (h : fn.results = #[.cell p ty]) (tmps : Array Value) (P : Program) (w : World) (b : Nat) (v : Value) (hp : tmps.getD p undef = .pointer (some ⟨b, 0, none⟩)) (hl : (loadVar ty ⟨b, 0, none⟩).run P w = .ok v w) :
    (results fn tmps).run P w = .ok v w := by
  have hp' : tmps[p]?.getD undef = .pointer (some ⟨b, 0, none⟩) := by simpa using hp
  simp only [results, h]
  simp [Sem.run_bind, Result.andThen, hp', asAddr, hl]
theorem results_cell3 {fn : Func} {p u v : Tmp} {ty : TypeId} (h : fn.results = #[.cell p ty, .tmp u, .tmp v]) (tmps : Array Value) (P : Program) (w : World) (b : Nat) (x : Value) (hp : tmps.getD p undef = .pointer (some ⟨b, 0, none⟩)) (hl : (loadVar ty ⟨b, 0, none⟩).run P w = .ok x w) :
    (results fn tmps).run P w = .ok (.tuple #[x, tmps.getD u undef, tmps.getD v undef]) w := by
  have hp' : tmps[p]?.getD undef = .pointer (some ⟨b, 0, none⟩) := by simpa using hp
  simp only [results, h]
  simp [Sem.run_bind, Result.andThen, hp', asAddr, hl]
end Go.Proofs.Ytcapaiiegfedmaa
