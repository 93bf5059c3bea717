/- Glob: rows of booleans, sets of bytes and parts as the program holds them; the operations on a whole row. · Glob: the operations on a whole row; the sets of bytes. -/
import Derived.Deep.MidRow
import Derived.Deep.WholeRow
import Derived.Great.Walk
import Derived.Laws.Tables
import Derived.Test.YtcapaiiegfedmaaRt12
namespace Go.Proofs.Ytcapaiiegfedmaa
open Go.RowKit
/-- a row of booleans -/
def rowV (n : Nat) (g : Nat → Bool) : Array Value := ((List.range n).map (fun i => Value.bool (g i))).toArray
theorem rowV_size (n : Nat) (g : Nat → Bool) : (rowV n g).size = n := by simp [rowV]
theorem rowV_get (n : Nat) (g : Nat → Bool) (k : Nat) (h : k < n) : (rowV n g)[k]? = some (.bool (g k)) := by simp [rowV, h]
theorem rowV_ext (n : Nat) (g g' : Nat → Bool) (h : ∀ i, i < n → g i = g' i) : rowV n g = rowV n g' := by
  unfold rowV
  congr 1
  apply List.map_congr_left
  intro i hi
  rw [h i (List.mem_range.1 hi)]
theorem rowV_of (n : Nat) (g : Nat → Bool) (cs : Array Value) (hs : cs.size = n) (h : ∀ k, k < n → cs[k]? = some (.bool (g k))) : cs = rowV n g := by
  apply Array.ext_getElem?
  intro i
  by_cases hi : i < n
  · rw [h i hi, rowV_get n g i hi]
  · rw [Array.getElem?_eq_none (by omega), Array.getElem?_eq_none (by rw [rowV_size]; omega)]
theorem rowV_set (n : Nat) (g : Nat → Bool) (k : Nat) (v : Bool) : (rowV n g).setIfInBounds k (.bool v) = rowV n (fun i => if i = k then v else g i) := by
  apply rowV_of
  · simp [rowV_size]
  · intro j hj
    rw [Array.getElem?_setIfInBounds]
    by_cases h : k = j
    · subst h; simp [rowV_size, hj]
    · rw [if_neg h, rowV_get n g j hj, if_neg (fun e => h e.symm)]
theorem rowV_zero (n : Nat) : Array.replicate n (Value.bool false) = rowV n (fun _ => false) := by
  apply rowV_of
  · simp
  · intro k hk; simp [Array.getElem?_replicate, hk]
theorem rowV_all (n : Nat) (g : Nat → Bool) : (rowV n g).all (·.oneCell') = true := by
  rw [Array.all_eq_true_iff_forall_mem]
  intro x hx
  unfold rowV at hx
  rw [List.mem_toArray, List.mem_map] at hx
  obtain ⟨i, _, rfl⟩ := hx; rfl
theorem fold_list (off : Nat) (l : List Value) (n : Nat) (cells : Array Value) (h : off + n + l.length ≤ cells.size) (k : Nat) :
    ((l.zipIdx n).foldl (fun cs (x : Value × Nat) => cs.setIfInBounds (off + x.2) x.1) cells)[k]? = if off + n ≤ k ∧ k < off + n + l.length then l[k - (off + n)]? else cells[k]? := by
  induction l generalizing n cells with
  | nil =>
    have hk : ¬ (off + n ≤ k ∧ k < off + n + ([] : List Value).length) := by simp
    rw [if_neg hk]; rfl
  | cons c t ih =>
    simp only [List.length_cons] at h
    rw [List.zipIdx_cons, List.foldl_cons, ih (n + 1) _ (by simp; omega)]
    by_cases h1 : off + n = k
    · subst h1
      rw [if_neg (by omega), if_pos (by simp)]
      rw [Array.getElem?_setIfInBounds]
      simp; omega
    · by_cases h2 : off + n ≤ k ∧ k < off + n + (t.length + 1)
      · rw [if_pos (by omega), if_pos (by simpa using h2), show k - (off + n) = (k - (off + (n + 1))) + 1 by omega]; rfl
      · rw [if_neg (by omega), if_neg (by simpa using h2), Array.getElem?_setIfInBounds, if_neg h1]
theorem fold_array (v : Array Value) (off : Nat) (cells : Array Value) (h : off + v.size ≤ cells.size) (k : Nat) :
    (v.zipIdx.foldl (fun cs (x : Value × Nat) => cs.setIfInBounds (off + x.2) x.1) cells)[k]? = if off ≤ k ∧ k < off + v.size then v[k - off]? else cells[k]? := by
  have := fold_list off v.toList 0 cells (by simpa using h) k
  rw [← Array.foldl_toList, Array.toList_zipIdx]
  simpa using this
theorem fold_size (off : Nat) (l : List Value) (n : Nat) (cells : Array Value) : ((l.zipIdx n).foldl (fun cs (x : Value × Nat) => cs.setIfInBounds (off + x.2) x.1) cells).size = cells.size := by
  induction l generalizing n cells with
  | nil => rfl
  | cons c t ih => rw [List.zipIdx_cons, List.foldl_cons, ih]; simp
theorem fold_asize (v : Array Value) (off : Nat) (cells : Array Value) : (v.zipIdx.foldl (fun cs (x : Value × Nat) => cs.setIfInBounds (off + x.2) x.1) cells).size = cells.size := by
  have := fold_size off v.toList 0 cells
  rw [← Array.foldl_toList, Array.toList_zipIdx]; exact this
/-- a set of bytes, and a part -/
def setV (f : UInt8 → Bool) : Array Value := rowV 256 (fun i => f i.toUInt8)
def partV (p : Part) : Array Value := rowV 257 (fun i => if i < 256 then p.1 i.toUInt8 else p.2)
theorem setV_size (f : UInt8 → Bool) : (setV f).size = 256 := rowV_size _ _
theorem partV_size (p : Part) : (partV p).size = 257 := rowV_size _ _
theorem info_set : (Try.prog.info? 171).map (fun i => (i.zero, i.size)) = some (some (.agg (Array.replicate 256 (.bool false))), 256) := by kernel_rfl
theorem info_part : (Try.prog.info? 173).map (fun i => (i.zero, i.size)) = some (some (.agg (Array.replicate 257 (.bool false))), 257) := by kernel_rfl
theorem size_set (f : UInt8 → Bool) : (Try.prog.info? 171).map (·.size) = some (setV f).size := by rw [setV_size]; kernel_rfl
theorem size_row (g : Nat → Bool) : (Try.prog.info? 171).map (·.size) = some (rowV 256 g).size := by rw [rowV_size]; kernel_rfl
theorem size_part (g : Nat → Bool) : (Try.prog.info? 173).map (·.size) = some (rowV 257 g).size := by rw [rowV_size]; kernel_rfl
def laidIn (v : Array Value) (off : Nat) (cells : Array Value) : Array Value := v.zipIdx.foldl (fun cs (c, j) => cs.setIfInBounds (off + j) c) cells
theorem laidIn_eq (v : Array Value) (off : Nat) (cells : Array Value) : laidIn v off cells = v.zipIdx.foldl (fun cs (x : Value × Nat) => cs.setIfInBounds (off + x.2) x.1) cells := rfl
theorem fill_cons (pl : Nat → Option (Nat × Nat)) (cells : Array Value) (i : Nat) (v : Value) (rest : List (Nat × Value)) (off size : Nat) (hp : pl i = some (off, size)) (h1 : v.cells.size = size) (h2 : off + size ≤ cells.size) :
    Instr.fill pl cells ((i, v) :: rest) = Instr.fill pl (laidIn v.cells off cells) rest := by
  rw [Instr.fill, hp]
  simp only
  rw [if_neg (by simp [h1]; omega)]
  rfl
theorem laid_first (g : Nat → Bool) : laidIn (rowV 256 g) 0 (rowV 257 (fun _ => false)) = rowV 257 (fun i => if i < 256 then g i else false) := by
  apply rowV_of
  · rw [laidIn_eq, fold_asize, rowV_size]
  · intro k hk
    rw [laidIn_eq, fold_array _ _ _ (by rw [rowV_size, rowV_size]; omega), rowV_size]
    by_cases h : k < 256
    · rw [if_pos (by omega), Nat.sub_zero, rowV_get _ _ _ h, if_pos h]
    · rw [if_neg (by omega), rowV_get _ _ _ hk, if_neg h]
theorem laid_last (g : Nat → Bool) (m : Bool) : laidIn #[.bool m] 256 (rowV 257 g) = rowV 257 (fun i => if i < 256 then g i else m) := by
  have : laidIn #[.bool m] 256 (rowV 257 g) = (rowV 257 g).setIfInBounds 256 (.bool m) := rfl
  rw [this, rowV_set]
  apply rowV_ext
  intro i hi
  by_cases h : i < 256
  · rw [if_neg (by omega), if_pos h]
  · rw [if_pos (by omega), if_neg h]
def twoPlaces (i : Nat) : Option (Nat × Nat) := #[(0, 256), (256, 1)][i]?
theorem fill_two (g : Nat → Bool) (m : Bool) : Instr.fill twoPlaces (rowV 257 (fun _ => false)) [(0, .agg (rowV 256 g)), (1, .bool m)] = some (laidIn #[.bool m] 256 (laidIn (rowV 256 g) 0 (rowV 257 (fun _ => false)))) := by
  rw [fill_cons twoPlaces _ 0 (.agg (rowV 256 g)) _ 0 256 rfl (rowV_size 256 g) (by rw [rowV_size]; omega)]
  rw [fill_cons twoPlaces _ 1 (.bool m) _ 256 1 rfl rfl (by rw [show Value.cells (.agg (rowV 256 g)) = rowV 256 g from rfl, laid_first, rowV_size]; omega)]
  rw [Instr.fill]
  rw [show Value.cells (.agg (rowV 256 g)) = rowV 256 g from rfl, show Value.cells (.bool m) = #[.bool m] from rfl]
theorem fill_one (g : Nat → Bool) : Instr.fill twoPlaces (rowV 257 (fun _ => false)) [(0, .agg (rowV 256 g))] = some (laidIn (rowV 256 g) 0 (rowV 257 (fun _ => false))) := by
  rw [fill_cons twoPlaces _ 0 (.agg (rowV 256 g)) _ 0 256 rfl (rowV_size 256 g) (by rw [rowV_size]; omega), Instr.fill]
  rw [show Value.cells (.agg (rowV 256 g)) = rowV 256 g from rfl]
theorem build_with (g : Nat → Bool) (m : Bool) : Try.prog.built 173 [(0, .agg (rowV 256 g)), (1, .bool m)] = some (rowV 257 (fun i => if i < 256 then g i else m)) := by
  have h : Try.prog.built 173 [(0, .agg (rowV 256 g)), (1, .bool m)] = Instr.fill twoPlaces (Array.replicate 257 (.bool false)) [(0, .agg (rowV 256 g)), (1, .bool m)] := by kernel_rfl
  rw [h, rowV_zero, fill_two, laid_first, laid_last]
  refine congrArg some (rowV_ext _ _ _ fun i hi => ?_)
  by_cases h : i < 256
  · rw [if_pos h, if_pos h, if_pos h]
  · rw [if_neg h, if_neg h]
theorem build_row (g : Nat → Bool) : Try.prog.built 173 [(0, .agg (rowV 256 g))] = some (rowV 257 (fun i => if i < 256 then g i else false)) := by
  have h : Try.prog.built 173 [(0, .agg (rowV 256 g))] = Instr.fill twoPlaces (Array.replicate 257 (.bool false)) [(0, .agg (rowV 256 g))] := by kernel_rfl
  rw [h, rowV_zero, fill_one, laid_first]
theorem build_none : Try.prog.built 173 [] = some (rowV 257 (fun _ => false)) := by
  have h : Try.prog.built 173 [] = Instr.fill twoPlaces (Array.replicate 257 (.bool false)) [] := by kernel_rfl
  rw [h, rowV_zero]; rfl
end Go.Proofs.Ytcapaiiegfedmaa
namespace Go.Proofs.Ytcapaiiegfedmaa
open Go.RowKit Go.Shelf
section
variable {P : Program} {ops : Array Oper} {rest : List Oper} {o : Oper} {a : Act} {w : World} {Q : Exit → Act → World → Prop}
theorem step_new (dst : Nat) (hd : o.dst = some dst) (hg : o.guard = none) (t : TypeId) (ho : o.op = .alloc t) (z : Array Value) (n : Nat) (hz : (P.info? t).map (fun i => (i.zero, i.size)) = some (some (.agg z), n))
    (h : ∀ w', Hid (w'.heap[w.heap.size]? = some (.cells z t (0, 0))) → w.heap.size < w'.heap.size → Hid (Below w.heap.size w w') → wpList P ops Q rest (a.put (some dst) (.pointer (some ⟨w.heap.size, 0, none⟩))) w') : wpList P ops Q (o :: rest) a w := by
  refine Great.wpList_runTo hg (some dst) hd _ (w.alloc (.cells z t)) ?_ (h _ (Lib.hid (World.alloc_heap_new _ _)) (by simp) (Lib.hid ((Below.refl _ _).alloc (Nat.le_refl _) _)))
  cases hi : P.info? t with
  | none => simp [hi] at hz
  | some i =>
    simp only [hi, Option.map_some, Option.some.injEq, Prod.mk.injEq] at hz
    unfold execOp
    simp [ho, Instr.alloc, zeroValue, typeInfo, hi, hz.1, newVar, newRow, Value.cells]
theorem step_build (hg : o.guard = none) (t : TypeId) (parts : Array (Nat × Operand)) (ho : o.op = .build t parts) (l : List (Nat × Value)) (hl : parts.toList.map (fun (i, x) => (i, a.eval x)) = l) (cs : Array Value) (hb : P.built t l = some cs)
    (h : wpList P ops Q rest (a.put o.dst (.agg cs)) w) : wpList P ops Q (o :: rest) a w := by
  refine Great.wpList_runTo hg o.dst rfl _ _ ?_ h
  unfold execOp
  simp only [ho]
  rw [Sem.run_bind, run_build w t _ cs (by rw [Array.toList_map, hl]; exact hb)]
  rfl
theorem step_load (dst : Nat) (hdst : o.dst = some dst) (hg : o.guard = none) (t : TypeId) (x : Operand) (ho : o.op = .load t x) (b : Nat) (hx : a.eval x = .pointer (some ⟨b, 0, none⟩)) (cs : Array Value) (e : TypeId) (z : Nat × Nat) (hb : w.heap[b]? = some (.cells cs e z))
    (d : TypeDesc) (hu : P.underlying t = some d) (hd : d.isRow = true) (hi : (P.info? t).map (·.size) = some cs.size)
    (h : wpList P ops Q rest (a.put (some dst) (.agg cs)) w) : wpList P ops Q (o :: rest) a w := by
  refine Great.wpList_runTo hg (some dst) hdst _ _ ?_ h
  unfold execOp
  simp only [ho, hx, Instr.loadAt, Instr.sureAddr, Sem.run_bind, Sem.run_pure, Result.andThen_ok, run_loadVar_row w b e t cs z d hb hu (by cases d <;> first | rfl | exact hd) hi]
theorem step_store (hdst : o.dst = none) (hg : o.guard = none) (t : TypeId) (x y : Operand) (ho : o.op = .store t x y) (b : Nat) (hx : a.eval x = .pointer (some ⟨b, 0, none⟩)) (cs old : Array Value) (hy : a.eval y = .agg cs) (e : TypeId) (hb : w.heap[b]? = some (.cells old e (0, 0)))
    (hi : (P.info? t).map (·.size) = some cs.size) (hs : old.size = cs.size) (h1 : cs.all (·.oneCell') = true)
    (h : ∀ w', Hid (w'.heap[b]? = some (.cells cs e (0, 0))) → Hid (∀ n, n ≤ b → Below n w w') → wpList P ops Q rest a w') : wpList P ops Q (o :: rest) a w := by
  refine wpList_plain hg fun K hK => ?_
  unfold Oper.wp execOp
  simp only [ho, hx, hy, Instr.storeAt, Instr.sureAddr, Sem.run_bind, Sem.run_pure, Result.andThen_ok, run_storeVar_row w b e t old cs hb hi hs h1]
  have := h (w.setRow b cs) (Lib.hid (setRow_heap w b old cs e (0, 0) hb)) (Lib.hid (fun n hn =>
    ⟨rfl, rfl, rfl, by simp [World.setRow], fun k hk => by simp [World.setRow, Array.getElem?_modify]; intro e; omega⟩))
  have hq : a.put o.dst undef = a := by rw [hdst]; rfl
  show K (a.put o.dst undef) _
  rw [hq]
  exact hK _ _ this
end
theorem zero_set : (Try.prog.info? 171).map (fun i => (i.zero, i.size)) = some (some (.agg (rowV 256 (fun _ => false))), 256) := by rw [← rowV_zero]; exact info_set
theorem zero_part : (Try.prog.info? 173).map (fun i => (i.zero, i.size)) = some (some (.agg (rowV 257 (fun _ => false))), 257) := by rw [← rowV_zero]; exact info_part
theorem zero_cells : Try.zeroCells173 = rowV 257 (fun _ => false) := by rw [← rowV_zero]; kernel_rfl
theorem cell_row {w : World} {b n : Nat} {g : Nat → Bool} {e : TypeId} {z : Nat × Nat} (hb : w.heap[b]? = some (.cells (rowV n g) e z)) (k : Nat) (hk : k < n) : w.cell? ⟨b, k, none⟩ = some (.bool (g k)) := by
  simp [World.cell?, hb, rowV_get n g k hk]
theorem free_row {w : World} {b : Nat} {cs : Array Value} {e : TypeId} (hb : w.heap[b]? = some (.cells cs e (0, 0))) (k : Nat) : w.frozen? ⟨b, k, none⟩ = false := by
  simp [World.frozen?, hb]
theorem set_row {w : World} {b n : Nat} {g : Nat → Bool} {e : TypeId} {z : Nat × Nat} (hb : w.heap[b]? = some (.cells (rowV n g) e z)) (k : Nat) (v : Bool) : (w.setCell ⟨b, k, none⟩ (.bool v)).heap[b]? = some (.cells (rowV n (fun i => if i = k then v else g i)) e z) := by
  rw [← rowV_set]
  simp [World.setCell, Array.getElem?_modify, hb]
theorem cell_set_other (w : World) (b i k : Nat) (v : Value) (h : k ≠ b) : (w.setCell ⟨b, i, none⟩ v).heap[k]? = w.heap[k]? := by
  simp [World.setCell, Array.getElem?_modify, Ne.symm h]
theorem just_row (c : UInt8) : rowV 256 (fun i => if i = c.toNat then true else false) = setV (justB c) := by
  apply rowV_ext
  intro i hi
  unfold justB
  have : (i.toUInt8 == c) = decide (i = c.toNat) := by
    rw [Bool.eq_iff_iff, beq_iff_eq, decide_eq_true_eq]
    constructor
    · rintro rfl; simp; omega
    · rintro rfl; simp
  rw [this]
  by_cases h : i = c.toNat <;> simp [h]
theorem loaded_set {w : World} {b : Nat} {g : Nat → Bool} {e : TypeId} {z : Nat × Nat} (hb : w.heap[b]? = some (.cells (rowV 256 g) e z)) : (loadVar 171 ⟨b, 0, none⟩).run Try.prog w = .ok (.agg (rowV 256 g)) w :=
  run_loadVar_row w b e 171 (rowV 256 g) z _ hb Try.underlying171 rfl (size_row g)
theorem loaded_part {w : World} {b : Nat} {g : Nat → Bool} {e : TypeId} {z : Nat × Nat} (hb : w.heap[b]? = some (.cells (rowV 257 g) e z)) : (loadVar 173 ⟨b, 0, none⟩).run Try.prog w = .ok (.agg (rowV 257 g)) w :=
  run_loadVar_row w b e 173 (rowV 257 g) z _ hb Try.underlying173 rfl (size_part g)
theorem results_cell {fn : Func} {p : Tmp} {ty : TypeId} (h : fn.results = #[.cell p ty]) (tmps : Array Value) (P : Program) (w : World) (b : Nat) (v : Value) (hp : tmps.getD p undef = .pointer (some ⟨b, 0, none⟩)) (hl : (loadVar ty ⟨b, 0, none⟩).run P w = .ok v w) :
    (results fn tmps).run P w = .ok v w := by
  have hp' : tmps[p]?.getD undef = .pointer (some ⟨b, 0, none⟩) := by simpa using hp
  simp only [results, h]
  simp [Sem.run_bind, Result.andThen, hp', asAddr, hl]
theorem results_cell3 {fn : Func} {p u v : Tmp} {ty : TypeId} (h : fn.results = #[.cell p ty, .tmp u, .tmp v]) (tmps : Array Value) (P : Program) (w : World) (b : Nat) (x : Value) (hp : tmps.getD p undef = .pointer (some ⟨b, 0, none⟩)) (hl : (loadVar ty ⟨b, 0, none⟩).run P w = .ok x w) :
    (results fn tmps).run P w = .ok (.tuple #[x, tmps.getD u undef, tmps.getD v undef]) w := by
  have hp' : tmps[p]?.getD undef = .pointer (some ⟨b, 0, none⟩) := by simpa using hp
  simp only [results, h]
  simp [Sem.run_bind, Result.andThen, hp', asAddr, hl]
end Go.Proofs.Ytcapaiiegfedmaa
