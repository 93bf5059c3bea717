/- Glob: rows of booleans, sets of bytes and parts as the program holds them; the operations on a whole row. -/
import Derived.Test.YtcapaiiegfedmaaGB
import Derived.Test.YtcapaiiegfedmaaSlc
import Derived.Deep.MidRow
import Derived.Deep.WholeRow
import Derived.Great.Walk
import Derived.Laws.Tables
namespace Go.Proofs.Ytcapaiiegfedmaa
open Go.RowKit
/-- a row of booleans -/
def rowV (n : Nat) (g : Nat → Bool) : Array Value := ((List.range n).map (fun i => Value.bool (g i))).toArray
theorem rowV_size (n : Nat) (g : Nat → Bool) : (rowV n g).size = n := by simp [rowV]
theorem rowV_get (n : Nat) (g : Nat → Bool) (k : Nat) (h : k < n) : (rowV n g)[k]? = some (.bool (g k)) := by simp [rowV, h]
theorem rowV_ext (n : Nat) (g g' : Nat → Bool) (h : ∀ i, i < n → g i = g' i) : rowV n g = rowV n g' := by
  unfold rowV
  congr 1
  apply List.map_congr_left
  intro i hi
  rw [h i (List.mem_range.1 hi)]
theorem rowV_of (n : Nat) (g : Nat → Bool) (cs : Array Value) (hs : cs.size = n) (h : ∀ k, k < n → cs[k]? = some (.bool (g k))) : cs = rowV n g := by
  apply Array.ext_getElem?
  intro i
  by_cases hi : i < n
  · rw [h i hi, rowV_get n g i hi]
  · rw [Array.getElem?_eq_none (by omega), Array.getElem?_eq_none (by rw [rowV_size]; omega)]
theorem rowV_set (n : Nat) (g : Nat → Bool) (k : Nat) (v : Bool) : (rowV n g).setIfInBounds k (.bool v) = rowV n (fun i => if i = k then v else g i) := by
  apply rowV_of
  · simp [rowV_size]
  · intro j hj
    rw [Array.getElem?_setIfInBounds]
    by_cases h : k = j
    · subst h; simp [rowV_size, hj]
    · rw [if_neg h, rowV_get n g j hj, if_neg (fun e => h e.symm)]
theorem rowV_zero (n : Nat) : Array.replicate n (Value.bool false) = rowV n (fun _ => false) := by
  apply rowV_of
  · simp
  · intro k hk; simp [Array.getElem?_replicate, hk]
theorem rowV_all (n : Nat) (g : Nat → Bool) : (rowV n g).all (·.oneCell') = true := by
  rw [Array.all_eq_true_iff_forall_mem]
  intro x hx
  unfold rowV at hx
  rw [List.mem_toArray, List.mem_map] at hx
  obtain ⟨i, _, rfl⟩ := hx; rfl
theorem fold_list (off : Nat) (l : List Value) (n : Nat) (cells : Array Value) (h : off + n + l.length ≤ cells.size) (k : Nat) :
    ((l.zipIdx n).foldl (fun cs (x : Value × Nat) => cs.setIfInBounds (off + x.2) x.1) cells)[k]? = if off + n ≤ k ∧ k < off + n + l.length then l[k - (off + n)]? else cells[k]? := by
  induction l generalizing n cells with
  | nil =>
    have hk : ¬ (off + n ≤ k ∧ k < off + n + ([] : List Value).length) := by simp
    rw [if_neg hk]; rfl
  | cons c t ih =>
    simp only [List.length_cons] at h
    rw [List.zipIdx_cons, List.foldl_cons, ih (n + 1) _ (by simp; omega)]
    by_cases h1 : off + n = k
    · subst h1
      rw [if_neg (by omega), if_pos (by simp)]
      rw [Array.getElem?_setIfInBounds]
      simp; omega
    · by_cases h2 : off + n ≤ k ∧ k < off + n + (t.length + 1)
      · rw [if_pos (by omega), if_pos (by simpa using h2), show k - (off + n) = (k - (off + (n + 1))) + 1 by omega]; rfl
      · rw [if_neg (by omega), if_neg (by simpa using h2), Array.getElem?_setIfInBounds, if_neg h1]
theorem fold_array (v : Array Value) (off : Nat) (cells : Array Value) (h : off + v.size ≤ cells.size) (k : Nat) :
    (v.zipIdx.foldl (fun cs (x : Value × Nat) => cs.setIfInBounds (off + x.2) x.1) cells)[k]? = if off ≤ k ∧ k < off + v.size then v[k - off]? else cells[k]? := by
  have := fold_list off v.toList 0 cells (by simpa using h) k
  rw [← Array.foldl_toList, Array.toList_zipIdx]
  simpa using this
theorem fold_size (off : Nat) (l : List Value) (n : Nat) (cells : Array Value) : ((l.zipIdx n).foldl (fun cs (x : Value × Nat) => cs.setIfInBounds (off + x.2) x.1) cells).size = cells.size := by
  induction l generalizing n cells with
  | nil => rfl
  | cons c t ih => rw [List.zipIdx_cons, List.foldl_cons, ih]; simp
theorem fold_asize (v : Array Value) (off : Nat) (cells : Array Value) : (v.zipIdx.foldl (fun cs (x : Value × Nat) => cs.setIfInBounds (off + x.2) x.1) cells).size = cells.size := by
  have := fold_size off v.toList 0 cells
  rw [← Array.foldl_toList, Array.toList_zipIdx]; exact this
/-- a set of bytes, and a part -/
def setV (f : UInt8 → Bool) : Array Value := rowV 256 (fun i => f i.toUInt8)
def partV (p : Part) : Array Value := rowV 257 (fun i => if i < 256 then p.1 i.toUInt8 else p.2)
theorem setV_size (f : UInt8 → Bool) : (setV f).size = 256 := rowV_size _ _
theorem partV_size (p : Part) : (partV p).size = 257 := rowV_size _ _
theorem info_set : (Try.prog.info? 171).map (fun i => (i.zero, i.size)) = some (some (.agg (Array.replicate 256 (.bool false))), 256) := by kernel_rfl
theorem info_part : (Try.prog.info? 173).map (fun i => (i.zero, i.size)) = some (some (.agg (Array.replicate 257 (.bool false))), 257) := by kernel_rfl
theorem size_set (f : UInt8 → Bool) : (Try.prog.info? 171).map (·.size) = some (setV f).size := by rw [setV_size]; kernel_rfl
theorem size_row (g : Nat → Bool) : (Try.prog.info? 171).map (·.size) = some (rowV 256 g).size := by rw [rowV_size]; kernel_rfl
theorem size_part (g : Nat → Bool) : (Try.prog.info? 173).map (·.size) = some (rowV 257 g).size := by rw [rowV_size]; kernel_rfl
def laidIn (v : Array Value) (off : Nat) (cells : Array Value) : Array Value := v.zipIdx.foldl (fun cs (c, j) => cs.setIfInBounds (off + j) c) cells
theorem laidIn_eq (v : Array Value) (off : Nat) (cells : Array Value) : laidIn v off cells = v.zipIdx.foldl (fun cs (x : Value × Nat) => cs.setIfInBounds (off + x.2) x.1) cells := rfl
theorem fill_cons (pl : Nat → Option (Nat × Nat)) (cells : Array Value) (i : Nat) (v : Value) (rest : List (Nat × Value)) (off size : Nat) (hp : pl i = some (off, size)) (h1 : v.cells.size = size) (h2 : off + size ≤ cells.size) :
    Instr.fill pl cells ((i, v) :: rest) = Instr.fill pl (laidIn v.cells off cells) rest := by
  rw [Instr.fill, hp]
  simp only
  rw [if_neg (by simp [h1]; omega)]
  rfl
theorem laid_first (g : Nat → Bool) : laidIn (rowV 256 g) 0 (rowV 257 (fun _ => false)) = rowV 257 (fun i => if i < 256 then g i else false) := by
  apply rowV_of
  · rw [laidIn_eq, fold_asize, rowV_size]
  · intro k hk
    rw [laidIn_eq, fold_array _ _ _ (by rw [rowV_size, rowV_size]; omega), rowV_size]
    by_cases h : k < 256
    · rw [if_pos (by omega), Nat.sub_zero, rowV_get _ _ _ h, if_pos h]
    · rw [if_neg (by omega), rowV_get _ _ _ hk, if_neg h]
theorem laid_last (g : Nat → Bool) (m : Bool) : laidIn #[.bool m] 256 (rowV 257 g) = rowV 257 (fun i => if i < 256 then g i else m) := by
  have : laidIn #[.bool m] 256 (rowV 257 g) = (rowV 257 g).setIfInBounds 256 (.bool m) := rfl
  rw [this, rowV_set]
  apply rowV_ext
  intro i hi
  by_cases h : i < 256
  · rw [if_neg (by omega), if_pos h]
  · rw [if_pos (by omega), if_neg h]
def twoPlaces (i : Nat) : Option (Nat × Nat) := #[(0, 256), (256, 1)][i]?
theorem fill_two (g : Nat → Bool) (m : Bool) : Instr.fill twoPlaces (rowV 257 (fun _ => false)) [(0, .agg (rowV 256 g)), (1, .bool m)] = some (laidIn #[.bool m] 256 (laidIn (rowV 256 g) 0 (rowV 257 (fun _ => false)))) := by
  rw [fill_cons twoPlaces _ 0 (.agg (rowV 256 g)) _ 0 256 rfl (rowV_size 256 g) (by rw [rowV_size]; omega)]
  rw [fill_cons twoPlaces _ 1 (.bool m) _ 256 1 rfl rfl (by rw [show Value.cells (.agg (rowV 256 g)) = rowV 256 g from rfl, laid_first, rowV_size]; omega)]
  rw [Instr.fill]
  rw [show Value.cells (.agg (rowV 256 g)) = rowV 256 g from rfl, show Value.cells (.bool m) = #[.bool m] from rfl]
theorem fill_one (g : Nat → Bool) : Instr.fill twoPlaces (rowV 257 (fun _ => false)) [(0, .agg (rowV 256 g))] = some (laidIn (rowV 256 g) 0 (rowV 257 (fun _ => false))) := by
  rw [fill_cons twoPlaces _ 0 (.agg (rowV 256 g)) _ 0 256 rfl (rowV_size 256 g) (by rw [rowV_size]; omega), Instr.fill]
  rw [show Value.cells (.agg (rowV 256 g)) = rowV 256 g from rfl]
theorem build_with (g : Nat → Bool) (m : Bool) : Try.prog.built 173 [(0, .agg (rowV 256 g)), (1, .bool m)] = some (rowV 257 (fun i => if i < 256 then g i else m)) := by
  have h : Try.prog.built 173 [(0, .agg (rowV 256 g)), (1, .bool m)] = Instr.fill twoPlaces (Array.replicate 257 (.bool false)) [(0, .agg (rowV 256 g)), (1, .bool m)] := by kernel_rfl
  rw [h, rowV_zero, fill_two, laid_first, laid_last]
  refine congrArg some (rowV_ext _ _ _ fun i hi => ?_)
  by_cases h : i < 256
  · rw [if_pos h, if_pos h, if_pos h]
  · rw [if_neg h, if_neg h]
theorem build_row (g : Nat → Bool) : Try.prog.built 173 [(0, .agg (rowV 256 g))] = some (rowV 257 (fun i => if i < 256 then g i else false)) := by
  have h : Try.prog.built 173 [(0, .agg (rowV 256 g))] = Instr.fill twoPlaces (Array.replicate 257 (.bool false)) [(0, .agg (rowV 256 g))] := by kernel_rfl
  rw [h, rowV_zero, fill_one, laid_first]
theorem build_none : Try.prog.built 173 [] = some (rowV 257 (fun _ => false)) := by
  have h : Try.prog.built 173 [] = Instr.fill twoPlaces (Array.replicate 257 (.bool false)) [] := by kernel_rfl
  rw [h, rowV_zero]; rfl
end Go.Proofs.Ytcapaiiegfedmaa
