/- paths.Ups: the paths that a path is under. -/
import Derived.Test.YtcapaiiegfedmaaDoorPathsQ
namespace Go.Proofs.YtcapaiiegfedmaaDoor
open Go.RowKit Go.Shelf
attribute [local go_sem] Oper.semAt_some
/-- what stands ahead of each slash -/
def fronts : Bs → Bs → List Bs
  | _, [] => []
  | a, c :: s => if c = 47 then a :: fronts (a ++ [c]) s else fronts (a ++ [c]) s
def upsL (p : Bs) : List Bs := if p = [] then [] else if rightB p then [] :: fronts [] p else []
theorem fronts_eq (a s : Bs) : fronts a s = (List.range ((split1 s).length - 1)).map (fun i => a ++ glue ((split1 s).take (i + 1))) := by
  induction s generalizing a with
  | nil => simp [fronts, split1]
  | cons c t ih =>
    have hpos : 0 < (split1 t).length := List.length_pos_iff.2 (split1_ne t)
    by_cases hc : c = 47
    · subst hc
      simp only [fronts, if_true, split1, ih, List.length_cons, Nat.add_sub_cancel]
      obtain ⟨n, hn⟩ : ∃ n, (split1 t).length = n + 1 := ⟨(split1 t).length - 1, by omega⟩
      rw [hn, Nat.add_sub_cancel, List.range_succ_eq_map, List.map_cons, List.map_map]
      congr 1
      · simp [glue]
      · apply List.map_congr_left
        intro i hi
        simp only [Function.comp, List.take_succ_cons]
        rw [glue_cons [] _ (by rw [ne_eq, List.take_eq_nil_iff]; intro h; rcases h with h | h; omega; exact split1_ne t h)]
        simp
    · simp only [fronts, if_neg hc, split1, ih, List.length_cons, List.length_tail]
      have : (split1 t).length - 1 + 1 - 1 = (split1 t).length - 1 := by omega
      rw [this]
      apply List.map_congr_left
      intro i hi
      rw [List.take_succ_cons, glue_head, split1_eq t]
      simp
theorem upsL_eq (p : Bs) : upsL p = (List.range (names p).length).map (fun i => glue ((names p).take i)) := by
  unfold upsL names
  by_cases hp : p = []
  · subst hp; rfl
  · rw [if_neg hp]
    cases hr : rightB p with
    | false => rfl
    | true =>
      simp only [if_true, fronts_eq, List.nil_append, cut_cons p hp]
      obtain ⟨n, hn⟩ : ∃ n, (split1 p).length = n + 1 := ⟨(split1 p).length - 1, by have := List.length_pos_iff.2 (split1_ne p); omega⟩
      rw [hn, Nat.add_sub_cancel, List.range_succ_eq_map, List.map_cons, List.map_map]
      rfl
theorem drop_next (s : ByteArray) (k : Nat) (h : k < s.size) : (L s).drop k = s[k] :: (L s).drop (k + 1) := by
  rw [drop_at (L s) k (by rw [L_len]; exact h)]; rfl
theorem wide_fn (f : FuncId) : Fence.wide.fn f := trivial
theorem grow_none {W W' : World} (h : Below W.heap.size W W') : W.grownBy W' none := ⟨h.os, h.tape, h.output, h.size, fun k hk _ => h.block k hk⟩
end Go.Proofs.YtcapaiiegfedmaaDoor
