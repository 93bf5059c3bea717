/- Words between blanks; what strings.Split gives. -/
import Derived.Test.YtcapaiiegfedmaaDoorDB
namespace Go.Proofs.YtcapaiiegfedmaaDoor
open Go.RowKit Go.Shelf
def splS : Bs → List Bs
  | [] => [[]]
  | c :: s => if c = 32 then [] :: splS s else (c :: (splS s).headD []) :: (splS s).tail
def glS : List Bs → Bs
  | [] => []
  | [a] => a
  | a :: b :: l => a ++ 32 :: glS (b :: l)

theorem splS_ne (s : Bs) : splS s ≠ [] := by cases s <;> simp [splS]; split <;> simp
theorem splS_eq (s : Bs) : splS s = (splS s).headD [] :: (splS s).tail := by
  cases h : splS s with
  | nil => exact absurd h (splS_ne s)
  | cons a l => simp
theorem splS_no (a : Bs) (h : 32 ∉ a) : splS a = [a] := by
  induction a with
  | nil => rfl
  | cons c s ih =>
    have hc : c ≠ 32 := fun e => h (by simp [e])
    have := ih (fun m => h (by simp [m]))
    simp [splS, hc, this]
theorem splS_app (a s : Bs) : splS (a ++ 32 :: s) = splS a ++ splS s := by
  induction a with
  | nil => simp [splS]
  | cons c t ih =>
    by_cases hc : c = 32
    · simp [splS, hc, ih]
    · simp only [List.cons_append, splS, hc, if_false, ih]
      rw [splS_eq t]; simp
theorem splS_blank (a s : Bs) (h : 32 ∉ a) : splS (a ++ 32 :: s) = a :: splS s := by
  rw [splS_app, splS_no a h]; rfl
theorem splS_snoc (a : Bs) (c : UInt8) (h : c ≠ 32) : splS (a ++ [c]) = (splS a).dropLast ++ [(splS a).getLastD [] ++ [c]] := by
  induction a with
  | nil => simp [splS, h]
  | cons d t ih =>
    have hne := splS_ne t
    by_cases hd : d = 32
    · subst hd
      simp only [List.cons_append, splS, if_true, ih]
      generalize splS t = x at hne ih ⊢
      cases x with
      | nil => exact absurd rfl hne
      | cons x l => simp
    · simp only [List.cons_append, splS, hd, if_false, ih]
      generalize splS t = x at hne ih ⊢
      cases x with
      | nil => exact absurd rfl hne
      | cons x l =>
        cases l with
        | nil => simp
        | cons y m => simp
theorem splS_nosep (s : Bs) : ∀ n ∈ splS s, 32 ∉ n := by
  induction s with
  | nil => simp [splS]
  | cons c t ih =>
    by_cases hc : c = 32
    · simp [splS, hc]; exact ih
    · simp only [splS, hc, if_false, List.mem_cons]
      rintro n (rfl | hn)
      · rw [List.mem_cons]
        rintro (e | e)
        · exact hc e.symm
        · refine ih ((splS t).headD []) ?_ e
          rw [splS_eq t]; simp
      · refine ih n ?_
        rw [splS_eq t]; exact List.mem_cons_of_mem _ hn
theorem glS_cons (a : Bs) (l : List Bs) (h : l ≠ []) : glS (a :: l) = a ++ 32 :: glS l := by
  cases l with
  | nil => exact absurd rfl h
  | cons b m => rfl
theorem glS_head (c : UInt8) (a : Bs) (l : List Bs) : glS ((c :: a) :: l) = c :: glS (a :: l) := by
  cases l <;> rfl
theorem glS_splS (s : Bs) : glS (splS s) = s := by
  induction s with
  | nil => rfl
  | cons c t ih =>
    by_cases hc : c = 32
    · simp only [splS, hc, if_true]
      rw [glS_cons _ _ (splS_ne t), ih]; rfl
    · simp only [splS, hc, if_false]
      rw [glS_head, ← splS_eq t, ih]
theorem splS_glS (l : List Bs) (hl : l ≠ []) (h : ∀ n ∈ l, 32 ∉ n) : splS (glS l) = l := by
  induction l with
  | nil => exact absurd rfl hl
  | cons a m ih =>
    by_cases hm : m = []
    · subst hm; exact splS_no a (h a (by simp))
    · rw [glS_cons _ _ hm, splS_blank _ _ (h a (by simp)), ih hm (fun n hn => h n (by simp [hn]))]
theorem glS_join (xs : List Bs) : Lib.join xs [32] = glS xs := by
  induction xs with
  | nil => rfl
  | cons a l ih =>
    cases l with
    | nil => exact Lib.join_one a [32]
    | cons b t =>
      rw [Lib.join_cons]
      rw [Lib.join_cons] at ih
      show a ++ Lib.joinTail [32] (b :: t) = a ++ 32 :: glS (b :: t)
      rw [← ih]
      simp [Lib.joinTail]
theorem splS_hit (a b : Bs) (h : 32 ∉ a) : splS (a ++ 32 :: b) = a :: splS b := splS_blank a b h
theorem splS_count (s : Bs) : (splS s).length = s.count 32 + 1 := by
  induction s with
  | nil => rfl
  | cons c t ih =>
    unfold splS
    by_cases hc : c = 32
    · rw [if_pos hc, hc]; simp [ih]
    · rw [if_neg hc]
      rw [List.count_cons_of_ne hc]
      have h0 : 0 < (splS t).length := List.length_pos_iff.2 (splS_ne t)
      simp; omega
theorem splitB_splS : ∀ (k : Nat) (s : ByteArray), (L s).count 32 ≤ k → (Lib.splitB ⟨#[32]⟩ 0 k s).map L = splS (L s)
  | 0, s, h => by
    have hn : 32 ∉ L s := by
      intro hm
      have := List.count_pos_iff.2 hm
      omega
    rw [Lib.splitB_zero, splS_no _ hn]
    rfl
  | k + 1, s, h => by
    have hix : Lib.indexB s ⟨#[32]⟩ = Lib.indexByte (L s) 32 := Lib.index_one _ _
    rcases idx_at 32 (L s) with ⟨h1, hno⟩ | ⟨a, b, hat, hno, h1⟩
    · rw [Lib.splitB_miss _ _ _ _ (hix.trans h1), splS_no _ hno]
      rfl
    · rw [Lib.splitB_hit _ _ _ _ a.length (hix.trans h1)]
      have e1 : L (s.extract 0 (a.length + 0)) = a := by
        rw [extract_B, L_B, hat]
        simp
      have hsz : s.size = a.length + 1 + b.length := by rw [← L_len, hat]; simp; omega
      have e2 : L (s.extract (a.length + (⟨#[32]⟩ : ByteArray).size) s.size) = b := by
        rw [extract_B, L_B, hat, show (⟨#[32]⟩ : ByteArray).size = 1 from rfl, List.take_of_length_le (by simp; omega)]
        rw [show a.length + 1 = (a ++ [32]).length by simp, show a ++ 32 :: b = (a ++ [32]) ++ b by simp, List.drop_left]
      have hc : (L (s.extract (a.length + (⟨#[32]⟩ : ByteArray).size) s.size)).count 32 ≤ k := by
        rw [e2]
        rw [hat] at h
        simp [List.count_append] at h
        omega
      rw [List.map_cons, splitB_splS k _ hc, e1, e2, hat, splS_hit a b hno]
theorem split_words (s : ByteArray) : ((Lib.splitB ⟨#[32]⟩ 0 (Lib.countB s ⟨#[32]⟩) s).map Value.string) = (splS (L s)).map strV ∧ Lib.countB s ⟨#[32]⟩ + 1 = (splS (L s)).length := by
  have hc : Lib.countB s ⟨#[32]⟩ = (L s).count 32 := Lib.count_one 32 _
  refine ⟨?_, by rw [splS_count, hc]⟩
  rw [← splitB_splS (Lib.countB s ⟨#[32]⟩) s (by rw [hc]; exact Nat.le_refl _), List.map_map]
  refine List.map_congr_left fun x _ => ?_
  show Value.string x = strV (L x)
  rw [str_of]
end Go.Proofs.YtcapaiiegfedmaaDoor
