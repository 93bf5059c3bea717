/- Glob: the plain laws of GlobPlain and GlobStars. · Slices as lists of cells: what a slice that is read holds; append of one element onto a slice of the call's own. -/
import Derived.Maps.AppendAt
import Derived.OwnWalkIn
import Derived.OneCell
import Derived.Laws.AppendOwnNone
import Derived.RangeFuncBox
import Derived.Test.YtcapaiiegfedmaaRt1
namespace Go.Proofs.Ytcapaiiegfedmaa
def signB (c : UInt8) : Bool := c == 42 || c == 63 || c == 91 || c == 92
def escB (s : Bs) : Bs := s.flatMap (fun c => if signB c then [92, c] else [c])
def justsB (s : Bs) : List Part := s.map (fun c => (justB c, false))
theorem esc_cons (c : UInt8) (t : Bs) : escB (c :: t) = (if signB c then [92, c] else [c]) ++ escB t := rfl
theorem esc_snoc (s : Bs) (c : UInt8) : escB (s ++ [c]) = escB s ++ (if signB c then [92, c] else [c]) := by unfold escB; simp
theorem esc_len (s : Bs) : (escB s).length ≤ 2 * s.length := by
  induction s with
  | nil => simp [escB]
  | cons c t ih =>
    rw [esc_cons, List.length_append, List.length_cons]
    split <;> simp <;> omega
theorem one_plain (c : UInt8) (t : Bs) (h : signB c = false) : oneP (c :: t) = some ((justB c, false), t) := by
  unfold signB at h
  simp only [Bool.or_eq_false_iff, beq_eq_false_iff_ne] at h
  obtain ⟨⟨⟨h1, h2⟩, h3⟩, h4⟩ := h
  unfold oneP
  simp only [if_neg h1, if_neg h2, if_neg h3, if_neg h4]
theorem parts_esc (s : Bs) : partsB (escB s) = some (justsB s) := by
  induction s with
  | nil => rfl
  | cons c t ih =>
    rw [esc_cons, parts_cons _ (by split <;> simp)]
    cases h : signB c with
    | true =>
      have : oneP ([92, c] ++ escB t) = some ((justB c, false), escB t) := by simp [oneP]
      simp only [if_true, this, ih]; rfl
    | false =>
      have : oneP ([c] ++ escB t) = some ((justB c, false), escB t) := one_plain c _ h
      simp only [Bool.false_eq_true, if_false, this, ih]; rfl
theorem esc_plain (s : Bs) (h : ∀ c ∈ s, signB c = false) : escB s = s := by
  induction s with
  | nil => rfl
  | cons c t ih =>
    rw [esc_cons, h c (by simp), ih (fun d hd => h d (by simp [hd]))]; rfl
theorem match_justs (s t : Bs) : matchB (justsB s) t = decide (s = t) := by
  induction s generalizing t with
  | nil => cases t <;> simp [justsB, matchB]
  | cons c s ih =>
    cases t with
    | nil => simp [justsB, matchB]
    | cons d t =>
      have : matchB (justsB (c :: s)) (d :: t) = (justB c d && matchB (justsB s) t) := rfl
      rw [this, ih]
      unfold justB
      apply bool_iff
      simp only [Bool.and_eq_true, beq_iff_eq, decide_eq_true_eq, List.cons.injEq]
      constructor
      · rintro ⟨h1, h2⟩; exact ⟨h1.symm, h2⟩
      · rintro ⟨h1, h2⟩; exact ⟨h1.symm, h2⟩
theorem glob_esc (s t : Bs) (h : s.length ≤ 32) : globB (escB s) t = decide (s = t) := by
  have := esc_len s
  rw [glob_parts, if_neg (by omega), parts_esc]; exact match_justs s t
theorem glob_plain (s t : Bs) (h : s.length ≤ 32) (hp : ∀ c ∈ s, signB c = false) : globB s t = decide (s = t) := by
  have := glob_esc s t h
  rwa [esc_plain s hp] at this
/- one behind another -/
theorem set_app (f : UInt8 → Bool) (n : Nat) (s x : Bs) (r : (UInt8 → Bool) × Bs) (h : setB f n s = some r) : setB f (n + x.length) (s ++ x) = some (r.1, r.2 ++ x) := by
  induction n generalizing f s with
  | zero => simp [setB] at h
  | succ n ih =>
    match s with
    | [] => simp [setB] at h
    | [c] =>
      unfold setB at h
      simp only at h
      by_cases hc : c = 93
      · rw [if_pos hc] at h; cases h
        rw [show n + 1 + x.length = (n + x.length) + 1 by omega]
        unfold setB
        simp [hc]
      · rw [if_neg hc] at h
        split at h
        · cases h
        · cases n <;> simp [setB] at h
    | [c, d] =>
      have h0 := h
      unfold setB at h
      simp only at h
      rw [show n + 1 + x.length = (n + x.length) + 1 by omega]
      by_cases hc : c = 93
      · rw [if_pos hc] at h; cases h
        unfold setB; simp [hc]
      · rw [if_neg hc] at h
        by_cases hm : memberB c = false
        · rw [if_pos hm] at h; cases h
        · rw [if_neg hm] at h
          have hd : d = 93 := by
            cases n with
            | zero => simp [setB] at h
            | succ n =>
              unfold setB at h
              simp only at h
              split at h
              · assumption
              · split at h
                · cases h
                · cases n <;> simp [setB] at h
          have h2 := ih _ [d] h
          unfold setB
          rw [show [c, d] ++ x = c :: d :: x from rfl]
          simp only [if_neg hc, if_neg hm]
          rw [show [d] ++ x = d :: x from rfl] at h2
          cases x with
          | nil => exact h2
          | cons e y =>
            simp only
            rw [if_neg (by rw [hd]; rintro ⟨h3, _⟩; exact absurd h3 (by decide))]
            exact h2
    | c :: d :: e :: r' =>
      unfold setB at h
      simp only at h
      rw [show n + 1 + x.length = (n + x.length) + 1 by omega]
      unfold setB
      rw [show (c :: d :: e :: r') ++ x = c :: d :: e :: (r' ++ x) from rfl]
      simp only
      by_cases hc : c = 93
      · rw [if_pos hc] at h; cases h
        rw [if_pos hc]; rfl
      · rw [if_neg hc] at h ⊢
        by_cases hm : memberB c = false
        · rw [if_pos hm] at h; cases h
        · rw [if_neg hm] at h ⊢
          by_cases h1 : d = 45 ∧ e ≠ 93
          · rw [if_pos h1] at h ⊢
            by_cases h2 : memberB e = false ∨ e < c
            · rw [if_pos h2] at h; cases h
            · rw [if_neg h2] at h ⊢; exact ih _ _ h
          · rw [if_neg h1] at h ⊢; exact ih _ _ h
theorem set_tail (f : UInt8 → Bool) (n : Nat) (s : Bs) (r : (UInt8 → Bool) × Bs) (h : setB f n s = some r) : ∃ u, s = u ++ r.2 := by
  induction n generalizing f s with
  | zero => simp [setB] at h
  | succ n ih =>
    unfold setB at h
    match s with
    | [] => simp at h
    | c :: t =>
      simp only at h
      split at h
      · cases h; exact ⟨[c], rfl⟩
      · split at h
        · cases h
        · split at h
          · split at h
            · split at h
              · cases h
              · obtain ⟨u, hu⟩ := ih _ _ h; exact ⟨_ :: _ :: _ :: u, by rw [hu]; rfl⟩
            · obtain ⟨u, hu⟩ := ih _ _ h; exact ⟨_ :: u, by rw [hu]; rfl⟩
          · obtain ⟨u, hu⟩ := ih _ _ h; exact ⟨_ :: u, by rw [hu]; rfl⟩
theorem class2_app (no : Bool) (t x : Bs) (r : Part × Bs) (h : class2 no t = some r) : class2 no (t ++ x) = some (r.1, r.2 ++ x) := by
  cases t with
  | nil => simp [class2] at h
  | cons c t =>
    unfold class2 at h ⊢
    simp only [List.cons_append] at h ⊢
    by_cases hc : c = 93
    · rw [if_pos hc] at h; cases h
    · rw [if_neg hc] at h ⊢
      rw [Option.map_eq_some_iff] at h
      obtain ⟨a, ha, rfl⟩ := h
      have := set_app _ _ _ x _ ha
      rw [← List.length_append] at this
      simp only [List.cons_append] at this
      rw [this]; rfl
theorem class2_tail (no : Bool) (t : Bs) (r : Part × Bs) (h : class2 no t = some r) : ∃ u, t = u ++ r.2 := by
  cases t with
  | nil => simp [class2] at h
  | cons c t =>
    unfold class2 at h
    simp only at h
    by_cases hc : c = 93
    · rw [if_pos hc] at h; cases h
    · rw [if_neg hc, Option.map_eq_some_iff] at h
      obtain ⟨a, ha, rfl⟩ := h
      exact set_tail _ _ _ _ ha
theorem class_app (s x : Bs) (r : Part × Bs) (h : classB s = some r) : classB (s ++ x) = some (r.1, r.2 ++ x) := by
  cases s with
  | nil => simp [classB] at h
  | cons c t =>
    unfold classB at h ⊢
    simp only [List.cons_append] at h ⊢
    by_cases hc : c = 33
    · rw [if_pos hc] at h ⊢; exact class2_app _ _ _ _ h
    · rw [if_neg hc] at h ⊢; exact class2_app false (c :: t) x _ h
theorem class_tail (s : Bs) (r : Part × Bs) (h : classB s = some r) : ∃ u, s = u ++ r.2 := by
  cases s with
  | nil => simp [classB] at h
  | cons c t =>
    unfold classB at h
    simp only at h
    by_cases hc : c = 33
    · rw [if_pos hc] at h
      obtain ⟨u, hu⟩ := class2_tail _ _ _ h
      exact ⟨c :: u, by rw [hu]; rfl⟩
    · rw [if_neg hc] at h; exact class2_tail false (c :: t) _ h
theorem one_app (s x : Bs) (p : Part) (r : Bs) (h : oneP s = some (p, r)) (hl : s.getLast? ≠ some 42) : oneP (s ++ x) = some (p, r ++ x) := by
  cases s with
  | nil => simp [oneP] at h
  | cons c t =>
    unfold oneP at h
    unfold oneP
    simp only [List.cons_append] at h ⊢
    by_cases h1 : c = 42
    · rw [if_pos h1] at h ⊢
      cases t with
      | nil => rw [h1] at hl; simp at hl
      | cons d r' =>
        simp only [List.cons_append] at h ⊢
        by_cases h2 : d = 42
        · rw [if_pos h2] at h ⊢; cases h; rfl
        · rw [if_neg h2] at h ⊢; cases h; rfl
    · rw [if_neg h1] at h ⊢
      by_cases h2 : c = 63
      · rw [if_pos h2] at h ⊢; cases h; rfl
      · rw [if_neg h2] at h ⊢
        by_cases h3 : c = 91
        · rw [if_pos h3] at h ⊢; exact class_app t x _ h
        · rw [if_neg h3] at h ⊢
          by_cases h4 : c = 92
          · rw [if_pos h4] at h ⊢
            cases t with
            | nil => cases h
            | cons d r' => cases h; rfl
          · rw [if_neg h4] at h ⊢; cases h; rfl
theorem one_tail (s : Bs) (p : Part) (r : Bs) (h : oneP s = some (p, r)) : ∃ u, s = u ++ r := by
  cases s with
  | nil => simp [oneP] at h
  | cons c t =>
    unfold oneP at h
    simp only at h
    by_cases h1 : c = 42
    · rw [if_pos h1] at h
      cases t with
      | nil => cases h; exact ⟨[c], rfl⟩
      | cons d r' =>
        simp only at h
        by_cases h2 : d = 42
        · rw [if_pos h2] at h; cases h; exact ⟨[c, d], rfl⟩
        · rw [if_neg h2] at h; cases h; exact ⟨[c], rfl⟩
    · rw [if_neg h1] at h
      by_cases h2 : c = 63
      · rw [if_pos h2] at h; cases h; exact ⟨[c], rfl⟩
      · rw [if_neg h2] at h
        by_cases h3 : c = 91
        · rw [if_pos h3] at h
          obtain ⟨u, hu⟩ := class_tail _ _ h
          exact ⟨c :: u, by rw [hu]; rfl⟩
        · rw [if_neg h3] at h
          by_cases h4 : c = 92
          · rw [if_pos h4] at h
            cases t with
            | nil => cases h
            | cons d r' => cases h; exact ⟨[c, d], rfl⟩
          · rw [if_neg h4] at h; cases h; exact ⟨[c], rfl⟩
theorem parts_app (n : Nat) (a x : Bs) (la lx : List Part) (hn : a.length ≤ n) (ha : partsB a = some la) (hl : a.getLast? ≠ some 42) (hx : partsB x = some lx) : partsB (a ++ x) = some (la ++ lx) := by
  induction n generalizing a la with
  | zero =>
    have : a = [] := List.length_eq_zero_iff.1 (by omega)
    subst this
    rw [parts_nil] at ha; cases ha; exact hx
  | succ n ih =>
    by_cases h0 : a = []
    · subst h0; rw [parts_nil] at ha; cases ha; exact hx
    · rw [parts_cons a h0] at ha
      cases ho : oneP a with
      | none => rw [ho] at ha; cases ha
      | some q =>
        obtain ⟨p, r⟩ := q
        rw [ho] at ha
        simp only [Option.map_eq_some_iff] at ha
        obtain ⟨lr, hr, rfl⟩ := ha
        have hless := one_less a _ ho
        simp only at hless
        obtain ⟨u, hu⟩ := one_tail a p r ho
        have hlr : r.getLast? ≠ some 42 := by
          intro e
          apply hl
          rw [hu, List.getLast?_append, e]; rfl
        rw [parts_cons _ (by simp [h0]), one_app a x p r ho hl]
        simp only
        rw [ih r lr (by omega) hr hlr]; rfl
theorem glob_two (a b s t : Bs) (ha : a.length ≤ 30) (hb : b.length ≤ 30) (hl : a.getLast? ≠ some 42) (h1 : globB a s = true) (h2 : globB b t = true) : globB (a ++ b) (s ++ t) = true := by
  rw [glob_parts, if_neg (by omega)] at h1 h2
  rw [glob_parts, if_neg (by rw [List.length_append]; omega)]
  cases hpa : partsB a with
  | none => rw [hpa] at h1; cases h1
  | some la =>
    cases hpb : partsB b with
    | none => rw [hpb] at h2; cases h2
    | some lb =>
      rw [hpa] at h1; rw [hpb] at h2
      rw [parts_app a.length a b la lb (Nat.le_refl _) hpa hl hpb]
      exact (match_app la lb _).2 ⟨s, t, rfl, h1, h2⟩
theorem parts_star2 (b : Bs) (lb : List Part) (h : partsB b = some lb) : partsB ([42, 42] ++ b) = some ((anyB true, true) :: lb) := by
  rw [parts_cons _ (by simp)]
  have : oneP ([42, 42] ++ b) = some ((anyB true, true), b) := by simp [oneP]
  rw [this]; simp only; rw [h]; rfl
theorem parts_star1 (b : Bs) (lb : List Part) (h : partsB b = some lb) (hb : b.head? ≠ some 42) : partsB ([42] ++ b) = some ((anyB false, true) :: lb) := by
  rw [parts_cons _ (by simp)]
  have : oneP ([42] ++ b) = some ((anyB false, true), b) := by
    cases b with
    | nil => simp [oneP]
    | cons d r =>
      have : d ≠ 42 := fun e => hb (by rw [e]; rfl)
      simp [oneP, this]
  rw [this]; simp only; rw [h]; rfl
theorem glob_star (a b m s u t : Bs) (p : Part) (ha : a.length ≤ 30) (hb : b.length ≤ 30) (hm : m.length ≤ 2) (hl : a.getLast? ≠ some 42) (hp : ∀ lb, partsB b = some lb → partsB (m ++ b) = some (p :: lb)) (h1 : globB a s = true) (h2 : globB b t = true)
    (h3 : p.2 = true) (h4 : ∀ c ∈ u, p.1 c = true) : globB (a ++ m ++ b) (s ++ u ++ t) = true := by
  rw [glob_parts, if_neg (by omega)] at h1 h2
  rw [glob_parts, if_neg (by simp; omega)]
  cases hpa : partsB a with
  | none => rw [hpa] at h1; cases h1
  | some la =>
    cases hpb : partsB b with
    | none => rw [hpb] at h2; cases h2
    | some lb =>
      rw [hpa] at h1; rw [hpb] at h2
      rw [List.append_assoc, parts_app a.length a (m ++ b) la (p :: lb) (Nat.le_refl _) hpa hl (hp lb hpb)]
      rw [List.append_assoc]
      obtain ⟨f, many⟩ := p
      simp only at h3 h4
      subst h3
      exact (match_app la _ _).2 ⟨s, u ++ t, rfl, h1, (match_app [(f, true)] lb _).2 ⟨u, t, rfl, (match_many f u).2 h4, h2⟩⟩
theorem glob_star2 (a b s u t : Bs) (ha : a.length ≤ 30) (hb : b.length ≤ 30) (hl : a.getLast? ≠ some 42) (h1 : globB a s = true) (h2 : globB b t = true) : globB (a ++ [42, 42] ++ b) (s ++ u ++ t) = true :=
  glob_star a b [42, 42] s u t (anyB true, true) ha hb (by simp) hl (fun lb h => parts_star2 b lb h) h1 h2 rfl (fun c _ => rfl)
theorem glob_star1 (a b s u t : Bs) (ha : a.length ≤ 30) (hb : b.length ≤ 30) (hl : a.getLast? ≠ some 42) (hf : b.head? ≠ some 42) (h1 : globB a s = true) (h2 : globB b t = true) (hu : 47 ∉ u) : globB (a ++ [42] ++ b) (s ++ u ++ t) = true :=
  glob_star a b [42] s u t (anyB false, true) ha hb (by simp) hl (fun lb h => parts_star1 b lb h hf) h1 h2 rfl (fun c hc => by
    have : c ≠ 47 := fun e => hu (by rw [← e]; exact hc)
    simp [anyB, this])
end Go.Proofs.Ytcapaiiegfedmaa
namespace Go.Proofs.Ytcapaiiegfedmaa
open Go.RowKit
/-- the cells behind a slice's address -/
def Slc (w : World) (A : Option Addr) (cs : List Value) : Prop :=
  cs = [] ∨ ∃ b o, A = some ⟨b, o, none⟩ ∧ b < w.heap.size ∧ ∀ (i : Nat) v, cs[i]? = some v → w.cell? ⟨b, o + i, none⟩ = some v
theorem Slc.nil (w : World) (A : Option Addr) : Slc w A [] := .inl rfl
theorem Slc.keep {w w' : World} {A : Option Addr} {cs : List Value} (h : Slc w A cs) (hb : Below w.heap.size w w') : Slc w' A cs := by
  rcases h with h | ⟨b, o, rfl, hlt, hc⟩
  · exact .inl h
  · exact .inr ⟨b, o, rfl, Nat.lt_of_lt_of_le hlt hb.size, fun i v hv => (hb.cell (p := ⟨b, o + i, none⟩) hlt).trans (hc i v hv)⟩
theorem Slc.drewN {w : World} {A : Option Addr} {cs : List Value} (h : Slc w A cs) (n : Nat) : Slc (w.drewN n) A cs := h
theorem Slc.of_own {w : World} {base : Nat} {e : TypeId} {size n cap : Nat} {g : Nat} {xs : List Value} (h : w.ownsRow base e size (.slice (some ⟨g, 0, none⟩) n cap) n xs) : Slc w (some ⟨g, 0, none⟩) xs := by
  refine .inr ⟨g, 0, rfl, (h.lt g rfl).2, fun i v hv => ?_⟩
  have hi : i < n * size := by have := (List.getElem?_eq_some_iff.1 hv).1; rw [h.1] at this; exact this
  rw [Nat.zero_add, h.cellAt i hi]; exact hv
theorem own_form {w : World} {base : Nat} {e : TypeId} {size n : Nat} {v : Value} {xs : List Value} (h : w.ownsRow base e size v n xs) : ∃ A cap, v = .slice A n cap ∧ n ≤ cap ∧ Slc w A xs := by
  rcases h.2 with ⟨rfl, rfl⟩ | ⟨g, cap, cur, rfl, r⟩
  · exact ⟨none, 0, rfl, Nat.le_refl _, .inl (List.eq_nil_of_length_eq_zero (by simpa using h.1))⟩
  · exact ⟨_, cap, rfl, r.2.2.1, Slc.of_own h⟩
theorem own_cap {w : World} {base : Nat} {e : TypeId} {size n : Nat} {A : Option Addr} {c : Nat} {xs : List Value} (h : w.ownsRow base e size (.slice A n c) n xs) : n ≤ c := by
  obtain ⟨A', c', he, hc, _⟩ := own_form h
  cases he; exact hc
theorem own_keep {w w' : World} {base : Nat} {e : TypeId} {size n : Nat} {v : Value} {xs : List Value} (h : w.ownsRow base e size v n xs) (hb : Below w.heap.size w w') : w'.ownsRow base e size v n xs := by
  refine h.kept (row := none) ⟨hb.os, hb.tape, hb.output, hb.size, fun k hk _ => hb.block k hk⟩ ?_
  rcases h.2 with ⟨rfl, _⟩ | ⟨g, cap, cur, rfl, _⟩
  · exact .inl rfl
  · exact .inr (by simp [Value.ownBlock])
/-- an element type: its slice type, how many cells, how many bytes -/
structure Elem (P : Program) (t e : TypeId) (size bytes : Nat) : Prop where
  ht : P.underlying t = some (.slice e)
  hi : ∃ i z, P.info? e = some i ∧ i.zero = some z ∧ i.size = size ∧ i.bytes = bytes ∧ z.cells.size = size
  hs : 0 < size
theorem elem_mk {P : Program} {t e : TypeId} {z : Value} {size bytes : Nat} (ht : P.underlying t = some (.slice e)) (h : (P.info? e).map (fun i => (i.zero, i.size, i.bytes)) = some (some z, size, bytes)) (hz : z.cells.size = size) (hs : 0 < size) : Elem P t e size bytes := by
  obtain ⟨i, h1, h2, h3, h4⟩ := info_parts h
  exact ⟨ht, ⟨i, z, h1, h2, h3, h4, hz⟩, hs⟩
theorem own_below {w w' : World} {base : Nat} {e : TypeId} {size n : Nat} {v : Value} {xs : List Value} (h : w.ownsRow base e size v n xs) (hb : base ≤ w.heap.size) (hg : w.grownBy w' v.ownBlock) : Below base w w' :=
  (Below.refl _ _).grown hg hb (fun k e => (h.lt k e).1)
theorem cells_new {w : World} {g : Nat} {cs : List Value} {e : TypeId} {z : Nat × Nat} (hg : w.heap[g]? = some (.cells cs.toArray e z)) (j : Nat) (u : Value) (hu : cs[j]? = some u) : w.cell? ((⟨g, 0, none⟩ : Addr).add j) = some u := by
  have : (⟨g, 0, none⟩ : Addr).add j = ⟨g, j, none⟩ := by unfold Addr.add; split <;> simp_all
  rw [this]
  simp [World.cell?, hg, hu]
theorem wpList_app1 {P : Program} {ops : Array Oper} {rest : List Oper} {o : Oper} {a : Act} {Q : Exit → Act → World → Prop} {w : World}
    (hgd : o.guard = none) (s x : Operand) (t : TypeId) (ho : o.op = .call { callee := .builtin .append, args := #[s, x], argTypes := #[t, t] })
    {base : Nat} {e : TypeId} {size bytes : Nat} (E : Elem P t e size bytes) {v : Value} {n : Nat} {xs : List Value} (hs : a.eval s = v) (hown : w.ownsRow base e size v n xs)
    {g : Nat} {cs : List Value} {z : Nat × Nat} (hx : a.eval x = .slice (some ⟨g, 0, none⟩) 1 1) (hg : w.heap[g]? = some (.cells cs.toArray e z)) (hl : cs.length = size) (h1 : ∀ u ∈ cs, u.oneCell' = true)
    (hn : (n + 1) * bytes ≤ 140737488355328) (hn2 : n < 100000000) (hbase : base ≤ w.heap.size)
    (h : ∀ g' cap w', w'.ownsRow base e size (.slice (some ⟨g', 0, none⟩) (n + 1) cap) (n + 1) (xs ++ cs) → w.grownBy w' v.ownBlock → Below base w w' → wpList P ops Q rest (a.put o.dst (.slice (some ⟨g', 0, none⟩) (n + 1) cap)) w') : wpList P ops Q (o :: rest) a w := by
  obtain ⟨i, z0, hi, hz, hsz, hby, hzs⟩ := E.hi
  refine wpList_append_own w hgd s x t ho base e i z0 size bytes E.ht hi hz hsz hby hzs E.hs v n xs hs hown ⟨g, 0, none⟩ 1 1 cs hx (by omega) (cells_new hg) h1 (by unfold maxLen; omega) hn hbase ?_
  intro v' w' hown' hgr _
  obtain ⟨g', cap', rfl⟩ := ownsRow_succ hown'
  exact h g' cap' w' hown' hgr (own_below hown hbase hgr)
theorem wpListIn_app1 {F : Fence} {m : Nat} {P : Program} {ops : Array Oper} {rest : List Oper} {o : Oper} {a : Act} {Q : Exit → Act → World → Prop} {w : World}
    (hgd : o.guard = none) (s x : Operand) (t : TypeId) (ho : o.op = .call { callee := .builtin .append, args := #[s, x], argTypes := #[t, t] })
    {base : Nat} {e : TypeId} {size bytes : Nat} (E : Elem P t e size bytes) {v : Value} {n : Nat} {xs : List Value} (hs : a.eval s = v) (hown : w.ownsRow base e size v n xs)
    {g : Nat} {cs : List Value} {z : Nat × Nat} (hx : a.eval x = .slice (some ⟨g, 0, none⟩) 1 1) (hg : w.heap[g]? = some (.cells cs.toArray e z)) (hl : cs.length = size) (h1 : ∀ u ∈ cs, u.oneCell' = true)
    (hn : (n + 1) * bytes ≤ 140737488355328) (hn2 : n < 100000000) (hbase : base ≤ w.heap.size)
    (h : ∀ g' cap w', w'.ownsRow base e size (.slice (some ⟨g', 0, none⟩) (n + 1) cap) (n + 1) (xs ++ cs) → w.grownBy w' v.ownBlock → Below base w w' → wpListIn F m P ops Q rest (a.put o.dst (.slice (some ⟨g', 0, none⟩) (n + 1) cap)) w') : wpListIn F m P ops Q (o :: rest) a w := by
  obtain ⟨i, z0, hi, hz, hsz, hby, hzs⟩ := E.hi
  refine wpListIn_append_own w hgd s x t ho base e i z0 size bytes E.ht hi hz hsz hby hzs E.hs v n xs hs hown ⟨g, 0, none⟩ 1 1 cs hx (by omega) (cells_new hg) h1 (by unfold maxLen; omega) hn hbase ?_
  intro v' w' hown' hgr _
  obtain ⟨g', cap', rfl⟩ := ownsRow_succ hown'
  exact h g' cap' w' hown' hgr (own_below hown hbase hgr)
theorem Slc.cut {w : World} {A : Option Addr} {cs : List Value} (h : Slc w A cs) (k cap : Nat) (hc : cs.length ≤ cap) : Slc w (if cap = k then A else A.map (·.add k)) (cs.drop k) := by
  split
  · next e => left; exact List.drop_eq_nil_of_le (by omega)
  · rcases h with rfl | ⟨b, o, rfl, hlt, hcell⟩
    · left; simp
    · right
      refine ⟨b, o + k, ?_, hlt, fun i v hv => ?_⟩
      · simp only [Option.map_some, Addr.add]
        split
        · next e => subst e; rfl
        · rfl
      · rw [List.getElem?_drop] at hv
        have := hcell _ v hv
        rwa [← Nat.add_assoc] at this
theorem Slc.front {w : World} {A : Option Addr} {cs : List Value} (h : Slc w A cs) (k : Nat) : Slc w A (cs.take k) := by
  rcases h with rfl | ⟨b, o, rfl, hlt, hcell⟩
  · left; simp
  · right
    refine ⟨b, o, rfl, hlt, fun i v hv => hcell i v ?_⟩
    rw [List.getElem?_take] at hv
    split at hv
    · exact hv
    · cases hv
theorem wpList_appN {P : Program} {ops : Array Oper} {rest : List Oper} {o : Oper} {a : Act} {Q : Exit → Act → World → Prop} {w : World}
    (hgd : o.guard = none) (s x : Operand) (t : TypeId) (ho : o.op = .call { callee := .builtin .append, args := #[s, x], argTypes := #[t, t] })
    {base : Nat} {e : TypeId} {size bytes : Nat} (E : Elem P t e size bytes) {v : Value} {n : Nat} {xs : List Value} (hs : a.eval s = v) (hown : w.ownsRow base e size v n xs)
    {A : Option Addr} {m c : Nat} {cs : List Value} (hx : a.eval x = .slice A m c) (hcs : Slc w A cs) (hl : cs.length = m * size) (h1 : ∀ u ∈ cs, u.oneCell' = true) (hnil : A = none → c = 0)
    (hn : (n + m) * bytes ≤ 140737488355328) (hn2 : n + m < 100000000) (hbase : base ≤ w.heap.size)
    (h : ∀ v' w', w'.ownsRow base e size v' (n + m) (xs ++ cs) → w.grownBy w' v.ownBlock → Below base w w' → wpList P ops Q rest (a.put o.dst v') w') : wpList P ops Q (o :: rest) a w := by
  obtain ⟨i, z0, hi, hz, hsz, hby, hzs⟩ := E.hi
  rcases A with _ | ad
  · have hc0 : c = 0 := hnil rfl
    subst hc0
    have hcn : cs = [] := by
      rcases hcs with h | ⟨b, o, he, _⟩
      · exact h
      · cases he
    subst hcn
    have hm : m = 0 := by
      have h1 := E.hs
      have h2 : m * size = 0 := hl.symm
      rcases Nat.mul_eq_zero.1 h2 with h | h
      · exact h
      · omega
    subst hm
    refine wpList_append_own_none hgd s x t ho base e i size E.ht hi v n xs hs hown hx ?_
    have := h v w (by simpa using hown) (World.grownBy.refl w _) (Below.refl _ _)
    exact this
  · refine wpList_append_own w hgd s x t ho base e i z0 size bytes E.ht hi hz hsz hby hzs E.hs v n xs hs hown ad m c cs hx hl ?_ h1 (by unfold maxLen; omega) hn hbase ?_
    · rcases hcs with rfl | ⟨b, o, he, _, hcell⟩
      · intro j u hu; simp at hu
      · intro j u hu
        injection he with he
        subst he
        have : (⟨b, o, none⟩ : Addr).add j = ⟨b, o + j, none⟩ := by unfold Addr.add; split <;> simp_all
        rw [this]; exact hcell j u hu
    · intro v' w' hown' hgr _
      exact h v' w' hown' hgr (own_below hown hbase hgr)
/-- texts as cells -/
def strV (x : Bs) : Value := .string (B x)
theorem str_one (l : List Bs) : ∀ u ∈ l.map strV, u.oneCell' = true := by
  intro u hu
  obtain ⟨x, _, rfl⟩ := List.mem_map.1 hu
  rfl
theorem elem_str : Elem Try.prog 34 9 1 16 := elem_mk Try.underlying34 (z := .string ⟨#[]⟩) (by kernel_rfl) rfl (by omega)
end Go.Proofs.Ytcapaiiegfedmaa
