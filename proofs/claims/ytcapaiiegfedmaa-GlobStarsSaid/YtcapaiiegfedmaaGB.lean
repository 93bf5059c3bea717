/- Glob: which texts are patterns, and what their parts are, in plain Lean. -/
import Derived.Test.YtcapaiiegfedmaaGA
namespace Go.Proofs.Ytcapaiiegfedmaa
def memberB (c : UInt8) : Bool := c != 93 && c != 91 && c != 47 && c != 92
def anyB (slash : Bool) : UInt8 → Bool := fun c => slash || c != 47
def justB (d : UInt8) : UInt8 → Bool := fun c => c == d
def noneB : UInt8 → Bool := fun _ => false
def withB (f : UInt8 → Bool) (lo hi : UInt8) : UInt8 → Bool := fun c => f c || (decide (lo ≤ c) && decide (c ≤ hi))
/-- the members of a set, up to its closing bracket -/
def setB (f : UInt8 → Bool) : Nat → Bs → Option ((UInt8 → Bool) × Bs)
  | 0, _ => none
  | n + 1, s => match s with
    | [] => none
    | c :: t => if c = 93 then some (f, t) else if memberB c = false then none else
      match t with
      | d :: e :: r => if d = 45 ∧ e ≠ 93 then (if memberB e = false ∨ e < c then none else setB (withB f c e) n r) else setB (withB f c c) n t
      | _ => setB (withB f c c) n t
/-- a set, behind its opening bracket -/
def class2 (no : Bool) (t : Bs) : Option (Part × Bs) :=
  match t with
  | [] => none
  | c :: _ => if c = 93 then none else (setB noneB t.length t).map (fun r => ((fun c => (r.1 c != no) && c != 47, false), r.2))
def classB (s : Bs) : Option (Part × Bs) :=
  match s with
  | [] => none
  | c :: t => if c = 33 then class2 true t else class2 false (c :: t)
def oneP (s : Bs) : Option (Part × Bs) :=
  match s with
  | [] => none
  | c :: t =>
    if c = 42 then (match t with | d :: r => if d = 42 then some ((anyB true, true), r) else some ((anyB false, true), t) | [] => some ((anyB false, true), t))
    else if c = 63 then some ((anyB false, false), t)
    else if c = 91 then classB t
    else if c = 92 then (match t with | [] => none | d :: r => some ((justB d, false), r))
    else some ((justB c, false), t)
def parseN : Nat → Bs → Option (List Part)
  | 0, s => if s.isEmpty then some [] else none
  | n + 1, s => if s.isEmpty then some [] else match oneP s with | none => none | some (p, r) => (parseN n r).map (p :: ·)
def parseB (s : Bs) : Option (List Part) := if 64 < s.length then none else parseN s.length s
def globB (p t : Bs) : Bool := match parseB p with | none => false | some l => matchB l t
/- what is left is shorter -/
theorem set_less (f : UInt8 → Bool) (n : Nat) (s : Bs) (r : (UInt8 → Bool) × Bs) (h : setB f n s = some r) : r.2.length < s.length := by
  induction n generalizing f s with
  | zero => simp [setB] at h
  | succ n ih =>
    unfold setB at h
    match s with
    | [] => simp at h
    | c :: t =>
      simp only at h
      split at h
      · cases h; simp
      · split at h
        · cases h
        · split at h
          · split at h
            · split at h
              · cases h
              · have := ih _ _ h; simp; omega
            · have := ih _ _ h; simp at this ⊢; omega
          · have := ih _ _ h; simp at this ⊢; omega
/-- more steps do no harm -/
theorem set_more (f : UInt8 → Bool) (n m : Nat) (s : Bs) (hn : s.length ≤ n) (hm : s.length ≤ m) : setB f n s = setB f m s := by
  induction n generalizing f s m with
  | zero =>
    have : s = [] := List.length_eq_zero_iff.1 (by omega)
    subst this
    cases m <;> rfl
  | succ n ih =>
    cases m with
    | zero =>
      have : s = [] := List.length_eq_zero_iff.1 (by omega)
      subst this; rfl
    | succ m =>
      match s with
      | [] => rfl
      | c :: t =>
        simp only [List.length_cons] at hn hm
        unfold setB
        simp only
        match t with
        | [] => rw [ih _ m [] (by simp) (by simp)]
        | [d] => rw [ih _ m [d] (by simpa using hn) (by simpa using hm)]
        | d :: e :: r =>
          simp only [List.length_cons] at hn hm
          simp only
          rw [ih _ m r (by omega) (by omega), ih _ m (d :: e :: r) (by simp; omega) (by simp; omega)]
theorem class2_less (no : Bool) (t : Bs) (r : Part × Bs) (h : class2 no t = some r) : r.2.length < t.length := by
  unfold class2 at h
  split at h
  · cases h
  · split at h
    · cases h
    · rw [Option.map_eq_some_iff] at h
      obtain ⟨a, ha, rfl⟩ := h
      exact set_less _ _ _ _ ha
theorem class_less (s : Bs) (r : Part × Bs) (h : classB s = some r) : r.2.length < s.length := by
  unfold classB at h
  split at h
  · cases h
  · split at h
    · have := class2_less _ _ _ h; simp; omega
    · exact class2_less _ _ _ h
theorem one_less (s : Bs) (r : Part × Bs) (h : oneP s = some r) : r.2.length < s.length := by
  unfold oneP at h
  split at h
  · cases h
  · split at h
    · split at h
      · split at h <;> (cases h; simp <;> omega)
      · cases h; simp
    · split at h
      · cases h; simp
      · split at h
        · have := class_less _ _ h; simp; omega
        · split at h
          · split at h
            · cases h
            · cases h; simp; omega
          · cases h; simp
theorem parse_more (n m : Nat) (s : Bs) (hn : s.length ≤ n) (hm : s.length ≤ m) : parseN n s = parseN m s := by
  induction n generalizing s m with
  | zero =>
    have : s = [] := List.length_eq_zero_iff.1 (by omega)
    subst this
    cases m <;> rfl
  | succ n ih =>
    cases m with
    | zero =>
      have : s = [] := List.length_eq_zero_iff.1 (by omega)
      subst this; rfl
    | succ m =>
      unfold parseN
      cases ho : oneP s with
      | none => rfl
      | some r =>
        have := one_less s r ho
        simp only
        rw [ih m r.2 (by omega) (by omega)]
/-- the pattern's parts, without its length -/
def partsB (s : Bs) : Option (List Part) := parseN s.length s
theorem parts_nil : partsB [] = some [] := rfl
theorem parts_cons (s : Bs) (h : s ≠ []) : partsB s = match oneP s with | none => none | some (p, r) => (partsB r).map (p :: ·) := by
  unfold partsB
  match s, h with
  | c :: t, _ =>
    show parseN (t.length + 1) (c :: t) = _
    rw [parseN]
    simp only [List.isEmpty_cons, Bool.false_eq_true, if_false]
    cases ho : oneP (c :: t) with
    | none => rfl
    | some r =>
      have := one_less _ r ho
      simp only [List.length_cons] at this
      simp only
      rw [parse_more t.length r.2.length r.2 (by omega) (Nat.le_refl _)]
theorem glob_parts (p t : Bs) : globB p t = if 64 < p.length then false else match partsB p with | none => false | some l => matchB l t := by
  unfold globB parseB
  by_cases h : 64 < p.length
  · rw [if_pos h, if_pos h]
  · rw [if_neg h, if_neg h]; rfl
end Go.Proofs.Ytcapaiiegfedmaa
