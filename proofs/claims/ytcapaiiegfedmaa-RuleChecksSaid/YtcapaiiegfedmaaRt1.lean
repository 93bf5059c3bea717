/- Glob: patterns and the texts that they stand for, in plain Lean. · Glob: which texts are patterns, and what their parts are, in plain Lean. -/
import Derived.Test.YtcapaiiegfedmaaRt0
namespace Go.Proofs.Ytcapaiiegfedmaa
abbrev Part := (UInt8 → Bool) × Bool
def starM (f : UInt8 → Bool) (k : Bs → Bool) : Bs → Bool
  | [] => k []
  | c :: t => k (c :: t) || (f c && starM f k t)
def matchB : List Part → Bs → Bool
  | [], t => t.isEmpty
  | p :: ps, t => if p.2 then starM p.1 (matchB ps) t else match t with | [] => false | c :: t' => p.1 c && matchB ps t'
theorem star_iff (f : UInt8 → Bool) (k : Bs → Bool) (t : Bs) : starM f k t = true ↔ ∃ u v, t = u ++ v ∧ (∀ c ∈ u, f c = true) ∧ k v = true := by
  induction t with
  | nil =>
    constructor
    · intro h; exact ⟨[], [], rfl, by simp, h⟩
    · rintro ⟨u, v, h1, h2, h3⟩
      have := List.append_eq_nil_iff.1 h1.symm
      rw [this.2] at h3; exact h3
  | cons c t ih =>
    simp only [starM, Bool.or_eq_true, Bool.and_eq_true, ih]
    constructor
    · rintro (h | ⟨hc, u, v, h1, h2, h3⟩)
      · exact ⟨[], c :: t, rfl, by simp, h⟩
      · exact ⟨c :: u, v, by rw [h1]; rfl, by simp [hc]; exact h2, h3⟩
    · rintro ⟨u, v, h1, h2, h3⟩
      cases u with
      | nil => left; rw [List.nil_append] at h1; rw [h1]; exact h3
      | cons d u =>
        right
        rw [List.cons_append] at h1
        obtain ⟨rfl, h9⟩ := List.cons.inj h1
        exact ⟨h2 _ (by simp), u, v, h9, fun x hx => h2 x (by simp [hx]), h3⟩
theorem match_app (a b : List Part) (t : Bs) : matchB (a ++ b) t = true ↔ ∃ u v, t = u ++ v ∧ matchB a u = true ∧ matchB b v = true := by
  induction a generalizing t with
  | nil =>
    constructor
    · intro h; exact ⟨[], t, rfl, rfl, h⟩
    · rintro ⟨u, v, h1, h2, h3⟩
      have : u = [] := by simpa [matchB] using h2
      rw [h1, this]; exact h3
  | cons p ps ih =>
    obtain ⟨f, m⟩ := p
    cases m with
    | true =>
      rw [List.cons_append]
      simp only [matchB, if_true]
      rw [star_iff]
      constructor
      · rintro ⟨u, v, h1, h2, h3⟩
        obtain ⟨u', v', h4, h5, h6⟩ := (ih v).1 h3
        exact ⟨u ++ u', v', by rw [h1, h4, List.append_assoc], (star_iff _ _ _).2 ⟨u, u', rfl, h2, h5⟩, h6⟩
      · rintro ⟨u, v, h1, h2, h3⟩
        obtain ⟨u', v', h4, h5, h6⟩ := (star_iff _ _ _).1 h2
        exact ⟨u', v' ++ v, by rw [h1, h4, List.append_assoc], h5, (ih _).2 ⟨v', v, rfl, h6, h3⟩⟩
    | false =>
      rw [List.cons_append]
      cases t with
      | nil =>
        simp only [matchB]
        constructor
        · intro h; simp at h
        · rintro ⟨u, v, h1, h2, h3⟩
          have := List.append_eq_nil_iff.1 h1.symm
          rw [this.1] at h2; simp at h2
      | cons c t =>
        simp only [matchB]
        constructor
        · intro h
          simp only [Bool.false_eq_true, if_false, Bool.and_eq_true] at h
          obtain ⟨u', v', h4, h5, h6⟩ := (ih t).1 h.2
          exact ⟨c :: u', v', by rw [h4]; rfl, by simp [h.1, h5], h6⟩
        · rintro ⟨u, v, h1, h2, h3⟩
          cases u with
          | nil => simp at h2
          | cons d u =>
            rw [List.cons_append] at h1
            obtain ⟨rfl, h9⟩ := List.cons.inj h1
            simp only [Bool.false_eq_true, if_false, Bool.and_eq_true] at h2 ⊢
            exact ⟨h2.1, (ih t).2 ⟨u, v, h9, h2.2, h3⟩⟩
theorem match_many (f : UInt8 → Bool) (v : Bs) : matchB [(f, true)] v = true ↔ ∀ c ∈ v, f c = true := by
  simp only [matchB, if_true]
  rw [star_iff]
  constructor
  · rintro ⟨u, w, h1, h2, h3⟩
    have : w = [] := by simpa [matchB] using h3
    rw [this, List.append_nil] at h1; rw [h1]; exact h2
  · intro h; exact ⟨v, [], by simp, h, rfl⟩
theorem match_one (f : UInt8 → Bool) (v : Bs) : matchB [(f, false)] v = true ↔ ∃ c, v = [c] ∧ f c = true := by
  cases v with
  | nil => simp [matchB]
  | cons c t =>
    simp only [matchB, Bool.false_eq_true, if_false, Bool.and_eq_true]
    constructor
    · rintro ⟨h1, h2⟩; exact ⟨c, by rw [List.isEmpty_iff.1 h2], h1⟩
    · rintro ⟨d, h1, h2⟩
      obtain ⟨rfl, rfl⟩ := List.cons.inj h1
      exact ⟨h2, rfl⟩
theorem bool_iff {a b : Bool} (h : a = true ↔ b = true) : a = b := by cases a <;> cases b <;> simp_all
/-- one byte more -/
theorem snoc_one (l : List Part) (f : UInt8 → Bool) (u : Bs) (c : UInt8) : matchB (l ++ [(f, false)]) (u ++ [c]) = (f c && matchB l u) := by
  apply bool_iff
  rw [match_app, Bool.and_eq_true]
  constructor
  · rintro ⟨a, b, h1, h2, h3⟩
    obtain ⟨d, rfl, hd⟩ := (match_one f b).1 h3
    obtain ⟨h4, h5⟩ := List.append_inj' h1 rfl
    obtain rfl : c = d := by simpa using h5
    rw [h4]; exact ⟨hd, h2⟩
  · rintro ⟨h1, h2⟩; exact ⟨u, [c], rfl, h2, (match_one f _).2 ⟨c, rfl, h1⟩⟩
theorem snoc_many (l : List Part) (f : UInt8 → Bool) (u : Bs) (c : UInt8) : matchB (l ++ [(f, true)]) (u ++ [c]) = (matchB l (u ++ [c]) || (f c && matchB (l ++ [(f, true)]) u)) := by
  apply bool_iff
  rw [Bool.or_eq_true, Bool.and_eq_true, match_app, match_app]
  constructor
  · rintro ⟨a, b, h1, h2, h3⟩
    have h3 := (match_many f b).1 h3
    rcases List.eq_nil_or_concat b with rfl | ⟨b', d, rfl⟩
    · left; rw [List.append_nil] at h1; rw [h1]; exact h2
    · right
      rw [List.concat_eq_append, ← List.append_assoc] at h1
      obtain ⟨h4, h5⟩ := List.append_inj' h1 rfl
      obtain rfl : c = d := by simpa using h5
      exact ⟨h3 _ (by simp), a, b', h4, h2, (match_many f _).2 (fun x hx => h3 x (by simp [hx]))⟩
  · rintro (h | ⟨h1, a, b, h2, h3, h4⟩)
    · exact ⟨u ++ [c], [], by simp, h, (match_many f _).2 (by simp)⟩
    · refine ⟨a, b ++ [c], by rw [h2, List.append_assoc], h3, (match_many f _).2 ?_⟩
      intro x hx
      rw [List.mem_append, List.mem_singleton] at hx
      rcases hx with hx | rfl
      · exact (match_many f _).1 h4 x hx
      · exact h1
theorem nil_one (l : List Part) (f : UInt8 → Bool) : matchB (l ++ [(f, false)]) [] = false := by
  rw [← Bool.not_eq_true, match_app]
  rintro ⟨a, b, h1, h2, h3⟩
  have := List.append_eq_nil_iff.1 h1.symm
  rw [this.2] at h3; simp [matchB] at h3
theorem nil_many (l : List Part) (f : UInt8 → Bool) : matchB (l ++ [(f, true)]) [] = matchB l [] := by
  apply bool_iff
  rw [match_app]
  constructor
  · rintro ⟨a, b, h1, h2, h3⟩
    have := List.append_eq_nil_iff.1 h1.symm
    rw [this.1] at h2; exact h2
  · intro h; exact ⟨[], [], rfl, h, rfl⟩
theorem nil_snoc (u : Bs) (c : UInt8) : matchB [] (u ++ [c]) = false := by simp [matchB]
/-- the part at a place may stand for many -/
def manyAt (l : List Part) (k : Nat) : Bool := ((l[k]?).map (·.2)).getD false
/-- what the program holds at a place, a text's front read -/
def stB (l : List Part) (k : Nat) (u : Bs) : Bool := if manyAt l k = true then matchB (l.take (k + 1)) u else matchB (l.take k) u
theorem st_all (l : List Part) (u : Bs) : stB l l.length u = matchB l u := by
  unfold stB manyAt
  rw [List.getElem?_eq_none (Nat.le_refl _)]
  simp
theorem take_at (l : List Part) (k : Nat) (p : Part) (h : l[k]? = some p) : l.take (k + 1) = l.take k ++ [p] := by
  rw [List.take_add_one, h]; rfl
theorem st_nil0 (l : List Part) : stB l 0 [] = true := by
  unfold stB
  cases h : l[0]? with
  | none => unfold manyAt; rw [h]; rfl
  | some p =>
    unfold manyAt
    rw [h]
    obtain ⟨f, m⟩ := p
    cases m with
    | false => rfl
    | true =>
      show matchB (l.take (0 + 1)) [] = true
      rw [take_at l 0 _ h, nil_many]; rfl
/-- at a place that is left by a skip alone, nothing read -/
theorem st_nil (l : List Part) (k : Nat) (p : Part) (h : l[k]? = some p) : stB l (k + 1) [] = (stB l k [] && p.2) := by
  have h1 : stB l (k + 1) [] = matchB (l.take (k + 1)) [] := by
    unfold stB
    split
    · next hm =>
      cases hq : l[k + 1]? with
      | none => unfold manyAt at hm; rw [hq] at hm; simp at hm
      | some q =>
        obtain ⟨f, m⟩ := q
        unfold manyAt at hm; rw [hq] at hm
        have : m = true := by simpa using hm
        subst this
        rw [take_at l (k + 1) _ hq, nil_many]
    · rfl
  rw [h1]
  obtain ⟨f, m⟩ := p
  unfold stB manyAt
  rw [h]
  cases m with
  | false => rw [take_at l k _ h, nil_one]; simp
  | true => simp
/-- what comes to a place from the one ahead of it -/
def cameB (l : List Part) (u : Bs) (c : UInt8) : Nat → Bool
  | 0 => false
  | j + 1 => match l[j]? with | some p => if p.2 then stB l j (u ++ [c]) else stB l j u && p.1 c | none => false
def stayB (l : List Part) (k : Nat) (u : Bs) (c : UInt8) : Bool := match l[k]? with | some p => p.2 && stB l k u && p.1 c | none => false
/-- a place, one byte further: by what stood there, and what stood ahead of it -/
theorem st_here (l : List Part) (k : Nat) (u : Bs) (c : UInt8) (hk : k ≤ l.length) : stB l k (u ++ [c]) = (stayB l k u c || cameB l u c k) := by
  have hfront : matchB (l.take k) (u ++ [c]) = cameB l u c k := by
    cases k with
    | zero => exact nil_snoc u c
    | succ j =>
      have hj : j < l.length := by omega
      obtain ⟨p, hp⟩ : ∃ p, l[j]? = some p := ⟨_, List.getElem?_eq_getElem hj⟩
      show _ = (match l[j]? with | some p => if p.2 then stB l j (u ++ [c]) else stB l j u && p.1 c | none => false)
      rw [hp]
      obtain ⟨f, m⟩ := p
      cases m with
      | false =>
        simp only [Bool.false_eq_true, if_false]
        rw [take_at l j _ hp, snoc_one, Bool.and_comm]
        have : stB l j u = matchB (l.take j) u := by unfold stB manyAt; rw [hp]; rfl
        rw [this]
      | true =>
        simp only [if_true]
        have : stB l j (u ++ [c]) = matchB (l.take (j + 1)) (u ++ [c]) := by unfold stB manyAt; rw [hp]; rfl
        rw [this]
  rw [← hfront]
  unfold stayB
  cases hq : l[k]? with
  | none =>
    unfold stB manyAt; rw [hq]; simp
  | some p =>
    obtain ⟨f, m⟩ := p
    cases m with
    | false => unfold stB manyAt; rw [hq]; simp
    | true =>
      have h1 : ∀ v, stB l k v = matchB (l.take k ++ [(f, true)]) v := by intro v; unfold stB manyAt; rw [hq, ← take_at l k _ hq]; rfl
      rw [h1, h1, snoc_many]
      simp only [Bool.true_and]
      rw [Bool.or_comm, Bool.and_comm (f c)]
end Go.Proofs.Ytcapaiiegfedmaa
namespace Go.Proofs.Ytcapaiiegfedmaa
def memberB (c : UInt8) : Bool := c != 93 && c != 91 && c != 47 && c != 92
def anyB (slash : Bool) : UInt8 → Bool := fun c => slash || c != 47
def justB (d : UInt8) : UInt8 → Bool := fun c => c == d
def noneB : UInt8 → Bool := fun _ => false
def withB (f : UInt8 → Bool) (lo hi : UInt8) : UInt8 → Bool := fun c => f c || (decide (lo ≤ c) && decide (c ≤ hi))
/-- the members of a set, up to its closing bracket -/
def setB (f : UInt8 → Bool) : Nat → Bs → Option ((UInt8 → Bool) × Bs)
  | 0, _ => none
  | n + 1, s => match s with
    | [] => none
    | c :: t => if c = 93 then some (f, t) else if memberB c = false then none else
      match t with
      | d :: e :: r => if d = 45 ∧ e ≠ 93 then (if memberB e = false ∨ e < c then none else setB (withB f c e) n r) else setB (withB f c c) n t
      | _ => setB (withB f c c) n t
/-- a set, behind its opening bracket -/
def class2 (no : Bool) (t : Bs) : Option (Part × Bs) :=
  match t with
  | [] => none
  | c :: _ => if c = 93 then none else (setB noneB t.length t).map (fun r => ((fun c => (r.1 c != no) && c != 47, false), r.2))
def classB (s : Bs) : Option (Part × Bs) :=
  match s with
  | [] => none
  | c :: t => if c = 33 then class2 true t else class2 false (c :: t)
def oneP (s : Bs) : Option (Part × Bs) :=
  match s with
  | [] => none
  | c :: t =>
    if c = 42 then (match t with | d :: r => if d = 42 then some ((anyB true, true), r) else some ((anyB false, true), t) | [] => some ((anyB false, true), t))
    else if c = 63 then some ((anyB false, false), t)
    else if c = 91 then classB t
    else if c = 92 then (match t with | [] => none | d :: r => some ((justB d, false), r))
    else some ((justB c, false), t)
def parseN : Nat → Bs → Option (List Part)
  | 0, s => if s.isEmpty then some [] else none
  | n + 1, s => if s.isEmpty then some [] else match oneP s with | none => none | some (p, r) => (parseN n r).map (p :: ·)
def parseB (s : Bs) : Option (List Part) := if 64 < s.length then none else parseN s.length s
def globB (p t : Bs) : Bool := match parseB p with | none => false | some l => matchB l t
/- what is left is shorter -/
theorem set_less (f : UInt8 → Bool) (n : Nat) (s : Bs) (r : (UInt8 → Bool) × Bs) (h : setB f n s = some r) : r.2.length < s.length := by
  induction n generalizing f s with
  | zero => simp [setB] at h
  | succ n ih =>
    unfold setB at h
    match s with
    | [] => simp at h
    | c :: t =>
      simp only at h
      split at h
      · cases h; simp
      · split at h
        · cases h
        · split at h
          · split at h
            · split at h
              · cases h
              · have := ih _ _ h; simp; omega
            · have := ih _ _ h; simp at this ⊢; omega
          · have := ih _ _ h; simp at this ⊢; omega
/-- more steps do no harm -/
theorem set_more (f : UInt8 → Bool) (n m : Nat) (s : Bs) (hn : s.length ≤ n) (hm : s.length ≤ m) : setB f n s = setB f m s := by
  induction n generalizing f s m with
  | zero =>
    have : s = [] := List.length_eq_zero_iff.1 (by omega)
    subst this
    cases m <;> rfl
  | succ n ih =>
    cases m with
    | zero =>
      have : s = [] := List.length_eq_zero_iff.1 (by omega)
      subst this; rfl
    | succ m =>
      match s with
      | [] => rfl
      | c :: t =>
        simp only [List.length_cons] at hn hm
        unfold setB
        simp only
        match t with
        | [] => rw [ih _ m [] (by simp) (by simp)]
        | [d] => rw [ih _ m [d] (by simpa using hn) (by simpa using hm)]
        | d :: e :: r =>
          simp only [List.length_cons] at hn hm
          simp only
          rw [ih _ m r (by omega) (by omega), ih _ m (d :: e :: r) (by simp; omega) (by simp; omega)]
theorem class2_less (no : Bool) (t : Bs) (r : Part × Bs) (h : class2 no t = some r) : r.2.length < t.length := by
  unfold class2 at h
  split at h
  · cases h
  · split at h
    · cases h
    · rw [Option.map_eq_some_iff] at h
      obtain ⟨a, ha, rfl⟩ := h
      exact set_less _ _ _ _ ha
theorem class_less (s : Bs) (r : Part × Bs) (h : classB s = some r) : r.2.length < s.length := by
  unfold classB at h
  split at h
  · cases h
  · split at h
    · have := class2_less _ _ _ h; simp; omega
    · exact class2_less _ _ _ h
theorem one_less (s : Bs) (r : Part × Bs) (h : oneP s = some r) : r.2.length < s.length := by
  unfold oneP at h
  split at h
  · cases h
  · split at h
    · split at h
      · split at h <;> (cases h; simp <;> omega)
      · cases h; simp
    · split at h
      · cases h; simp
      · split at h
        · have := class_less _ _ h; simp; omega
        · split at h
          · split at h
            · cases h
            · cases h; simp; omega
          · cases h; simp
theorem parse_more (n m : Nat) (s : Bs) (hn : s.length ≤ n) (hm : s.length ≤ m) : parseN n s = parseN m s := by
  induction n generalizing s m with
  | zero =>
    have : s = [] := List.length_eq_zero_iff.1 (by omega)
    subst this
    cases m <;> rfl
  | succ n ih =>
    cases m with
    | zero =>
      have : s = [] := List.length_eq_zero_iff.1 (by omega)
      subst this; rfl
    | succ m =>
      unfold parseN
      cases ho : oneP s with
      | none => rfl
      | some r =>
        have := one_less s r ho
        simp only
        rw [ih m r.2 (by omega) (by omega)]
/-- the pattern's parts, without its length -/
def partsB (s : Bs) : Option (List Part) := parseN s.length s
theorem parts_nil : partsB [] = some [] := rfl
theorem parts_cons (s : Bs) (h : s ≠ []) : partsB s = match oneP s with | none => none | some (p, r) => (partsB r).map (p :: ·) := by
  unfold partsB
  match s, h with
  | c :: t, _ =>
    show parseN (t.length + 1) (c :: t) = _
    rw [parseN]
    simp only [List.isEmpty_cons, Bool.false_eq_true, if_false]
    cases ho : oneP (c :: t) with
    | none => rfl
    | some r =>
      have := one_less _ r ho
      simp only [List.length_cons] at this
      simp only
      rw [parse_more t.length r.2.length r.2 (by omega) (Nat.le_refl _)]
theorem glob_parts (p t : Bs) : globB p t = if 64 < p.length then false else match partsB p with | none => false | some l => matchB l t := by
  unfold globB parseB
  by_cases h : 64 < p.length
  · rw [if_pos h, if_pos h]
  · rw [if_neg h, if_neg h]; rfl
end Go.Proofs.Ytcapaiiegfedmaa
