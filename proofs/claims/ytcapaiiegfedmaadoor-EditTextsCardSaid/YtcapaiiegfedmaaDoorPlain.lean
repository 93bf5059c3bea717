/- Plain laws on paths as lists of bytes: no program in sight. -/
import Init
namespace Go.Proofs.YtcapaiiegfedmaaDoor
abbrev Bs := List UInt8

def letterB (c : UInt8) : Bool := (97 ≤ c && c ≤ 122) || (65 ≤ c && c ≤ 90) || (48 ≤ c && c ≤ 57) || c == 46 || c == 95 || c == 45
def nameB (s : Bs) : Bool := !s.isEmpty && decide (s.length ≤ 12) && s != [46] && s != [46, 46] && s.all letterB

/-- What stands between slashes; never empty. -/
def split1 : Bs → List Bs
  | [] => [[]]
  | c :: s => if c = 47 then [] :: split1 s else (c :: (split1 s).headD []) :: (split1 s).tail
def cut (p : Bs) : List Bs := if p = [] then [] else split1 p
def rightB (p : Bs) : Bool := (cut p).all nameB && decide ((cut p).length ≤ 16)
def names (p : Bs) : List Bs := if rightB p then cut p else []
/-- Names with slashes between. -/
def glue : List Bs → Bs
  | [] => []
  | [a] => a
  | a :: b :: l => a ++ 47 :: glue (b :: l)

theorem split1_ne (s : Bs) : split1 s ≠ [] := by cases s <;> simp [split1]; split <;> simp
theorem split1_eq (s : Bs) : split1 s = (split1 s).headD [] :: (split1 s).tail := by
  cases h : split1 s with
  | nil => exact absurd h (split1_ne s)
  | cons a l => simp
theorem split1_no (a : Bs) (h : 47 ∉ a) : split1 a = [a] := by
  induction a with
  | nil => rfl
  | cons c s ih =>
    have hc : c ≠ 47 := fun e => h (by simp [e])
    have := ih (fun m => h (by simp [m]))
    simp [split1, hc, this]
theorem split1_app (a s : Bs) : split1 (a ++ 47 :: s) = split1 a ++ split1 s := by
  induction a with
  | nil => simp [split1]
  | cons c t ih =>
    by_cases hc : c = 47
    · simp [split1, hc, ih]
    · simp only [List.cons_append, split1, hc, if_false, ih]
      rw [split1_eq t]; simp
theorem split1_slash (a s : Bs) (h : 47 ∉ a) : split1 (a ++ 47 :: s) = a :: split1 s := by
  rw [split1_app, split1_no a h]; rfl
theorem split1_snoc (a : Bs) (c : UInt8) (h : c ≠ 47) : split1 (a ++ [c]) = (split1 a).dropLast ++ [(split1 a).getLastD [] ++ [c]] := by
  induction a with
  | nil => simp [split1, h]
  | cons d t ih =>
    have hne := split1_ne t
    by_cases hd : d = 47
    · subst hd
      simp only [List.cons_append, split1, if_true, ih]
      generalize split1 t = x at hne ih ⊢
      cases x with
      | nil => exact absurd rfl hne
      | cons x l => simp
    · simp only [List.cons_append, split1, hd, if_false, ih]
      generalize split1 t = x at hne ih ⊢
      cases x with
      | nil => exact absurd rfl hne
      | cons x l =>
        cases l with
        | nil => simp
        | cons y m => simp
theorem split1_nosep (s : Bs) : ∀ n ∈ split1 s, 47 ∉ n := by
  induction s with
  | nil => simp [split1]
  | cons c t ih =>
    by_cases hc : c = 47
    · simp [split1, hc]; exact ih
    · simp only [split1, hc, if_false, List.mem_cons]
      rintro n (rfl | hn)
      · rw [List.mem_cons]
        rintro (e | e)
        · exact hc e.symm
        · refine ih ((split1 t).headD []) ?_ e
          rw [split1_eq t]; simp
      · refine ih n ?_
        rw [split1_eq t]; exact List.mem_cons_of_mem _ hn
theorem glue_cons (a : Bs) (l : List Bs) (h : l ≠ []) : glue (a :: l) = a ++ 47 :: glue l := by
  cases l with
  | nil => exact absurd rfl h
  | cons b m => rfl
theorem glue_head (c : UInt8) (a : Bs) (l : List Bs) : glue ((c :: a) :: l) = c :: glue (a :: l) := by
  cases l <;> rfl
theorem glue_split1 (s : Bs) : glue (split1 s) = s := by
  induction s with
  | nil => rfl
  | cons c t ih =>
    by_cases hc : c = 47
    · simp only [split1, hc, if_true]
      rw [glue_cons _ _ (split1_ne t), ih]; rfl
    · simp only [split1, hc, if_false]
      rw [glue_head, ← split1_eq t, ih]
theorem split1_glue (l : List Bs) (hl : l ≠ []) (h : ∀ n ∈ l, 47 ∉ n) : split1 (glue l) = l := by
  induction l with
  | nil => exact absurd rfl hl
  | cons a m ih =>
    by_cases hm : m = []
    · subst hm; exact split1_no a (h a (by simp))
    · rw [glue_cons _ _ hm, split1_slash _ _ (h a (by simp)), ih hm (fun n hn => h n (by simp [hn]))]
theorem glue_cut (p : Bs) : glue (cut p) = p := by
  unfold cut; split
  · next h => subst h; rfl
  · exact glue_split1 p
theorem glue_app (a b : List Bs) (ha : a ≠ []) (hb : b ≠ []) : glue (a ++ b) = glue a ++ 47 :: glue b := by
  induction a with
  | nil => exact absurd rfl ha
  | cons x m ih =>
    by_cases hm : m = []
    · subst hm; simp only [List.cons_append, List.nil_append]; rw [glue_cons _ _ hb]; rfl
    · rw [List.cons_append, glue_cons _ _ (by simp [hm]), ih hm, glue_cons _ _ hm]; simp

/-! ### the order -/
/-- two names, byte by byte -/
def textC : Bs → Bs → Int
  | [], [] => 0
  | [], _ :: _ => -1
  | _ :: _, [] => 1
  | a :: l, b :: m => if a < b then -1 else if b < a then 1 else textC l m
/-- lists of names -/
def listC : List Bs → List Bs → Int
  | [], [] => 0
  | [], _ :: _ => -1
  | _ :: _, [] => 1
  | a :: l, b :: m => if textC a b ≠ 0 then textC a b else listC l m
def refCmp (p q : Bs) : Int := listC (cut p) (cut q)
def keyB (c : UInt8) : Int := if c = 47 then -1 else (c.toNat : Int)
def ordI (a b : Int) : Int := if a < b then -1 else if b < a then 1 else 0
def cmpB : Bs → Bs → Int
  | [], [] => 0
  | [], _ :: _ => -1
  | _ :: _, [] => 1
  | a :: l, b :: m => if a = b then cmpB l m else ordI (keyB a) (keyB b)

theorem u8_lt (a b : UInt8) : a < b ↔ a.toNat < b.toNat := UInt8.lt_iff_toNat_lt
theorem textC_self (a : Bs) : textC a a = 0 := by
  induction a with
  | nil => rfl
  | cons c t ih => simp [textC, ih]
theorem ordI_ne (a b : Int) (h : a ≠ b) : ordI a b ≠ 0 := by unfold ordI; split; simp; split <;> simp; omega
theorem keyB_inj (a b : UInt8) (h : keyB a = keyB b) : a = b := by
  unfold keyB at h
  split at h <;> split at h
  · simp_all
  · have := b.toNat_lt; omega
  · omega
  · exact UInt8.toNat_inj.1 (by omega)
theorem listC_split (p q : Bs) : listC (split1 p) (split1 q) = cmpB p q := by
  induction p generalizing q with
  | nil =>
    cases q with
    | nil => simp [split1, listC, cmpB, textC]
    | cons d u =>
      by_cases hd : d = 47
      · simp only [split1, hd, if_true, listC, textC, cmpB]
        rw [split1_eq u]; simp [listC]
      · simp [split1, hd, listC, textC, cmpB]
  | cons c t ih =>
    cases q with
    | nil =>
      by_cases hc : c = 47
      · simp only [split1, hc, if_true, listC, textC, cmpB]
        rw [split1_eq t]; simp [listC]
      · simp [split1, hc, listC, textC, cmpB]
    | cons d u =>
      by_cases hc : c = 47 <;> by_cases hd : d = 47
      · subst hc; subst hd
        simp only [split1, if_true, listC, textC, cmpB, ne_eq, not_true, if_false]
        exact ih u
      · subst hc
        simp only [split1, hd, if_true, if_false, listC, textC, cmpB]
        have hd' : ¬ (47 : UInt8) = d := fun e => hd e.symm
        simp only [hd', if_false, keyB, hd, ordI]
        have := d.toNat_lt
        simp; omega
      · subst hd
        simp only [split1, hc, if_true, if_false, listC, textC, cmpB, keyB, ordI]
        have := c.toNat_lt
        have h1 : ¬ ((c.toNat : Int) < -1) := by omega
        have h2 : (-1 : Int) < c.toNat := by omega
        simp [h1, h2]
      · by_cases hcd : c = d
        · subst hcd
          simp only [split1, hc, if_false, listC, textC, cmpB, u8_lt, Nat.lt_irrefl, if_true]
          rw [← ih u]
          conv => rhs; rw [split1_eq t, split1_eq u]
          simp only [listC]
        · simp only [split1, hc, hd, if_false, listC, textC, cmpB, hcd, keyB, ordI, u8_lt]
          have hne : c.toNat ≠ d.toNat := fun e => hcd (UInt8.toNat_inj.1 e)
          by_cases hlt : c.toNat < d.toNat
          · simp [hlt]
          · have : d.toNat < c.toNat := by omega
            simp [hlt, this]
theorem refCmp_eq (p q : Bs) : refCmp p q = cmpB p q := by
  unfold refCmp cut
  by_cases hp : p = [] <;> by_cases hq : q = []
  · simp [hp, hq, listC, cmpB]
  · simp only [hp, hq, if_true, if_false]
    rw [split1_eq q]
    cases q with
    | nil => exact absurd rfl hq
    | cons d u => simp [listC, cmpB]
  · simp only [hp, hq, if_true, if_false]
    rw [split1_eq p]
    cases p with
    | nil => exact absurd rfl hp
    | cons d u => simp [listC, cmpB]
  · simp only [hp, hq, if_false]
    exact listC_split p q
theorem cmpB_self (p : Bs) : cmpB p p = 0 := by
  induction p with
  | nil => rfl
  | cons c t ih => simp [cmpB, ih]
theorem cmpB_zero (p q : Bs) : cmpB p q = 0 ↔ p = q := by
  constructor
  · intro h
    induction p generalizing q with
    | nil => cases q <;> simp_all [cmpB]
    | cons c t ih =>
      cases q with
      | nil => simp [cmpB] at h
      | cons d u =>
        simp only [cmpB] at h
        split at h
        · next e => rw [e, ih u h]
        · next e => exact absurd h (ordI_ne _ _ (fun k => e (keyB_inj _ _ k)))
  · rintro rfl; exact cmpB_self p
theorem ordI_neg (a b : Int) : ordI b a = - ordI a b := by unfold ordI; split <;> split <;> (try split) <;> omega
theorem cmpB_neg (p q : Bs) : cmpB q p = - cmpB p q := by
  induction p generalizing q with
  | nil => cases q <;> simp [cmpB]
  | cons c t ih =>
    cases q with
    | nil => simp [cmpB]
    | cons d u =>
      simp only [cmpB]
      by_cases h : c = d
      · subst h; simp [ih u]
      · have h' : ¬ d = c := fun e => h e.symm
        simp [h, h', ordI_neg (keyB c) (keyB d)]
theorem cmpB_range (p q : Bs) : cmpB p q = -1 ∨ cmpB p q = 0 ∨ cmpB p q = 1 := by
  induction p generalizing q with
  | nil => cases q <;> simp [cmpB]
  | cons c t ih =>
    cases q with
    | nil => simp [cmpB]
    | cons d u =>
      simp only [cmpB]
      split
      · exact ih u
      · unfold ordI; split; simp; split <;> simp
theorem ordI_cases (a b : Int) : (ordI a b = -1 ∧ a < b) ∨ (ordI a b = 0 ∧ a = b) ∨ (ordI a b = 1 ∧ b < a) := by
  unfold ordI; split
  · simp_all
  · split
    · simp_all
    · simp; omega
theorem cmpB_trans (p q r : Bs) (h1 : cmpB p q ≤ 0) (h2 : cmpB q r ≤ 0) : cmpB p r ≤ 0 := by
  induction p generalizing q r with
  | nil => cases r <;> simp [cmpB]
  | cons c t ih =>
    cases q with
    | nil => simp [cmpB] at h1
    | cons d u =>
      cases r with
      | nil => simp [cmpB] at h2
      | cons e v =>
        simp only [cmpB] at h1 h2 ⊢
        by_cases hcd : c = d <;> by_cases hde : d = e
        · subst hcd; subst hde; simp only [if_true] at *; exact ih u v h1 h2
        · subst hcd; simp only [if_true, hde, if_false] at *; exact h2
        · subst hde; simp only [if_true, hcd, if_false] at *; exact h1
        · simp only [hcd, hde, if_false] at h1 h2
          have k1 : keyB c ≠ keyB d := fun k => hcd (keyB_inj _ _ k)
          have k2 : keyB d ≠ keyB e := fun k => hde (keyB_inj _ _ k)
          rcases ordI_cases (keyB c) (keyB d) with ⟨_, a1⟩ | ⟨_, a1⟩ | ⟨a0, a1⟩ <;> rcases ordI_cases (keyB d) (keyB e) with ⟨_, b1⟩ | ⟨_, b1⟩ | ⟨b0, b1⟩ <;> first | omega | skip
          have hce : c ≠ e := fun k => by subst k; omega
          rw [if_neg hce]
          unfold ordI; rw [if_pos (by omega)]; simp
/-- the law's three tests -/
theorem cmpB_law (p q r : Bs) : ((cmpB p q > 0 ∨ cmpB q r > 0) ∨ cmpB p r ≤ 0) ∧ ((cmpB p q < 0 ∨ cmpB q r < 0) ∨ cmpB p r ≥ 0) := by
  constructor
  · by_cases h1 : cmpB p q > 0
    · exact .inl (.inl h1)
    · by_cases h2 : cmpB q r > 0
      · exact .inl (.inr h2)
      · exact .inr (cmpB_trans p q r (by omega) (by omega))
  · by_cases h1 : cmpB p q < 0
    · exact .inl (.inl h1)
    · by_cases h2 : cmpB q r < 0
      · exact .inl (.inr h2)
      · have := cmpB_trans r q p (by rw [cmpB_neg]; omega) (by rw [cmpB_neg]; omega)
        rw [cmpB_neg] at this
        exact .inr (by omega)

/-! ### under, within, moved -/
def withinB (p q : Bs) : Bool := rightB p && rightB q && (cut q).isPrefixOf (cut p)
def restB (p q : Bs) : Bs × Bool :=
  if !rightB p || !rightB q || !q.isPrefixOf p then ([], false)
  else if q = [] ∧ p ≠ [] then (47 :: p, true)
  else (p.drop q.length, (p.drop q.length).isEmpty || (p.drop q.length).head? == some 47)
theorem cut_cons (p : Bs) (h : p ≠ []) : cut p = split1 p := by simp [cut, h]
theorem cut_nil : cut [] = [] := rfl
theorem cut_prefix (p q : Bs) (hq : q ≠ []) : (cut q <+: cut p) ↔ (p = q ∨ ∃ r, p = q ++ 47 :: r) := by
  rw [cut_cons q hq]
  constructor
  · intro h
    by_cases hp : p = []
    · subst hp
      rw [cut_nil, List.prefix_nil] at h
      exact absurd h (split1_ne q)
    · rw [cut_cons p hp] at h
      obtain ⟨t, ht⟩ := h
      by_cases hn : t = []
      · subst hn
        left
        rw [← glue_split1 p, ← ht, List.append_nil, glue_split1]
      · right
        refine ⟨glue t, ?_⟩
        rw [← glue_split1 p, ← ht, glue_app _ _ (split1_ne q) hn, glue_split1]
  · rintro (h | ⟨r, h⟩)
    · subst h; rw [cut_cons p hq]; exact List.prefix_refl _
    · subst h; rw [cut_cons _ (by simp), split1_app]; exact List.prefix_append _ _
theorem rest_within (p q : Bs) : (restB p q).2 = withinB p q := by
  unfold restB withinB
  cases hp : rightB p <;> cases hq : rightB q <;> simp only [Bool.not_true, Bool.not_false, Bool.true_or, Bool.or_true, Bool.false_or, Bool.false_and, Bool.and_false, Bool.true_and, if_true]
  by_cases hqe : q = []
  · subst hqe
    by_cases hpe : p = []
    · subst hpe; decide
    · simp [hpe, cut_nil]
  · have key := cut_prefix p q hqe
    by_cases hpre : q.isPrefixOf p = true
    · obtain ⟨r, hr⟩ := List.isPrefixOf_iff_prefix.1 hpre
      subst hr
      simp only [hpre, Bool.not_true, Bool.false_eq_true, if_false, hqe, false_and, List.drop_left]
      rw [Bool.eq_iff_iff, List.isPrefixOf_iff_prefix, key]
      cases r with
      | nil => simp
      | cons c t =>
        simp only [List.isEmpty_cons, Bool.false_or, List.head?_cons, beq_iff_eq, Option.some.injEq]
        constructor
        · rintro rfl; exact .inr ⟨t, rfl⟩
        · rintro (h | ⟨r, h⟩)
          · have := congrArg List.length h; simp at this
          · have := List.append_cancel_left h; simp at this; exact this.1
    · simp only [hpre, Bool.not_false, if_true]
      symm
      rw [Bool.eq_false_iff, ne_eq, List.isPrefixOf_iff_prefix, key]
      rintro (h | ⟨r, h⟩)
      · subst h; exact hpre (List.isPrefixOf_iff_prefix.2 (List.prefix_refl _))
      · subst h; exact hpre (List.isPrefixOf_iff_prefix.2 (List.prefix_append _ _))
/-- what lies behind q: empty just where they are one -/
theorem rest_empty (p q : Bs) (h : (restB p q).2 = true) : (restB p q).1 = [] ↔ p = q := by
  unfold restB at h ⊢
  split at h
  · simp at h
  · next hc =>
    rw [if_neg hc]
    simp only [Bool.or_eq_true, Bool.not_eq_true', not_or, Bool.not_eq_false] at hc
    obtain ⟨r, hr⟩ := List.isPrefixOf_iff_prefix.1 hc.2
    subst hr
    split
    · next hx => obtain ⟨hx1, hx2⟩ := hx; subst hx1; simp at hx2 ⊢; exact hx2
    · simp
def underB (p q : Bs) : Bool := withinB p q && p != q
theorem rest_under (p q : Bs) : ((restB p q).2 && (restB p q).1 != []) = underB p q := by
  unfold underB
  rw [← rest_within]
  cases h : (restB p q).2 with
  | false => simp
  | true =>
    simp only [Bool.true_and]
    rw [Bool.eq_iff_iff, bne_iff_ne, bne_iff_ne, ne_eq, ne_eq, rest_empty p q h]
/-- what is right is right of its names alone -/
theorem nameB_nosep (n : Bs) (h : nameB n = true) : 47 ∉ n := by
  intro hm
  simp only [nameB, Bool.and_eq_true] at h
  have := List.all_eq_true.1 h.2 47 hm
  simp [letterB] at this
theorem nameB_ne (n : Bs) (h : nameB n = true) : n ≠ [] := by
  rintro rfl; simp [nameB] at h
theorem glue_ne (l : List Bs) (hl : l ≠ []) (h : ∀ n ∈ l, n ≠ []) : glue l ≠ [] := by
  cases l with
  | nil => exact absurd rfl hl
  | cons a m =>
    cases m with
    | nil => exact h a (by simp)
    | cons b t => simp [glue]
theorem cut_glue (l : List Bs) (h : l.all nameB = true) : cut (glue l) = l := by
  rw [List.all_eq_true] at h
  by_cases hl : l = []
  · subst hl; rfl
  · rw [cut_cons _ (glue_ne l hl (fun n hn => nameB_ne n (h n hn))), split1_glue l hl (fun n hn => nameB_nosep n (h n hn))]
theorem right_glue (l : List Bs) (h : l.all nameB = true) : rightB (glue l) = decide (l.length ≤ 16) := by
  unfold rightB; rw [cut_glue l h, h]; simp
theorem right_cut (p : Bs) (h : rightB p = true) : (cut p).all nameB = true ∧ (cut p).length ≤ 16 := by
  simp only [rightB, Bool.and_eq_true, decide_eq_true_eq] at h; exact h
/-- the document's: what becomes of p, moved from one path to another one -/
def moveL (p a t : Bs) : List Bs := cut t ++ (cut p).drop (cut a).length
def refMove (p a t : Bs) : Bs × Bool :=
  if withinB p a && rightB t && decide ((moveL p a t).length ≤ 16) then (glue (moveL p a t), true) else ([], false)
def outB (p a t : Bs) : Bs := if t = [] ∧ (restB p a).1 ≠ [] then (restB p a).1.drop 1 else t ++ (restB p a).1
def rebaseB (p a t : Bs) : Bs × Bool :=
  if !(restB p a).2 || !rightB t then ([], false) else if !rightB (outB p a t) then ([], false) else (outB p a t, true)
theorem moveL_names (p a t : Bs) (hp : rightB p = true) (ht : rightB t = true) : (moveL p a t).all nameB = true := by
  unfold moveL
  rw [List.all_append, (right_cut t ht).1, Bool.true_and, List.all_eq_true]
  intro n hn
  exact List.all_eq_true.1 (right_cut p hp).1 n (List.mem_of_mem_drop hn)
theorem out_glue (p a t : Bs) (h : (restB p a).2 = true) : outB p a t = glue (moveL p a t) := by
  have hw := h
  rw [rest_within] at hw
  simp only [withinB, Bool.and_eq_true] at hw
  obtain ⟨⟨hp, ha⟩, hpre⟩ := hw
  have hpre' := List.isPrefixOf_iff_prefix.1 hpre
  unfold outB moveL
  have hr : (restB p a).1 = if a = [] ∧ p ≠ [] then 47 :: p else p.drop a.length := by
    unfold restB at h ⊢
    split at h
    · simp at h
    · next hc => rw [if_neg hc]; split <;> rfl
  by_cases hae : a = []
  · subst hae
    by_cases hpe : p = []
    · subst hpe; simp [hr, cut_nil, glue_cut]
    · simp only [hr, hpe, ne_eq, not_false_eq_true, and_self, if_true, cut_nil, List.length_nil, List.drop_zero, reduceCtorEq, and_true, List.drop_succ_cons]
      by_cases hte : t = []
      · subst hte; simp [cut_nil, glue_cut]
      · rw [if_neg hte, glue_app _ _ (by rw [cut_cons t hte]; exact split1_ne t) (by rw [cut_cons p hpe]; exact split1_ne p), glue_cut, glue_cut]
  · rw [if_neg (fun hx => hae hx.1)] at hr
    rw [hr]
    rcases (cut_prefix p a hae).1 hpre' with h1 | ⟨r, h1⟩
    · subst h1
      simp [glue_cut]
    · subst h1
      have hd : (cut (a ++ 47 :: r)).drop (cut a).length = split1 r := by
        rw [cut_cons (a ++ 47 :: r) (by simp), split1_app, cut_cons a hae, List.drop_left]
      rw [hd, List.drop_left]
      by_cases hte : t = []
      · subst hte; simp [cut_nil, glue_split1]
      · rw [if_neg (fun hx => hte hx.1), glue_app _ _ (by rw [cut_cons t hte]; exact split1_ne t) (split1_ne r), glue_cut, glue_split1]
theorem rebase_eq (p a t : Bs) : rebaseB p a t = refMove p a t := by
  unfold rebaseB refMove
  rw [← rest_within p a]
  cases h : (restB p a).2 with
  | false => simp
  | true =>
    cases ht : rightB t with
    | false => simp
    | true =>
      have hw := h
      rw [rest_within] at hw
      simp only [withinB, Bool.and_eq_true] at hw
      rw [out_glue p a t h, right_glue _ (moveL_names p a t hw.1.1 ht)]
      by_cases hl : (moveL p a t).length ≤ 16 <;> simp [hl]
/-- moved back it is what it was -/
theorem move_back (p a t : Bs) (h : (refMove p a t).2 = true) : refMove (refMove p a t).1 t a = (p, true) ∧ withinB (refMove p a t).1 t = true := by
  unfold refMove at h ⊢
  split at h
  · next hc =>
    rw [if_pos hc]
    simp only [Bool.and_eq_true, decide_eq_true_eq] at hc
    obtain ⟨⟨hw, ht⟩, hl⟩ := hc
    have hw0 := hw
    simp only [withinB, Bool.and_eq_true] at hw
    obtain ⟨⟨hp, ha⟩, hpre⟩ := hw
    have hn := moveL_names p a t hp ht
    have hcut := cut_glue _ hn
    have hrq : rightB (glue (moveL p a t)) = true := by rw [right_glue _ hn]; simpa using hl
    have hwq : withinB (glue (moveL p a t)) t = true := by
      simp only [withinB, hrq, ht, Bool.true_and, hcut]
      exact List.isPrefixOf_iff_prefix.2 (List.prefix_append _ _)
    have hm : moveL (glue (moveL p a t)) t a = cut p := by
      show cut a ++ (cut (glue (moveL p a t))).drop (cut t).length = cut p
      rw [hcut]
      show cut a ++ (cut t ++ (cut p).drop (cut a).length).drop (cut t).length = cut p
      rw [List.drop_left]
      obtain ⟨r, hr⟩ := List.isPrefixOf_iff_prefix.1 hpre
      rw [← hr, List.drop_left]
    refine ⟨?_, hwq⟩
    have hc2 : (withinB (glue (moveL p a t)) t && rightB a && decide ((moveL (glue (moveL p a t)) t a).length ≤ 16)) = true := by
      rw [hm, hwq, ha]; simpa using (right_cut p hp).2
    rw [if_pos hc2, hm, glue_cut]
  · simp at h
end Go.Proofs.YtcapaiiegfedmaaDoor
