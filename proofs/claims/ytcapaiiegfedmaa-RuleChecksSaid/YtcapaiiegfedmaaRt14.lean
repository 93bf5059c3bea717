/- Glob: just, all, member. · Glob: a set, read by places. -/
import Derived.Test.YtcapaiiegfedmaaRt13
namespace Go.Proofs.Ytcapaiiegfedmaa
open Go.RowKit Go.Shelf
set_option maxRecDepth 100000 in
set_option maxHeartbeats 2000000 in
theorem just_walk (c : UInt8) (w : World) : Calls Try.prog 144 #[.int .u8 (c.toNat : Int)] w fun e w' => e = .returned (.agg (setV (justB c))) ∧ Below w.heap.size w w' := by
  have hc : c.toNat < 256 := c.toNat_lt
  have hi1 : (c.toNat : Int) < 256 := by omega
  have hi0 : (0 : Int) ≤ (c.toNat : Int) := by omega
  go_enter Try.func144, Try.ntmps144
  go_wp2_with (first
    | (refine step_new 2 rfl rfl 171 rfl _ _ zero_set ?_; intro w1 HR hs1 HB1; simp only [Act.put, List.setIfInBounds_toArray, List.set_cons_zero, List.set_cons_succ])
    | (refine step_new 3 rfl rfl 171 rfl _ _ zero_set ?_; intro w2 HO hs2 HB2; simp only [Act.put, List.setIfInBounds_toArray, List.set_cons_zero, List.set_cons_succ]; have hc2 := cell_row HO.out c.toNat hc; have hf2 := free_row HO.out c.toNat)
    | (refine step_load 6 rfl rfl 171 _ rfl _ rfl _ _ _ (set_row HO.out _ _) _ Try.underlying171 rfl (size_row _) ?_; simp only [Act.put, List.setIfInBounds_toArray, List.set_cons_zero, List.set_cons_succ])
    | (refine step_store rfl rfl 171 _ _ rfl _ rfl _ _ rfl _ (((HB2.out.setCell (by show w1.heap.size ≤ w1.heap.size; omega) _).block _ (by omega)).trans HR.out) (size_row _) (by rw [rowV_size, rowV_size]) (rowV_all _ _) ?_; intro w3 HX HB3))
  rw [just_row] at HX
  refine bodyPost_ret (results_cell rfl _ _ _ _ _ rfl (loaded_set HX.out)) rfl ⟨rfl, ?_⟩
  exact ((HB1.out.trans (HB2.out.mono (by omega))).setCell (by show w.heap.size ≤ w1.heap.size; omega) _).trans (HB3.out _ (Nat.le_refl _))
def allRow (s : Bool) (k : Nat) : Nat → Bool := fun j => if j < k then anyB s j.toUInt8 else false
theorem all_next (s : Bool) (k : Nat) : rowV 256 (fun i => if i = k then anyB s k.toUInt8 else allRow s k i) = rowV 256 (allRow s (k + 1)) := by
  apply rowV_ext
  intro i hi
  unfold allRow
  by_cases h : i = k
  · subst h; rw [if_pos rfl, if_pos (by omega)]
  · rw [if_neg h]
    by_cases h2 : i < k
    · rw [if_pos h2, if_pos (by omega)]
    · rw [if_neg h2, if_neg (by omega)]
theorem all_start (s : Bool) : rowV 256 (fun _ => false) = rowV 256 (allRow s 0) := by
  apply rowV_ext; intro i hi; unfold allRow; rw [if_neg (by omega)]
theorem all_end (s : Bool) : rowV 256 (allRow s 256) = setV (anyB s) := by
  apply rowV_ext; intro i hi; unfold allRow; rw [if_pos hi]
theorem byte_of (k : Nat) (h : k < 256) : k.toUInt8.toNat = k := by simp; omega
theorem any_false (k : Nat) (h : k < 256) : ((k : Int) != 47) = anyB false k.toUInt8 := by
  unfold anyB
  rw [Bool.false_or, ← bne_byte k.toUInt8 47 47 rfl, byte_of k h]
set_option maxRecDepth 100000 in
set_option maxHeartbeats 2000000 in
theorem all_walk (s : Bool) (w : World) : Calls Try.prog 142 #[.bool s] w fun e w' => e = .returned (.agg (setV (anyB s))) ∧ Below w.heap.size w w' := by
  go_enter Try.func142, Try.ntmps142
  go_wp2_with (first
    | (refine step_new 2 rfl rfl 171 rfl _ _ zero_set ?_; intro w1 HR hs1 HB1; simp only [Act.put, List.setIfInBounds_toArray, List.set_cons_zero, List.set_cons_succ])
    | (refine step_new 3 rfl rfl 171 rfl _ _ zero_set ?_; intro w2 HO hs2 HB2; simp only [Act.put, List.setIfInBounds_toArray, List.set_cons_zero, List.set_cons_succ]))
  rw [all_start s] at HO
  have HB := Lib.hid (HB1.out.trans (HB2.out.mono (Nat.le_of_lt hs1)))
  have HRB : Hid (w2.heap[w.heap.size]? = some (.cells (rowV 256 (fun _ => false)) 171 (0, 0))) := (HB2.out.block _ hs1).trans HR.out
  generalize w1.heap.size = ob at *
  clear HB1 HB2 HR
  go_loopw [5] (fun i wr => ∃ k : Nat, k ≤ 256 ∧ i = .int .i64 k ∧ Hid (wr.heap[ob]? = some (.cells (rowV 256 (allRow s k)) 171 (0, 0))) ∧ Hid (wr.heap[w.heap.size]? = some (.cells (rowV 256 (fun _ => false)) 171 (0, 0))) ∧ Hid (Below w.heap.size w wr)) (fun i _ => 256 - (intOf i).toNat)
  case atStart => exact ⟨0, by omega, rfl, HO, HRB, HB⟩
  case round =>
    obtain ⟨k, hk, rfl, HK, HRK, HBK⟩ := hrel
    by_cases hlt : k < 256
    · have hc := cell_row HK.out k hlt
      have hf := free_row HK.out k
      have hi0 : (0 : Int) ≤ (k : Int) := Int.natCast_nonneg _
      have hi1 : (k : Int) < 256 := by omega
      have hv := any_false k hlt
      have HN := Lib.hid (fun v => set_row HK.out k v)
      cases s with
      | true =>
        have HE := Lib.hid (all_next true k)
        go_wp2_with fail
        go_roundw
        case rel => exact ⟨k + 1, by omega, by go_num, by rw [← HE.out]; exact HN.out true, (cell_set_other _ _ _ _ _ (by show ¬ w.heap.size = ob; omega)).trans HRK.out, HBK.out.setCell (by show w.heap.size ≤ ob; omega) _⟩
        case measure => simp [intOf]; omega
      | false =>
        have HE := Lib.hid (all_next false k)
        generalize anyB false k.toUInt8 = v at *
        go_wp2_with fail
        go_roundw
        case rel => exact ⟨k + 1, by omega, by go_num, by rw [← HE.out]; exact HN.out v, (cell_set_other _ _ _ _ _ (by show ¬ w.heap.size = ob; omega)).trans HRK.out, HBK.out.setCell (by show w.heap.size ≤ ob; omega) _⟩
        case measure => simp [intOf]; omega
    · obtain rfl : k = 256 := by omega
      rw [all_end] at HK
      go_wp2_with (first
        | (refine step_load 16 rfl rfl 171 _ rfl _ rfl _ _ _ HK.out _ Try.underlying171 rfl (size_set _) ?_; simp only [Act.put, List.setIfInBounds_toArray, List.set_cons_zero, List.set_cons_succ])
        | (refine step_store rfl rfl 171 _ _ rfl _ rfl _ _ rfl _ HRK.out (size_set _) (by rw [rowV_size, setV_size]) (rowV_all _ _) ?_; intro w3 HX HB3))
      refine bodyPost_ret (results_cell rfl _ _ _ _ _ rfl (loaded_set HX.out)) rfl ⟨rfl, HBK.out.trans (HB3.out _ (Nat.le_refl _))⟩
set_option maxRecDepth 100000 in
theorem member_walk (c : UInt8) (w : World) : Calls Try.prog 156 #[.int .u8 (c.toNat : Int)] w fun e w' => e = .returned (.bool (memberB c)) ∧ w = w' := by
  have h1 := bne_byte c 93 93 rfl
  have h2 := bne_byte c 91 91 rfl
  have h3 := bne_byte c 47 47 rfl
  have h4 := bne_byte c 92 92 rfl
  have HM : Hid (memberB c = ((c != 93) && (c != 91) && (c != 47) && (c != 92))) := rfl
  generalize (c != 93) = a1 at *
  generalize (c != 91) = a2 at *
  generalize (c != 47) = a3 at *
  generalize (c != 92) = a4 at *
  rw [HM.out]
  clear HM
  cases a1 <;> cases a2 <;> cases a3 <;> cases a4
  all_goals
    go_enter Try.func156, Try.ntmps156
    go_wp2_with fail
    go_ret
    exact ⟨rfl, rfl⟩
end Go.Proofs.Ytcapaiiegfedmaa
namespace Go.Proofs.Ytcapaiiegfedmaa
open Go.RowKit Go.Shelf
/-- the members of a set, with steps enough -/
def setF (f : UInt8 → Bool) (s : Bs) : Option ((UInt8 → Bool) × Bs) := setB f s.length s
theorem setF_nil (f : UInt8 → Bool) : setF f [] = none := rfl
def tailB (f : UInt8 → Bool) (n : Nat) (c : UInt8) (t : Bs) : Option ((UInt8 → Bool) × Bs) :=
  match t with
  | d :: e :: r => if d = 45 ∧ e ≠ 93 then (if memberB e = false ∨ e < c then none else setB (withB f c e) n r) else setB (withB f c c) n t
  | _ => setB (withB f c c) n t
theorem setF_cons (f : UInt8 → Bool) (c : UInt8) (t : Bs) : setF f (c :: t) = if c = 93 then some (f, t) else if memberB c = false then none else tailB f t.length c t := rfl
theorem setF_end (f : UInt8 → Bool) (t : Bs) : setF f (93 :: t) = some (f, t) := by
  rw [setF_cons, if_pos rfl]
theorem setF_no (f : UInt8 → Bool) (c : UInt8) (t : Bs) (h1 : c ≠ 93) (h2 : memberB c = false) : setF f (c :: t) = none := by
  rw [setF_cons, if_neg h1, if_pos h2]
theorem setF_span (f : UInt8 → Bool) (c e : UInt8) (r : Bs) (h1 : c ≠ 93) (h2 : memberB c = true) (h3 : e ≠ 93) :
    setF f (c :: 45 :: e :: r) = if memberB e = false ∨ e < c then none else setF (withB f c e) r := by
  rw [setF_cons, if_neg h1, if_neg (by rw [h2]; decide)]
  unfold tailB setF
  simp only
  rw [if_pos ⟨trivial, h3⟩, set_more _ _ r.length r (by simp; omega) (Nat.le_refl _)]
theorem setF_one (f : UInt8 → Bool) (c : UInt8) (t : Bs) (h1 : c ≠ 93) (h2 : memberB c = true) (h : ∀ e r, t = 45 :: e :: r → e = 93) : setF f (c :: t) = setF (withB f c c) t := by
  rw [setF_cons, if_neg h1, if_neg (by rw [h2]; decide)]
  unfold setF
  match t, h with
  | [], _ => rfl
  | [d], _ => rfl
  | d :: e :: r, h =>
    show (if d = 45 ∧ e ≠ 93 then _ else _) = _
    rw [if_neg]
    rintro ⟨rfl, he⟩
    exact he (h e r rfl)
theorem drop_cons (s : ByteArray) (k : Nat) (h : k < s.size) : (L s).drop k = s[k] :: (L s).drop (k + 1) := by
  rw [getL]; exact List.drop_eq_getElem_cons (by rw [L_len]; exact h)
theorem drop_none (s : ByteArray) (k : Nat) (h : s.size ≤ k) : (L s).drop k = [] := List.drop_eq_nil_of_le (by rw [L_len]; exact h)
theorem place_span (s : ByteArray) (f : UInt8 → Bool) (k : Nat) (h : k + 2 < s.size) (h1 : s[k] ≠ 93) (h2 : memberB s[k] = true) (h3 : s[k + 1] = 45) (h4 : s[k + 2] ≠ 93) :
    setF f ((L s).drop k) = if memberB s[k + 2] = false ∨ s[k + 2] < s[k] then none else setF (withB f s[k] s[k + 2]) ((L s).drop (k + 3)) := by
  rw [drop_cons s k (by omega), drop_cons s (k + 1) (by omega), drop_cons s (k + 2) h, h3]
  exact setF_span f _ _ _ h1 h2 h4
theorem place_one (s : ByteArray) (f : UInt8 → Bool) (k : Nat) (h : k < s.size) (h1 : s[k] ≠ 93) (h2 : memberB s[k] = true) (h3 : ∀ hk : k + 2 < s.size, s[k + 1] = 45 → s[k + 2] = 93) :
    setF f ((L s).drop k) = setF (withB f s[k] s[k]) ((L s).drop (k + 1)) := by
  rw [drop_cons s k h]
  refine setF_one f _ _ h1 h2 ?_
  intro e r hr
  by_cases hk : k + 2 < s.size
  · rw [drop_cons s (k + 1) (by omega), drop_cons s (k + 2) hk] at hr
    obtain ⟨a1, a2⟩ := List.cons.inj hr
    obtain ⟨a3, _⟩ := List.cons.inj a2
    rw [← a3]; exact h3 hk a1
  · have := congrArg List.length hr
    rw [List.length_drop, L_len] at this
    simp at this; omega
def finP (no : Bool) (r : (UInt8 → Bool) × Bs) : Part × Bs := ((fun c => (r.1 c != no) && c != 47, false), r.2)
theorem class2_eq (no : Bool) (s : ByteArray) (k : Nat) : class2 no ((L s).drop k) = if h : k < s.size then (if s[k] = 93 then none else (setF noneB ((L s).drop k)).map (finP no)) else none := by
  by_cases h : k < s.size
  · rw [dif_pos h, drop_cons s k h]; rfl
  · rw [dif_neg h, drop_none s k (by omega)]; rfl
theorem classB_eq (s : ByteArray) (k : Nat) : classB ((L s).drop k) = if h : k < s.size then (if s[k] = 33 then class2 true ((L s).drop (k + 1)) else class2 false ((L s).drop k)) else none := by
  by_cases h : k < s.size
  · rw [dif_pos h, drop_cons s k h]; rfl
  · rw [dif_neg h, drop_none s k (by omega)]; rfl
theorem classB_no (s : ByteArray) (k : Nat) (h : k < s.size) (hc : s[k] = 33) : classB ((L s).drop k) = class2 true ((L s).drop (k + 1)) := by rw [classB_eq, dif_pos h, if_pos hc]
theorem classB_in (s : ByteArray) (k : Nat) (hc : ∀ h : k < s.size, s[k] ≠ 33) : classB ((L s).drop k) = class2 false ((L s).drop k) := by
  by_cases h : k < s.size
  · rw [classB_eq, dif_pos h, if_neg (hc h)]
  · rw [classB_eq, dif_neg h, drop_none s k (by omega)]; rfl
/-- what a part that is read comes to -/
def PartRes (s : ByteArray) (o : Option (Part × Bs)) (e : Ending) : Prop :=
  match o with
  | none => e = .returned (.tuple #[.agg (rowV 257 (fun _ => false)), .int .i64 0, .bool false])
  | some (p, r) => ∃ next : Nat, next ≤ s.size ∧ r = (L s).drop next ∧ e = .returned (.tuple #[.agg (partV p), .int .i64 next, .bool true])
/-- the reading of a set has come to a place -/
def ReadTo (s : ByteArray) (no : Bool) (first k : Nat) (f : UInt8 → Bool) : Prop :=
  (k = first ∧ f = noneB) ∨ (first < k ∧ class2 no ((L s).drop first) = (setF f ((L s).drop k)).map (finP no))
theorem read_more (s : ByteArray) (no : Bool) (first k k' : Nat) (f g : UInt8 → Bool) (h : ReadTo s no first k f) (hk : k < s.size) (h93 : s[k] ≠ 93) (hlt : k < k') (he : setF f ((L s).drop k) = setF g ((L s).drop k')) : ReadTo s no first k' g := by
  rcases h with ⟨rfl, rfl⟩ | ⟨h1, h2⟩
  · right
    refine ⟨hlt, ?_⟩
    rw [class2_eq, dif_pos hk, if_neg h93, he]
  · right
    exact ⟨by omega, by rw [h2, he]⟩
theorem read_stop (s : ByteArray) (no : Bool) (first k : Nat) (f : UInt8 → Bool) (h : ReadTo s no first k f) (hk : k < s.size) (h93 : s[k] ≠ 93) (he : setF f ((L s).drop k) = none) : class2 no ((L s).drop first) = none := by
  rcases h with ⟨rfl, rfl⟩ | ⟨h1, h2⟩
  · rw [class2_eq, dif_pos hk, if_neg h93, he]; rfl
  · rw [h2, he]; rfl
theorem read_over (s : ByteArray) (no : Bool) (first k : Nat) (f : UInt8 → Bool) (h : ReadTo s no first k f) (hk : s.size ≤ k) : class2 no ((L s).drop first) = none := by
  rcases h with ⟨rfl, rfl⟩ | ⟨h1, h2⟩
  · rw [class2_eq, dif_neg (by omega)]
  · rw [h2, drop_none s k hk]; rfl
theorem read_none (s : ByteArray) (no : Bool) (first : Nat) (hk : first < s.size) (h93 : s[first] = 93) : class2 no ((L s).drop first) = none := by
  rw [class2_eq, dif_pos hk, if_pos h93]
theorem read_done (s : ByteArray) (no : Bool) (first k : Nat) (f : UInt8 → Bool) (h : ReadTo s no first k f) (hk : k < s.size) (h93 : s[k] = 93) (hne : k ≠ first) : class2 no ((L s).drop first) = some (finP no (f, (L s).drop (k + 1))) := by
  rcases h with ⟨rfl, rfl⟩ | ⟨h1, h2⟩
  · exact absurd rfl hne
  · rw [h2, drop_cons s k hk, h93, setF_end]; rfl
/-- the row of a set while a span is laid in -/
def spanRow (f : UInt8 → Bool) (lo j : Nat) : Nat → Bool := fun i => f i.toUInt8 || (decide (lo ≤ i) && decide (i < j))
theorem span_start (f : UInt8 → Bool) (lo : Nat) : setV f = rowV 256 (spanRow f lo lo) := by
  apply rowV_ext
  intro i hi
  unfold spanRow
  have : (decide (lo ≤ i) && decide (i < lo)) = false := by simp
  rw [this, Bool.or_false]
theorem span_next (f : UInt8 → Bool) (lo j : Nat) (h : lo ≤ j) : rowV 256 (fun i => if i = j then true else spanRow f lo j i) = rowV 256 (spanRow f lo (j + 1)) := by
  apply rowV_ext
  intro i hi
  unfold spanRow
  by_cases hij : i = j
  · subst hij; rw [if_pos rfl]; simp [h]
  · rw [if_neg hij]
    congr 2
    rw [decide_eq_decide]; omega
theorem span_end (f : UInt8 → Bool) (lo hi : UInt8) : rowV 256 (spanRow f lo.toNat (hi.toNat + 1)) = setV (withB f lo hi) := by
  apply rowV_ext
  intro i h
  unfold spanRow withB
  have e1 : decide (lo.toNat ≤ i) = decide (lo ≤ i.toUInt8) := by
    rw [decide_eq_decide, UInt8.le_iff_toNat_le, byte_of i h]
  have e2 : decide (i < hi.toNat + 1) = decide (i.toUInt8 ≤ hi) := by
    rw [decide_eq_decide, UInt8.le_iff_toNat_le, byte_of i h]; omega
  rw [e1, e2]
/-- the row of a set while it is closed -/
def finRow (no : Bool) (f : UInt8 → Bool) (j : Nat) : Nat → Bool := fun i => if i < j then (f i.toUInt8 != no) && (i : Int) != 47 else f i.toUInt8
theorem fin_start (no : Bool) (f : UInt8 → Bool) : setV f = rowV 256 (finRow no f 0) := by
  apply rowV_ext; intro i hi; unfold finRow; rw [if_neg (by omega)]
theorem fin_next (no : Bool) (f : UInt8 → Bool) (j : Nat) (hj : j < 256) : rowV 256 (fun i => if i = j then (f j.toUInt8 != no) && (j : Int) != 47 else finRow no f j i) = rowV 256 (finRow no f (j + 1)) := by
  apply rowV_ext
  intro i hi
  unfold finRow
  by_cases hij : i = j
  · subst hij; rw [if_pos rfl, if_pos (by omega)]
  · rw [if_neg hij]
    by_cases h2 : i < j
    · rw [if_pos h2, if_pos (by omega)]
    · rw [if_neg h2, if_neg (by omega)]
theorem fin_end (no : Bool) (f : UInt8 → Bool) (t : Bs) : rowV 257 (fun i => if i < 256 then finRow no f 256 i else false) = partV (finP no (f, t)).1 := by
  apply rowV_ext
  intro i hi
  by_cases h : i < 256
  · rw [if_pos h, if_pos h]
    unfold finRow finP
    rw [if_pos h]
    simp only
    rw [← bne_byte i.toUInt8 47 47 rfl, byte_of i h]
  · rw [if_neg h, if_neg h]; rfl
end Go.Proofs.Ytcapaiiegfedmaa
