/- Glob: Match, by its rows. · Glob: Match of a pattern's text. -/
import Derived.Test.YtcapaiiegfedmaaRt16
namespace Go.Proofs.Ytcapaiiegfedmaa
open Go.RowKit Go.Shelf
def accB (l : List Part) (i : Nat) (c : UInt8) : Bool := ((l[i]?).map (fun p => p.1 c)).getD false
def nxG (l : List Part) (now : Nat → Bool) (c : UInt8) (m : Nat) : Nat → Bool
  | 0 => decide (0 < m) && manyAt l 0 && now 0 && accB l 0 c
  | i + 1 => (decide (i + 1 < m) && manyAt l (i + 1) && now (i + 1) && accB l (i + 1) c) || (decide (i < m) && !manyAt l i && now i && accB l i c)
theorem nx_start (l : List Part) (now : Nat → Bool) (c : UInt8) (n : Nat) : rowV n (fun _ => false) = rowV n (nxG l now c 0) := by
  apply rowV_ext; intro i _
  cases i <;> simp [nxG]
theorem nx_keep (l : List Part) (now : Nat → Bool) (c : UInt8) (n m : Nat) (h : (now m && accB l m c) = false) : rowV n (nxG l now c m) = rowV n (nxG l now c (m + 1)) := by
  apply rowV_ext; intro i _
  have h2 : ∀ j, (decide (j < m + 1) && manyAt l j && now j && accB l j c) = (decide (j < m) && manyAt l j && now j && accB l j c) := by
    intro j
    by_cases hj : j = m
    · subst hj; simp [Bool.and_assoc, h]
    · have : decide (j < m + 1) = decide (j < m) := by rw [decide_eq_decide]; omega
      rw [this]
  have h3 : ∀ j, (decide (j < m + 1) && !manyAt l j && now j && accB l j c) = (decide (j < m) && !manyAt l j && now j && accB l j c) := by
    intro j
    by_cases hj : j = m
    · subst hj; simp [Bool.and_assoc, h]
    · have : decide (j < m + 1) = decide (j < m) := by rw [decide_eq_decide]; omega
      rw [this]
  cases i with
  | zero => simp only [nxG, h2]
  | succ i => simp only [nxG, h2, h3]
theorem nx_many (l : List Part) (now : Nat → Bool) (c : UInt8) (n m : Nat) (h : (now m && accB l m c) = true) (hm : manyAt l m = true) : rowV n (fun i => if i = m then true else nxG l now c m i) = rowV n (nxG l now c (m + 1)) := by
  apply rowV_ext; intro i _
  rw [Bool.and_eq_true] at h
  have h2 : ∀ j, j ≠ m → (decide (j < m + 1) && manyAt l j && now j && accB l j c) = (decide (j < m) && manyAt l j && now j && accB l j c) := by
    intro j hj
    have : decide (j < m + 1) = decide (j < m) := by rw [decide_eq_decide]; omega
    rw [this]
  have h3 : ∀ j, (decide (j < m + 1) && !manyAt l j && now j && accB l j c) = (decide (j < m) && !manyAt l j && now j && accB l j c) := by
    intro j
    by_cases hj : j = m
    · subst hj; rw [hm]; simp
    · have : decide (j < m + 1) = decide (j < m) := by rw [decide_eq_decide]; omega
      rw [this]
  by_cases hi : i = m
  · subst hi
    rw [if_pos rfl]
    cases i with
    | zero => simp [nxG, hm, h.1, h.2]
    | succ i => simp [nxG, hm, h.1, h.2]
  · rw [if_neg hi]
    cases i with
    | zero => simp only [nxG, h2 0 hi]
    | succ i => simp only [nxG, h2 (i + 1) hi, h3]
theorem nx_one (l : List Part) (now : Nat → Bool) (c : UInt8) (n m : Nat) (h : (now m && accB l m c) = true) (hm : manyAt l m = false) : rowV n (fun i => if i = m + 1 then true else nxG l now c m i) = rowV n (nxG l now c (m + 1)) := by
  apply rowV_ext; intro i _
  rw [Bool.and_eq_true] at h
  have h2 : ∀ j, (decide (j < m + 1) && manyAt l j && now j && accB l j c) = (decide (j < m) && manyAt l j && now j && accB l j c) := by
    intro j
    by_cases hj : j = m
    · subst hj; rw [hm]; simp
    · have : decide (j < m + 1) = decide (j < m) := by rw [decide_eq_decide]; omega
      rw [this]
  have h3 : ∀ j, j ≠ m → (decide (j < m + 1) && !manyAt l j && now j && accB l j c) = (decide (j < m) && !manyAt l j && now j && accB l j c) := by
    intro j hj
    have : decide (j < m + 1) = decide (j < m) := by rw [decide_eq_decide]; omega
    rw [this]
  by_cases hi : i = m + 1
  · subst hi
    rw [if_pos rfl]
    simp [nxG, hm, h.1, h.2]
  · rw [if_neg hi]
    cases i with
    | zero => simp only [nxG, h2]
    | succ i => simp only [nxG, h2, h3 i (by omega)]
theorem many_of (l : List Part) (k : Nat) (p : Part) (h : l[k]? = some p) : manyAt l k = p.2 := by unfold manyAt; rw [h]; rfl
theorem acc_of (l : List Part) (k : Nat) (c : UInt8) (p : Part) (h : l[k]? = some p) : accB l k c = p.1 c := by unfold accB; rw [h]; rfl
theorem match_first (l : List Part) (j : Nat) (hj : j ≤ l.length) : skG l (fun i => decide (i = 0)) j = stB l j [] := by
  induction j with
  | zero => rw [st_nil0]; rfl
  | succ j ih =>
    obtain ⟨p, hp⟩ : ∃ p, l[j]? = some p := ⟨_, List.getElem?_eq_getElem (by omega)⟩
    show (decide (j + 1 = 0) || (skG l _ j && manyAt l j)) = _
    rw [ih (by omega), st_nil l j p hp, many_of l j p hp]; simp
theorem match_next (l : List Part) (u : Bs) (c : UInt8) (j : Nat) (hj : j ≤ l.length) : skG l (nxG l (fun i => stB l i u) c l.length) j = stB l j (u ++ [c]) := by
  induction j with
  | zero =>
    rw [st_here l 0 u c hj]
    show nxG l _ c l.length 0 = _
    unfold stayB
    cases h : l[0]? with
    | none =>
      have : l.length = 0 := by rw [List.getElem?_eq_none_iff] at h; omega
      simp [nxG, cameB, this]
    | some p =>
      have hl := (List.getElem?_eq_some_iff.1 h).1
      simp [nxG, cameB, many_of l 0 p h, acc_of l 0 c p h, hl]
  | succ j ih =>
    rw [st_here l (j + 1) u c hj]
    show (nxG l _ c l.length (j + 1) || (skG l _ j && manyAt l j)) = _
    rw [ih (by omega)]
    have hjl : j < l.length := by omega
    obtain ⟨q, hq⟩ : ∃ q, l[j]? = some q := ⟨_, List.getElem?_eq_getElem hjl⟩
    have hcame : cameB l u c (j + 1) = if q.2 then stB l j (u ++ [c]) else stB l j u && q.1 c := by
      show (match l[j]? with | some p => if p.2 then stB l j (u ++ [c]) else stB l j u && p.1 c | none => false) = _
      rw [hq]
    rw [hcame]
    have hstay : (decide (j + 1 < l.length) && manyAt l (j + 1) && stB l (j + 1) u && accB l (j + 1) c) = stayB l (j + 1) u c := by
      unfold stayB
      cases h : l[j + 1]? with
      | none =>
        have : ¬ j + 1 < l.length := by rw [List.getElem?_eq_none_iff] at h; omega
        simp [this]
      | some p =>
        have hl := (List.getElem?_eq_some_iff.1 h).1
        simp [many_of l (j + 1) p h, acc_of l (j + 1) c p h, hl]
    simp only [nxG, hstay, many_of l j q hq, acc_of l j c q hq]
    cases q.2 <;> simp [hjl]
theorem row_first (l : List Part) : rowV (l.length + 1) (skG l (fun i => decide (i = 0))) = rowV (l.length + 1) (fun j => stB l j []) :=
  rowV_ext _ _ _ (fun i hi => match_first l i (by omega))
theorem row_next (l : List Part) (u : Bs) (c : UInt8) : rowV (l.length + 1) (skG l (nxG l (fun i => stB l i u) c l.length)) = rowV (l.length + 1) (fun j => stB l j (u ++ [c])) :=
  rowV_ext _ _ _ (fun i hi => match_next l u c i (by omega))
section
variable {ops : Array Oper} {rest : List Oper} {o : Oper} {a : Act} {w : World} {Q : Exit → Act → World → Prop}
theorem info_bool : ∃ i, Try.prog.info? 4 = some i ∧ i.zero = some (.bool false) ∧ i.size = 1 ∧ i.bytes = 1 := by
  have h : (Try.prog.info? 4).map (fun i => (i.zero, i.size, i.bytes)) = some (some (.bool false), 1, 1) := by kernel_rfl
  obtain ⟨i, h1, h2, h3, h4⟩ := info_parts h
  exact ⟨i, h1, h2, h3, h4⟩
theorem step_make (dst : Nat) (hd : o.dst = some dst) (hg : o.guard = none) (x y : Operand) (ho : o.op = .makeSlice 176 x y) (n : Nat) (hx : a.eval x = .int .i64 ((n : Nat) : Int)) (hy : a.eval y = .int .i64 ((n : Nat) : Int)) (hn : n ≤ 1000000) (hn0 : 0 < n)
    (h : ∀ w', Hid (w'.heap[w.heap.size]? = some (.cells (rowV n (fun _ => false)) 4 (0, 0))) → w.heap.size < w'.heap.size → Hid (Below w.heap.size w w') → wpList Try.prog ops Q rest (a.put (some dst) (.slice (some ⟨w.heap.size, 0, none⟩) n n)) w') : wpList Try.prog ops Q (o :: rest) a w := by
  obtain ⟨i, h1, h2, h3, h4⟩ := info_bool
  refine wpList_make_full w hg x y 176 ho w.heap.size 4 i (.bool false) 1 Try.underlying176 h1 h2 h3 .i64 .i64 _ _ n hx hy rfl rfl (by rw [h4]; omega) (by unfold maxLen; omega) (Nat.le_refl _) ?_
  intro w' hown hgr
  rw [hd]
  rcases hown.2 with ⟨e, _⟩ | ⟨g, cap, cur, e, _, hh, _, _, hsz, ht⟩
  · cases e
  · cases e
    refine h w' ?_ (Array.getElem?_eq_some_iff.1 hh).1 ⟨hgr.os, hgr.tape, hgr.output, hgr.size, fun k hk => hgr.block k hk (by simp)⟩
    show _ = _
    rw [hh]
    have : cur = rowV n (fun _ => false) := by
      rw [Nat.mul_one] at hsz ht
      rw [List.take_of_length_le (by simp; omega)] at ht
      refine rowV_of n _ cur hsz (fun k hk => ?_)
      have hk2 : cur.toList[k]? = (madeCells (Value.cells (.bool false)) n).toList[k]? := by rw [ht]
      rw [Array.getElem?_toList, Array.getElem?_toList] at hk2
      rw [hk2]
      simp [madeCells, Value.cells, hk, Nat.mod_one]
    rw [this]
end
section
variable {P : Program} {ops : Array Oper} {rest : List Oper} {o : Oper} {a : Act} {w : World} {Q : Exit → Act → World → Prop}
theorem step_box (dst : Nat) (hd : o.dst = some dst) (hg : o.guard = none) (t : TypeId) (x : Operand) (ho : o.op = .box t x) (v : Value) (hx : a.eval x = v)
    (h : ∀ w', Hid (w'.heap[w.heap.size]? = some (.cells v.cells t (0, 0))) → w.heap.size < w'.heap.size → Hid (Below w.heap.size w w') → wpList P ops Q rest (a.put (some dst) (.pointer (some ⟨w.heap.size, 0, none⟩))) w') : wpList P ops Q (o :: rest) a w := by
  refine Great.wpList_runTo hg (some dst) hd _ (w.alloc (.cells v.cells t)) ?_ (h _ (Lib.hid (World.alloc_heap_new _ _)) (by simp) (Lib.hid ((Below.refl _ _).alloc (Nat.le_refl _) _)))
  unfold execOp
  simp [ho, hx, Instr.box, newVar, newRow]
end
theorem first_row (n : Nat) : rowV (n + 1) (fun i => if i = 0 then true else false) = rowV (n + 1) (fun i => decide (i = 0)) := by
  apply rowV_ext; intro i _
  by_cases h : i = 0 <;> simp [h]
set_option maxRecDepth 100000 in
set_option maxHeartbeats 6000000 in
theorem match_walk (A : Option Addr) (c : Nat) (l : List Part) (s : ByteArray) (w : World) (hp : Slc w A (partsV l)) (hn : l.length ≤ 1000) (hs : s.size ≤ 100000) :
    Calls Try.prog 87 #[.agg #[.slice A l.length c], .string s] w fun e w' => e = .returned (.bool (matchB l (L s))) ∧ Below w.heap.size w w' := by
  have HPP := Lib.hid hp
  have HAB : Hid (0 < l.length → ∀ x, A = some x → x.block < w.heap.size) := by
    intro h0 x hx
    obtain ⟨q, hq⟩ : ∃ q, l[0]? = some q := ⟨_, List.getElem?_eq_getElem h0⟩
    obtain ⟨b, o, h1, h2, _⟩ := parts_range hp hq
    rw [h1] at hx; cases hx; exact h2
  clear hp
  go_enter Try.func87, Try.ntmps87
  go_wp2_with (first
    | (refine step_box 2 rfl rfl 118 _ rfl (.agg #[.slice A l.length c]) rfl ?_; intro w1 HX1 hs1 HB1; simp only [Act.put, List.setIfInBounds_toArray, List.set_cons_zero, List.set_cons_succ]; have cb1 := cell1 (v := .slice A l.length c) HX1.out)
    | (refine step_make 14 rfl rfl _ _ rfl (l.length + 1) rfl rfl (by omega) (by omega) ?_; intro w2 HN hs2 HB2; simp only [Act.put, List.setIfInBounds_toArray, List.set_cons_zero, List.set_cons_succ]; have c0 := cell_row HN.out 0 (by omega); have f0 := free_row HN.out 0; have HX2 := Lib.hid ((HB2.out.block _ hs1).trans HX1.out); have cb2 := cell1 (v := .slice A l.length c) HX2.out))
  have HN1 := Lib.hid (set_row HN.out 0 true)
  have HX3 := Lib.hid ((cell_set_other w2 w1.heap.size 0 w.heap.size (.bool true) (Nat.ne_of_lt hs1)).trans HX2.out)
  have HB3 : Hid (Below w.heap.size w (w2.setCell ⟨w1.heap.size, 0, none⟩ (.bool true))) := (HB1.out.trans (HB2.out.mono (Nat.le_of_lt hs1))).setCell (by show w.heap.size ≤ w1.heap.size; omega) (.bool true)
  have hs3 : w1.heap.size < (w2.setCell ⟨w1.heap.size, 0, none⟩ (.bool true)).heap.size := by simpa [World.setCell] using hs2
  rw [first_row] at HN1
  generalize w2.setCell ⟨w1.heap.size, 0, none⟩ (.bool true) = w3 at *
  clear HN HX2 c0 f0 cb1 cb2 HX1 HB1 HB2 hs2
  generalize w1.heap.size = nb at *
  refine (skip_walk A c l nb (l.length + 1) _ w3 (HPP.out.keep HB3.out) HN1.out (fun h0 x hx => by have := HAB.out h0 x hx; omega) (by omega) (by omega)).mono ?_
  rintro e w4 ⟨rfl, hrow, hG⟩
  rw [row_first] at hrow
  have HROW := Lib.hid hrow
  have HX4 := Lib.hid ((hG.2.2.2.2 w.heap.size (by omega) (Nat.ne_of_lt hs1)).trans HX3.out)
  have HB4 := Lib.hid (HB3.out.trans (hG.to (Nat.le_of_lt hs1) (by omega)))
  clear hrow hG HN1 HX3 HB3 hs3
  go_wp2_with fail
  go_loopw [5, 22] (fun v i wr => ∃ k nb : Nat, k ≤ s.size ∧ i = .int .i64 k ∧ v = .slice (some ⟨nb, 0, none⟩) (l.length + 1) (l.length + 1) ∧ w.heap.size < nb ∧
      Hid (wr.heap[nb]? = some (.cells (rowV (l.length + 1) (fun j => stB l j ((L s).take k))) 4 (0, 0))) ∧ Hid (wr.heap[w.heap.size]? = some (.cells (Value.cells (.agg #[.slice A l.length c])) 118 (0, 0))) ∧ Hid (Below w.heap.size w wr))
    (fun _ i _ => s.size - (intOf i).toNat)
  case atStart => exact ⟨0, nb, Nat.zero_le _, rfl, rfl, hs1, by rw [List.take_zero]; exact HROW.out, HX4.out, HB4.out⟩
  case round =>
    obtain ⟨k, nb, hk, rfl, rfl, hnb, HNOW, HBX, HBW⟩ := hrel
    rename World => wo
    have hnbl := (Array.getElem?_eq_some_iff.1 HNOW.out).1
    have cb := cell1 (v := .slice A l.length c) HBX.out
    by_cases hlt : k < s.size
    · have HTK := Lib.hid (take_next s k hlt)
      have hch8 : s[k].toNat < 256 := s[k].toNat_lt
      have HRN := Lib.hid (row_next l ((L s).take k) s[k])
      have hk0 : (0 : Int) ≤ (k : Int) := Int.natCast_nonneg _
      have hk1 : (k : Int) < (s.size : Int) := by omega
      go_wp2_with (first
        | (refine step_make 29 rfl rfl _ _ rfl (l.length + 1) rfl rfl (by omega) (by omega) ?_; intro w5 HN5 hs5 HB5; simp only [Act.put, List.setIfInBounds_toArray, List.set_cons_zero, List.set_cons_succ]; have HBX5 := Lib.hid ((HB5.out.block _ (by omega)).trans HBX.out); have cb5 := cell1 (v := .slice A l.length c) HBX5.out))
      go_loopw [33] (fun i wr => ∃ j : Nat, j ≤ l.length ∧ i = .int .i64 j ∧ Hid (wr.heap[wo.heap.size]? = some (.cells (rowV (l.length + 1) (nxG l (fun i => stB l i ((L s).take k)) s[k] j)) 4 (0, 0))) ∧ Hid (Grew w5 wo.heap.size wr)) (fun i _ => l.length - (intOf i).toNat)
      case atStart => exact ⟨0, Nat.zero_le _, rfl, by rw [← nx_start]; exact HN5.out, Grew.refl _ _⟩
      case round =>
        obtain ⟨j, hj, rfl, HNX, HG⟩ := hrel
        have hgs := HG.out.2.2.2.1
        have HBQ : Hid (Below w.heap.size w wr) := HBW.out.trans ((HB5.out.mono (by omega)).trans (HG.out.to (by omega) (by omega)))
        have HNQ := Lib.hid ((HG.out.2.2.2.2 nb (by omega) (by omega)).trans ((HB5.out.block _ hnbl).trans HNOW.out))
        have HBXQ := Lib.hid ((HG.out.2.2.2.2 w.heap.size (by omega) (by omega)).trans HBX5.out)
        by_cases hjl : j < l.length
        · obtain ⟨p, hpk⟩ : ∃ p, l[j]? = some p := ⟨_, List.getElem?_eq_getElem hjl⟩
          obtain ⟨pb, po, rfl, hpl, hpr⟩ := parts_range (HPP.out.keep HBQ.out) hpk
          have HPR := Lib.hid hpr
          clear hpr
          have HS0 := Lib.hid (nx_keep l (fun i => stB l i ((L s).take k)) s[k] (l.length + 1) j)
          have HS1 := Lib.hid (nx_many l (fun i => stB l i ((L s).take k)) s[k] (l.length + 1) j)
          have HS2 := Lib.hid (nx_one l (fun i => stB l i ((L s).take k)) s[k] (l.length + 1) j)
          rw [many_of l j p hpk, acc_of l j s[k] p hpk] at *
          have hi0 : (0 : Int) ≤ (j : Int) := Int.natCast_nonneg _
          have hi1 : (j : Int) < (l.length : Int) := by omega
          have hi2 : (j : Int) < (l.length : Int) + 1 := by omega
          have hi3 : (0 : Int) ≤ (j : Int) + 1 := by omega
          have hi4 : (j : Int) + 1 < (l.length : Int) + 1 := by omega
          have hi5 : (0 : Int) ≤ (s[k].toNat : Int) := Int.natCast_nonneg _
          have hi6 : (s[k].toNat : Int) < 256 := by omega
          have hof : s[k].toNat.toUInt8 = s[k] := by simp
          clear hpk
          have hbw : wo.heap.size < wr.heap.size := by omega
          cases ha : stB l j ((L s).take k) <;> cases hpc : p.1 s[k] <;> cases hpm : p.2
          all_goals
            go_wp2_with (first
              | (refine step_part 37 rfl rfl _ rfl _ _ rfl p HPR.out ?_; simp only [Act.put, List.setIfInBounds_toArray, List.set_cons_zero, List.set_cons_succ])
              | (refine step_new 9 rfl rfl 173 rfl _ _ zero_part ?_; intro w6 HR6 hs6 HB6; simp only [Act.put, List.setIfInBounds_toArray, List.set_cons_zero, List.set_cons_succ])
              | (refine step_store rfl rfl 173 _ _ rfl _ rfl _ _ rfl _ HR6.out (size_partV _) (rows_same _) (all_partV _) ?_; intro w9 HX HB9; have HBN := Lib.hid (HB6.out.trans (HB9.out _ (Nat.le_refl _))); have HN9 := Lib.hid ((HBN.out.block _ (by omega)).trans HNQ.out); have HX9 := Lib.hid ((HBN.out.block _ hbw).trans HNX.out); have c1 := cell_row HN9.out j (by omega); rw [ha] at c1; have c2 := cell_row HX.out s[k].toNat (by omega); rw [if_pos (by omega), hof, hpc] at c2; have c3 := cell_row HX.out 256 (by omega); rw [if_neg (by omega), hpm] at c3; have c4 := cell_row HX9.out j (by omega); have f4 := free_row HX9.out j; have c5 := cell_row HX9.out (j + 1) (by omega); have f5 := free_row HX9.out (j + 1)))
          all_goals first
            | (refine ⟨⟨j + 1, by omega, by go_num, by rw [← HS0.out (by rw [ha, hpc]; rfl)]; exact HX9.out, HG.out.below HBN.out⟩, by simp [intOf]; omega⟩)
            | (refine ⟨⟨j + 1, by omega, by go_num, by rw [← HS1.out (by rw [ha, hpc]; rfl) hpm]; exact set_row HX9.out j true, (HG.out.below HBN.out).set _ _⟩, by simp [intOf]; omega⟩)
            | (refine ⟨⟨j + 1, by omega, by go_num, by rw [← HS2.out (by rw [ha, hpc]; rfl) hpm]; exact set_row HX9.out (j + 1) true, (HG.out.below HBN.out).set _ _⟩, by simp [intOf]; omega⟩)
        · obtain rfl : j = l.length := by omega
          have cbq := cell1 (v := .slice A l.length c) HBXQ.out
          go_wp2_with fail
          refine (skip_walk A c l wo.heap.size (l.length + 1) _ wr (HPP.out.keep HBQ.out) HNX.out (fun h0 x hx => by have := HAB.out h0 x hx; omega) (by omega) (by omega)).mono ?_
          rintro e w7 ⟨rfl, hrow, hG⟩
          rw [HRN.out, ← HTK.out] at hrow
          have HROW7 := Lib.hid hrow
          have HG7 := Lib.hid hG
          have HB7 : Hid (Below w.heap.size w w7) := HBQ.out.trans (hG.to (by omega) (by omega))
          have HX7 := Lib.hid ((hG.2.2.2.2 w.heap.size (by omega) (by omega)).trans HBXQ.out)
          have hs7 := (Array.getElem?_eq_some_iff.1 hrow).1
          clear hrow hG
          go_wp2_with fail
          refine ⟨⟨k + 1, wo.heap.size, by omega, by go_num, rfl, by omega, HROW7.out, HX7.out, HB7.out⟩, by simp [intOf]; omega⟩
    · obtain rfl : k = s.size := by omega
      have c9 := cell_row HNOW.out l.length (by omega)
      rw [take_whole, st_all] at c9
      have hl0 : (0 : Int) ≤ (l.length : Int) := Int.natCast_nonneg _
      have hl1 : (l.length : Int) < (l.length : Int) + 1 := by omega
      go_wp2_with fail
      go_ret
      exact ⟨rfl, HBW.out⟩
end Go.Proofs.Ytcapaiiegfedmaa
namespace Go.Proofs.Ytcapaiiegfedmaa
open Go.RowKit Go.Shelf
theorem parts_count (n : Nat) (s : Bs) (l : List Part) (hn : s.length ≤ n) (h : partsB s = some l) : l.length ≤ s.length := by
  induction n generalizing s l with
  | zero =>
    have : s = [] := List.length_eq_zero_iff.1 (by omega)
    subst this
    rw [parts_nil] at h; cases h; simp
  | succ n ih =>
    by_cases h0 : s = []
    · subst h0; rw [parts_nil] at h; cases h; simp
    · rw [parts_cons s h0] at h
      cases ho : oneP s with
      | none => rw [ho] at h; cases h
      | some q =>
        obtain ⟨p, r⟩ := q
        rw [ho] at h
        simp only [Option.map_eq_some_iff] at h
        obtain ⟨lr, hr, rfl⟩ := h
        have hl := one_less s _ ho
        simp only at hl
        have := ih r lr (by omega) hr
        simp only [List.length_cons]; omega
theorem parse_count (s : Bs) (l : List Part) (h : parseB s = some l) : l.length ≤ 64 := by
  unfold parseB at h
  split at h
  · cases h
  · have := parts_count s.length s l (Nat.le_refl _) h; omega
theorem glob_none (p t : Bs) (h : parseB p = none) : globB p t = false := by unfold globB; rw [h]
theorem glob_some (p t : Bs) (l : List Part) (h : parseB p = some l) : globB p t = matchB l t := by unfold globB; rw [h]
set_option maxRecDepth 100000 in
set_option maxHeartbeats 2000000 in
theorem glob_walk (p s : ByteArray) (hp : p.size ≤ 100000) (hs : s.size ≤ 100000) (w : World) :
    Calls Try.prog 21 #[.string p, .string s] w fun e w' => e = .returned (.bool (globB (L p) (L s))) ∧ Below w.heap.size w w' := by
  have P1 := Lib.hid (fun W => parse_walk p hp W)
  cases h : parseB (L p) with
  | none =>
    have HG := Lib.hid (glob_none (L p) (L s) h)
    rw [h] at P1
    clear h
    have hne : ((if 64 < p.size then (5 : Int) else 3) == 0) = false := by split <;> rfl
    have P2 : Hid (∀ W, Calls Try.prog 86 #[.string p] W fun e w' => e = .returned (.tuple #[.agg #[.slice none 0 0], .int .i64 (if 64 < p.size then 5 else 3)]) ∧ Below W.heap.size W w') := fun W => P1.out W
    clear P1
    generalize (if 64 < p.size then (5 : Int) else 3) = n at *
    go_enter Try.func21, Try.ntmps21
    go_wp2_with fail
    refine (P2.out _).mono ?_
    rintro e w1 ⟨rfl, hb⟩
    go_wp2_with fail
    go_ret
    rw [HG.out]
    exact ⟨rfl, hb.alloc hb.size _⟩
  | some l =>
    have HG := Lib.hid (glob_some (L p) (L s) l h)
    have hl := parse_count (L p) l h
    rw [h] at P1
    clear h
    have M1 := Lib.hid (fun A c W (h : Slc W A (partsV l)) => match_walk A c l s W h (by omega) hs)
    go_enter Try.func21, Try.ntmps21
    go_wp2_with fail
    refine (P1.out _).mono ?_
    rintro e w1 ⟨⟨A, c, h1, hc, hsl⟩, hb⟩
    subst h1
    have HS := Lib.hid (hsl.keep ((Below.refl _ _).alloc (Nat.le_refl _) (.cells #[.slice A l.length c] 118)))
    clear hsl
    go_wp2_with fail
    refine (M1.out _ _ _ HS.out).mono ?_
    rintro e w2 ⟨rfl, hb1⟩
    replace hb := (hb.alloc hb.size _).trans (hb1.mono (by simp; have := hb.size; omega)); clear hb1
    go_wp2_with fail
    go_ret
    rw [HG.out]
    exact ⟨rfl, hb⟩
end Go.Proofs.Ytcapaiiegfedmaa
