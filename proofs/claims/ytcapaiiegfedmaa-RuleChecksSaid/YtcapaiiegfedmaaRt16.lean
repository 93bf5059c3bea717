/- Glob: Parse. · Glob: skip. -/
import Derived.Laws.ResultCell
import Derived.Test.YtcapaiiegfedmaaRt15
namespace Go.Proofs.Ytcapaiiegfedmaa
open Go.RowKit Go.Shelf
def partsV (l : List Part) : List Value := l.flatMap (fun p => (partV p).toList)
theorem partsV_app (a b : List Part) : partsV (a ++ b) = partsV a ++ partsV b := by unfold partsV; rw [List.flatMap_append]
theorem partsV_one (p : Part) : partsV [p] = (partV p).toList := by unfold partsV; simp
theorem elem_part : Elem Try.prog 116 173 257 257 := elem_mk (z := .agg (Array.replicate 257 (.bool false))) Try.underlying116 (by kernel_rfl) (by show (Array.replicate 257 (Value.bool false)).size = 257; simp) (by omega)
section
variable {P : Program} {ops : Array Oper} {rest : List Oper} {o : Oper} {a : Act} {w : World} {Q : Exit → Act → World → Prop}
theorem step_slice1 (dst : Nat) (hd : o.dst = some dst) (hg : o.guard = none) (t e : TypeId) (parts : Array (Nat × Operand)) (ho : o.op = .buildSlice t 1 parts) (l : List (Nat × Value)) (hl : parts.toList.map (fun (i, x) => (i, a.eval x)) = l) (hu : P.underlying t = some (.slice e)) (cells : Array Value)
    (hf : P.builtSlice e 1 l = some cells)
    (h : wpList P ops Q rest (a.put (some dst) (.slice (some ⟨w.heap.size, 0, none⟩) 1 1)) (w.alloc (.cells cells e))) : wpList P ops Q (o :: rest) a w :=
  Great.wpList_buildSliceTo hg t e 1 parts ho w.heap.size rfl (some dst) hd hu cells (by rw [Array.toList_map, hl]; exact hf) h
end
theorem built_one (p : Part) : Try.prog.builtSlice 173 1 [(0, .agg (partV p))] = some (partV p) := by
  have hi := info_part
  unfold Program.builtSlice
  cases hq : Try.prog.info? 173 with
  | none => rw [hq] at hi; simp at hi
  | some i =>
    rw [hq] at hi
    simp only [Option.map_some, Option.some.injEq, Prod.mk.injEq] at hi
    simp only [hi.1, hi.2]
    rw [if_neg (by omega)]
    rw [fill_cons _ _ 0 (.agg (partV p)) [] 0 257 rfl (partV_size p) (by simp)]
    rw [Instr.fill]
    refine congrArg some ?_
    have hz : (laidIn (Value.cells (.agg (partV p))) 0 ((Array.range (1 * 257)).map fun x => (Value.cells (.agg (Array.replicate 257 (.bool false))))[x % (Value.cells (.agg (Array.replicate 257 (.bool false)))).size]!)).size = 257 := by rw [laidIn_eq, fold_asize]; simp
    refine rowV_of 257 _ _ hz (fun k hk => ?_)
    rw [laidIn_eq, fold_array _ _ _ (by show 0 + (partV p).size ≤ _; rw [partV_size]; simp)]
    rw [if_pos ⟨Nat.zero_le _, by show k < 0 + (partV p).size; rw [partV_size]; omega⟩, Nat.sub_zero]
    exact rowV_get _ _ _ hk
theorem cell1 {w : World} {b : Nat} {v : Value} {t : TypeId} {z : Nat × Nat} (h : w.heap[b]? = some (.cells #[v] t z)) : w.cell? ⟨b, 0, none⟩ = some v := by simp [World.cell?, h]
theorem free1 {w : World} {b : Nat} {v : Value} {t : TypeId} (h : w.heap[b]? = some (.cells #[v] t (0, 0))) : w.frozen? ⟨b, 0, none⟩ = false := by simp [World.frozen?, h]
theorem parts_start (s : ByteArray) : partsB (L s) = (partsB ((L s).drop 0)).map ([] ++ ·) := by
  rw [List.drop_zero]; cases partsB (L s) <;> rfl
theorem parts_none (s : ByteArray) (k : Nat) (l : List Part) (hk : k < s.size) (h : partsB (L s) = (partsB ((L s).drop k)).map (l ++ ·)) (ho : oneP ((L s).drop k) = none) : partsB (L s) = none := by
  rw [h, parts_cons _ (by rw [drop_cons s k hk]; simp), ho]; rfl
theorem parts_step (s : ByteArray) (k n : Nat) (l : List Part) (q : Part) (hk : k < s.size) (h : partsB (L s) = (partsB ((L s).drop k)).map (l ++ ·)) (ho : oneP ((L s).drop k) = some (q, (L s).drop n)) : partsB (L s) = (partsB ((L s).drop n)).map ((l ++ [q]) ++ ·) := by
  rw [h, parts_cons _ (by rw [drop_cons s k hk]; simp), ho]
  simp only [Option.map_map]
  congr 1
  funext x; simp
theorem parts_end (s : ByteArray) (l : List Part) (h : partsB (L s) = (partsB ((L s).drop s.size)).map (l ++ ·)) : partsB (L s) = some l := by
  rw [h, drop_none s _ (Nat.le_refl _), parts_nil]; simp
theorem parse_parts (s : ByteArray) : parseB (L s) = if 64 < s.size then none else partsB (L s) := by unfold parseB partsB; rw [L_len]
def ParseRes (s : ByteArray) (o : Option (List Part)) (e : Ending) (w' : World) : Prop :=
  match o with
  | none => e = .returned (.tuple #[.agg #[.slice none 0 0], .int .i64 (if 64 < s.size then 5 else 3)])
  | some l => ∃ A c, e = .returned (.tuple #[.agg #[.slice A l.length c], .int .i64 0]) ∧ l.length ≤ c ∧ Slc w' A (partsV l)
theorem one_on (s : ByteArray) (k n : Nat) (q : Part) (hk : k < s.size) (hn : n ≤ s.size) (ho : oneP ((L s).drop k) = some (q, (L s).drop n)) : k < n := by
  have := one_less _ _ ho
  simp only [List.length_drop, L_len] at this; omega
theorem results_cell2 {fn : Func} {p u : Tmp} {ty : TypeId} (h : fn.results = #[.cell p ty, .tmp u]) (tmps : Array Value) (P : Program) (w : World) (b : Nat) (x : Value) (hp : tmps.getD p undef = .pointer (some ⟨b, 0, none⟩)) (hl : (loadVar ty ⟨b, 0, none⟩).run P w = .ok x w) :
    (results fn tmps).run P w = .ok (.tuple #[x, tmps.getD u undef]) w := by
  have hp' : tmps[p]?.getD undef = .pointer (some ⟨b, 0, none⟩) := by simpa using hp
  simp only [results, h]
  simp [Sem.run_bind, Result.andThen, hp', asAddr, hl]
set_option maxRecDepth 100000 in
set_option maxHeartbeats 4000000 in
theorem parse_walk (s : ByteArray) (hs : s.size ≤ 100000) (w : World) :
    Calls Try.prog 86 #[.string s] w fun e w' => ParseRes s (parseB (L s)) e w' ∧ Below w.heap.size w w' := by
  rw [parse_parts]
  by_cases h64 : 64 < s.size
  · have hq : decide ((64 : Int) < (s.size : Int)) = true := by simp; omega
    have HN : Hid ((if 64 < s.size then none else partsB (L s)) = none) := if_pos h64
    have HV : Hid ((if 64 < s.size then (5 : Int) else 3) = 5) := if_pos h64
    rw [HN.out]
    go_enter Try.func86, Try.ntmps86
    go_wp2_with fail
    refine bodyPost_ret (v := .tuple #[.agg #[.slice none 0 0], .int .i64 5]) ?_ rfl ⟨by show _ = _; rw [HV.out], (Below.refl _ _).alloc (Nat.le_refl _) _⟩
    simp [results, Try.results86, go_sem]
  · have hq : decide ((64 : Int) < (s.size : Int)) = false := by simp; omega
    have HN : Hid ((if 64 < s.size then none else partsB (L s)) = partsB (L s)) := if_neg h64
    have HV : Hid ((if 64 < s.size then (5 : Int) else 3) = 3) := if_neg h64
    rw [HN.out]
    go_enter Try.func86, Try.ntmps86
    go_wp2_with fail
    obtain ⟨w1, hw1⟩ : ∃ w1, w.alloc (.cells #[.slice none 0 0] 118) = w1 := ⟨_, rfl⟩
    have HR : Hid (w1.heap[w.heap.size]? = some (.cells #[.slice none 0 0] 118 (0, 0))) := by show _ = _; rw [← hw1]; exact World.alloc_heap_new _ _
    have HB : Hid (Below w.heap.size w w1) := by rw [← hw1]; exact (Below.refl _ _).alloc (Nat.le_refl _) _
    have hs1 : w.heap.size < w1.heap.size := by rw [← hw1]; simp
    rw [hw1]
    clear hw1
    go_loopw [4, 5] (fun v i wr => ∃ (k : Nat) (l : List Part), k ≤ s.size ∧ i = .int .i64 k ∧ l.length ≤ k ∧ Hid (partsB (L s) = (partsB ((L s).drop k)).map (l ++ ·)) ∧
        (∃ A c, v = .slice A l.length c ∧ wr.ownsRow w1.heap.size 173 257 (.slice A l.length c) l.length (partsV l)) ∧ Hid (Below w1.heap.size w1 wr))
      (fun _ i _ => s.size - (intOf i).toNat)
    case atStart => exact ⟨0, [], Nat.zero_le _, rfl, Nat.le_refl _, parts_start s, ⟨none, 0, rfl, World.ownsRow_nil _ _ _ _⟩, Below.refl _ _⟩
    case round =>
      obtain ⟨k, l, hk, rfl, hl, HP, ⟨A1, c1, rfl, hown⟩, HBR⟩ := hrel
      have hrs := HBR.out.size
      by_cases hlt : k < s.size
      · have O1 := Lib.hid (fun W => one_part_walk s hs k hlt W)
        cases ho : oneP ((L s).drop k) with
        | none =>
          rw [ho] at O1
          have HE := Lib.hid (parts_none s k l hlt HP.out ho)
          clear ho HP
          rw [HE.out]
          have HRR := Lib.hid ((HBR.out.block _ hs1).trans HR.out)
          clear hown
          go_wp2_with fail
          refine (O1.out _).mono ?_
          rintro e w2 ⟨h2, hb2⟩
          subst h2
          have HR2 := Lib.hid ((hb2.block _ (by omega)).trans HRR.out)
          have HB2 := Lib.hid ((HB.out.trans (HBR.out.mono (Nat.le_of_lt hs1))).trans (hb2.mono (by omega)))
          clear hb2
          go_wp2_with (first
            | (refine step_new 6 rfl rfl 173 rfl _ _ zero_part ?_; intro w3 HR3 hs3 HB3; simp only [Act.put, List.setIfInBounds_toArray, List.set_cons_zero, List.set_cons_succ]; have HR4 := Lib.hid ((HB3.out.block _ (Array.getElem?_eq_some_iff.1 HR2.out).1).trans HR2.out); have c4 := cell1 HR4.out; have f4 := free1 HR4.out)
            | (refine step_store rfl rfl 173 _ _ rfl _ rfl _ _ rfl _ HR3.out (size_part _) (by simp only [rowV_size]) (rowV_all _ _) ?_; intro w9 HX HB9; have HR5 := Lib.hid ((HB9.out _ (Nat.le_refl _)).block _ (Array.getElem?_eq_some_iff.1 HR2.out).1 |>.trans HR4.out); have c5 := cell1 HR5.out; have f5 := free1 HR5.out))
          refine bodyPost_ret (v := .tuple #[.agg #[.slice none 0 0], .int .i64 3]) ?_ rfl ⟨by rw [HE.out]; show _ = _; rw [HV.out], ((HB2.out.trans (HB3.out.mono HB2.out.size)).trans (HB9.out _ HB2.out.size)).setCell (Nat.le_refl _) _⟩
          simp [results, Try.results86, go_sem, c5, f5]
        | some q =>
          obtain ⟨q, r⟩ := q
          rw [ho] at O1
          go_wp2_with fail
          refine (O1.out _).mono ?_
          rintro e w2 ⟨⟨nx, hnx, hr, h2⟩, hb2⟩
          subst h2
          rw [hr] at ho
          have hon := one_on s k nx q hlt hnx ho
          have HPN := Lib.hid (parts_step s k nx l q hlt HP.out ho)
          clear ho hr HP
          have hown2 := own_keep hown hb2
          have HB2 := Lib.hid (HBR.out.trans (hb2.mono hrs))
          clear hb2 hown
          go_wp2_with (first
            | (refine step_new 6 rfl rfl 173 rfl _ _ zero_part ?_; intro w3 HR3 hs3 HB3; simp only [Act.put, List.setIfInBounds_toArray, List.set_cons_zero, List.set_cons_succ])
            | (refine step_store rfl rfl 173 _ _ rfl _ rfl _ _ rfl _ HR3.out (size_partV _) (rows_same _) (all_partV _) ?_; intro w9 HX HB9; have HB29 := Lib.hid (HB3.out.trans (HB9.out _ (Nat.le_refl _))); have hown9 := own_keep hown2 HB29.out; have hsz9 := HB29.out.size)
            | (refine step_load 28 rfl rfl 173 _ rfl _ rfl _ _ _ HX.out _ Try.underlying173 rfl (size_partV _) ?_; simp only [Act.put, List.setIfInBounds_toArray, List.set_cons_zero, List.set_cons_succ])
            | (refine step_slice1 29 rfl rfl 116 173 _ rfl [(0, .agg (partV q))] rfl Try.underlying116 _ (built_one q) ?_; simp only [Act.put, List.setIfInBounds_toArray, List.set_cons_zero, List.set_cons_succ])
            | (at_builtin; refine wpList_app1 rfl _ _ 116 rfl elem_part rfl (hown9.alloc _) (cs := (partV q).toList) rfl (heap_alloc_new _ _) (by simp [partV_size]) (fun u hu => Array.all_eq_true_iff_forall_mem.1 (all_partV q) u (by simpa using hu)) (by omega) (by omega) (by have := HB2.out.size; simp only [World.size_alloc]; omega) ?_; intro g' cap' w10 hown10 hgr10 hb10))
          refine ⟨⟨nx, l ++ [q], hnx, rfl, by simp; omega, HPN.out, ⟨_, cap', by rw [List.length_append]; rfl, ?_⟩, ?_⟩, ?_⟩
          · rw [partsV_app, partsV_one, List.length_append]; exact hown10
          · exact (((HB2.out.trans (HB29.out.mono HB2.out.size)).alloc (Nat.le_trans HB2.out.size hsz9) _).trans hb10)
          · simp [intOf]; omega
      · obtain rfl : k = s.size := by omega
        have HE := Lib.hid (parts_end s l HP.out)
        clear HP
        have HRR := Lib.hid ((HBR.out.block _ hs1).trans HR.out)
        have c4 := cell1 HRR.out
        have f4 := free1 HRR.out
        have HBE := Lib.hid (HB.out.trans (HBR.out.mono (Nat.le_of_lt hs1)))
        obtain ⟨A2, c2, he, hcap, hs⟩ := own_form (ownsRow_setCell_below hown (a := ⟨w.heap.size, 0, none⟩) (by show w.heap.size < w1.heap.size; omega) (.slice A1 l.length c1))
        cases he
        clear hown
        have HSS := Lib.hid hs
        clear hs
        go_wp2_with fail
        refine bodyPost_ret (v := .tuple #[.agg #[.slice A1 l.length c1], .int .i64 0]) ?_ rfl ⟨?_, HBE.out.setCell (Nat.le_refl _) _⟩
        · have c5 : (wr.setCell ⟨w.heap.size, 0, none⟩ (.slice A1 l.length c1)).cell? ⟨w.heap.size, 0, none⟩ = some (.slice A1 l.length c1) := by
            simp [World.setCell, World.cell?, Array.getElem?_modify, HRR.out]
          simp [results, Try.results86, go_sem, c5]
        · rw [HE.out]
          exact ⟨A1, c1, rfl, hcap, HSS.out⟩
end Go.Proofs.Ytcapaiiegfedmaa
namespace Go.Proofs.Ytcapaiiegfedmaa
open Go.RowKit Go.Shelf
/-- all that was there is as it was, but for one block -/
def Grew (w : World) (b : Nat) (w' : World) : Prop := w'.os = w.os ∧ w'.tape = w.tape ∧ w'.output = w.output ∧ w.heap.size ≤ w'.heap.size ∧ ∀ j, j < w.heap.size → j ≠ b → w'.heap[j]? = w.heap[j]?
theorem Grew.refl (w : World) (b : Nat) : Grew w b w := ⟨rfl, rfl, rfl, Nat.le_refl _, fun _ _ _ => rfl⟩
theorem Grew.below {w w' w'' : World} {b : Nat} (h : Grew w b w') (hb : Below w'.heap.size w' w'') : Grew w b w'' :=
  ⟨hb.os.trans h.1, hb.tape.trans h.2.1, hb.output.trans h.2.2.1, Nat.le_trans h.2.2.2.1 hb.size, fun j hj hjb => (hb.block j (Nat.lt_of_lt_of_le hj h.2.2.2.1)).trans (h.2.2.2.2 j hj hjb)⟩
theorem Grew.set {w w' : World} {b : Nat} (h : Grew w b w') (k : Nat) (v : Value) : Grew w b (w'.setCell ⟨b, k, none⟩ v) :=
  ⟨h.1, h.2.1, h.2.2.1, by simpa [World.setCell] using h.2.2.2.1, fun j hj hjb => (cell_set_other w' b k j v hjb).trans (h.2.2.2.2 j hj hjb)⟩
theorem Grew.trans {w w' w'' : World} {b : Nat} (h : Grew w b w') (h2 : Grew w' b w'') : Grew w b w'' :=
  ⟨h2.1.trans h.1, h2.2.1.trans h.2.1, h2.2.2.1.trans h.2.2.1, Nat.le_trans h.2.2.2.1 h2.2.2.2.1, fun j hj hjb => (h2.2.2.2.2 j (Nat.lt_of_lt_of_le hj h.2.2.2.1) hjb).trans (h.2.2.2.2 j hj hjb)⟩
theorem Grew.to {w w' : World} {b n : Nat} (h : Grew w b w') (hn : n ≤ b) (hs : n ≤ w.heap.size) : Below n w w' :=
  ⟨h.1, h.2.1, h.2.2.1, h.2.2.2.1, fun j hj => h.2.2.2.2 j (by omega) (by omega)⟩
theorem Grew.slc {w w' : World} {b : Nat} {A : Option Addr} {cs : List Value} (h : Grew w b w') (hs : Slc w A cs) (hA : ∀ x, A = some x → x.block ≠ b) : Slc w' A cs := by
  rcases hs with hs | ⟨g, o, rfl, hlt, hc⟩
  · exact .inl hs
  · refine .inr ⟨g, o, rfl, Nat.lt_of_lt_of_le hlt h.2.2.2.1, fun i v hv => ?_⟩
    have := hc i v hv
    have hb := h.2.2.2.2 g hlt (hA _ rfl)
    unfold World.cell? at this ⊢
    simp only at this ⊢
    rw [hb]; exact this
theorem parts_range {w : World} {A : Option Addr} {l : List Part} (h : Slc w A (partsV l)) {k : Nat} {p : Part} (hk : l[k]? = some p) : ∃ b o, A = some ⟨b, o, none⟩ ∧ b < w.heap.size ∧ w.rangeAt b (o + k * 257) (partV p).toList := by
  have hkl := (List.getElem?_eq_some_iff.1 hk).1
  have hlen : ∀ q : Part, ((partV q).toList).length = 257 := fun q => by rw [Array.length_toList, partV_size]
  have hget : ∀ j, j < 257 → (partsV l)[k * 257 + j]? = (partV p).toList[j]? := by
    intro j hj
    clear h
    induction l generalizing k with
    | nil => simp at hkl
    | cons x t ih =>
      rw [show partsV (x :: t) = (partV x).toList ++ partsV t by unfold partsV; rw [List.flatMap_cons]]
      cases k with
      | zero =>
        rw [Nat.zero_mul, Nat.zero_add, List.getElem?_append_left (by rw [hlen]; exact hj)]
        simp at hk; rw [hk]
      | succ k =>
        rw [List.getElem?_append_right (by rw [hlen, Nat.succ_mul]; omega), hlen, show (k + 1) * 257 + j - 257 = k * 257 + j by rw [Nat.succ_mul]; omega]
        exact ih (by simpa using hk) (by simpa using hkl)
  rcases h with h | ⟨b, o, rfl, hlt, hc⟩
  · have := hget 0 (by omega)
    rw [h, List.getElem?_nil] at this
    rw [List.getElem?_eq_getElem (by rw [hlen]; omega)] at this
    cases this
  · refine ⟨b, o, rfl, hlt, fun j v hv => ?_⟩
    have hj : j < 257 := by have := (List.getElem?_eq_some_iff.1 hv).1; rw [hlen] at this; exact this
    rw [Nat.add_assoc]
    exact hc _ v ((hget j hj).trans hv)
section
variable {ops : Array Oper} {rest : List Oper} {o : Oper} {a : Act} {w : World} {Q : Exit → Act → World → Prop}
theorem step_part (dst : Nat) (hd : o.dst = some dst) (hg : o.guard = none) (x : Operand) (ho : o.op = .load 173 x) (b off : Nat) (hx : a.eval x = .pointer (some ⟨b, off, none⟩)) (p : Part) (hc : w.rangeAt b off (partV p).toList)
    (h : wpList Try.prog ops Q rest (a.put (some dst) (.agg (partV p))) w) : wpList Try.prog ops Q (o :: rest) a w := by
  refine Great.wpList_runTo hg (some dst) hd _ _ ?_ h
  unfold execOp
  have := run_loadAt_mid (P := Try.prog) w b off 173 (partV p).toList _ hc Try.underlying173 rfl (by rw [size_partV p]; simp)
  simp only [ho, hx]
  rw [Sem.run_bind, this]
  rfl
end
def skG (l : List Part) (g : Nat → Bool) : Nat → Bool
  | 0 => g 0
  | j + 1 => g (j + 1) || (skG l g j && manyAt l j)
def skRow (l : List Part) (g : Nat → Bool) (k : Nat) : Nat → Bool := fun i => if i ≤ k then skG l g i else g i
theorem sk_start (l : List Part) (g : Nat → Bool) (n : Nat) : rowV n g = rowV n (skRow l g 0) := by
  apply rowV_ext; intro i _; unfold skRow
  by_cases h : i ≤ 0
  · obtain rfl : i = 0 := by omega
    rw [if_pos h]; rfl
  · rw [if_neg h]
theorem sk_set (l : List Part) (g : Nat → Bool) (n k : Nat) (h : (skG l g k && manyAt l k) = true) : rowV n (fun i => if i = k + 1 then true else skRow l g k i) = rowV n (skRow l g (k + 1)) := by
  apply rowV_ext; intro i _; unfold skRow
  by_cases hi : i = k + 1
  · subst hi; rw [if_pos rfl, if_pos (Nat.le_refl _)]
    show true = (g (k + 1) || (skG l g k && manyAt l k)); rw [h]; simp
  · rw [if_neg hi]
    by_cases h2 : i ≤ k
    · rw [if_pos h2, if_pos (by omega)]
    · rw [if_neg h2, if_neg (by omega)]
theorem sk_keep (l : List Part) (g : Nat → Bool) (n k : Nat) (h : (skG l g k && manyAt l k) = false) : rowV n (skRow l g k) = rowV n (skRow l g (k + 1)) := by
  apply rowV_ext; intro i _; unfold skRow
  by_cases hi : i = k + 1
  · subst hi; rw [if_neg (by omega), if_pos (Nat.le_refl _)]
    show g (k + 1) = (g (k + 1) || (skG l g k && manyAt l k)); rw [h]; simp
  · by_cases h2 : i ≤ k
    · rw [if_pos h2, if_pos (by omega)]
    · rw [if_neg h2, if_neg (by omega)]
theorem sk_end (l : List Part) (g : Nat → Bool) (n : Nat) : rowV (n + 1) (skRow l g n) = rowV (n + 1) (skG l g) := by
  apply rowV_ext; intro i hi; unfold skRow; rw [if_pos (by omega)]
set_option maxRecDepth 100000 in
set_option maxHeartbeats 4000000 in
theorem skip_walk (A : Option Addr) (c : Nat) (l : List Part) (b cb : Nat) (g : Nat → Bool) (w : World) (hp : Slc w A (partsV l)) (hb : w.heap[b]? = some (.cells (rowV (l.length + 1) g) 4 (0, 0))) (hA : 0 < l.length → ∀ x, A = some x → x.block ≠ b) (hn : l.length ≤ 100000) (hcb : l.length + 1 ≤ cb) :
    Calls Try.prog 120 #[.agg #[.slice A l.length c], .slice (some ⟨b, 0, none⟩) (l.length + 1) cb] w fun e w' => e = .returned (.tuple #[]) ∧ w'.heap[b]? = some (.cells (rowV (l.length + 1) (skG l g)) 4 (0, 0)) ∧ Grew w b w' := by
  have HPP := Lib.hid hp
  have HBB := Lib.hid hb
  have hbs := (Array.getElem?_eq_some_iff.1 hb).1
  have HAA := Lib.hid hA
  clear hp hb hA
  go_enter Try.func120, Try.ntmps120
  go_wp2_with fail
  go_loopw [9] (fun i wr => ∃ k : Nat, k ≤ l.length ∧ i = .int .i64 k ∧ Hid (wr.heap[b]? = some (.cells (rowV (l.length + 1) (skRow l g k)) 4 (0, 0))) ∧ Hid (Grew w b wr)) (fun i _ => l.length - (intOf i).toNat)
  case atStart => exact ⟨0, Nat.zero_le _, rfl, by rw [← sk_start]; exact (Below.heap_alloc _ _ _ hbs).trans HBB.out, (Grew.refl w b).below ((Below.refl _ _).alloc (Nat.le_refl _) _)⟩
  case round =>
    obtain ⟨k, hk, rfl, HK, HG⟩ := hrel
    have hgs := HG.out.2.2.2.1
    by_cases hlt : k < l.length
    · obtain ⟨p, hpk⟩ : ∃ p, l[k]? = some p := ⟨_, List.getElem?_eq_getElem hlt⟩
      obtain ⟨pb, po, rfl, hpl, hpr⟩ := parts_range (HG.out.slc HPP.out (HAA.out (by omega))) hpk
      have HPR := Lib.hid hpr
      clear hpr
      have hm : manyAt l k = p.2 := by unfold manyAt; rw [hpk]; rfl
      have hsk : skRow l g k k = skG l g k := by unfold skRow; rw [if_pos (Nat.le_refl _)]
      have hsk1 : skRow l g k (k + 1) = g (k + 1) := by unfold skRow; rw [if_neg (by omega)]
      have HS1 := Lib.hid (sk_set l g (l.length + 1) k)
      have HS2 := Lib.hid (sk_keep l g (l.length + 1) k)
      rw [hm] at HS1 HS2
      have hi0 : (0 : Int) ≤ (k : Int) := Int.natCast_nonneg _
      have hi1 : (k : Int) < (l.length : Int) := by omega
      have hi2 : (k : Int) < (l.length : Int) + 1 := by omega
      have hi3 : (0 : Int) ≤ (k : Int) + 1 := by omega
      have hi4 : (k : Int) + 1 < (l.length : Int) + 1 := by omega
      clear hpk hm
      have hbw := Nat.lt_of_lt_of_le hbs hgs
      cases ha : skG l g k <;> cases hpm : p.2
      all_goals
        go_wp2_with (first
          | (refine step_part 13 rfl rfl _ rfl _ _ rfl p HPR.out ?_; simp only [Act.put, List.setIfInBounds_toArray, List.set_cons_zero, List.set_cons_succ])
          | (refine step_new 5 rfl rfl 173 rfl _ _ zero_part ?_; intro w3 HR3 hs3 HB3; simp only [Act.put, List.setIfInBounds_toArray, List.set_cons_zero, List.set_cons_succ])
          | (refine step_store rfl rfl 173 _ _ rfl _ rfl _ _ rfl _ HR3.out (size_partV _) (rows_same _) (all_partV _) ?_; intro w9 HX HB9; have HBN := Lib.hid (HB3.out.trans (HB9.out _ (Nat.le_refl _))); have HKN := Lib.hid ((HBN.out.block _ hbw).trans HK.out); have c1 := cell_row HKN.out k (by omega); rw [hsk, ha] at c1; have c2 := cell_row HX.out 256 (by omega); rw [if_neg (by omega), hpm] at c2; have c3 := cell_row HKN.out (k + 1) (by omega); rw [hsk1] at c3; have f3 := free_row HKN.out (k + 1)))
      all_goals first
        | (refine ⟨⟨k + 1, by omega, by go_num, by rw [← HS2.out (by rw [ha, hpm]; rfl)]; exact HKN.out, HG.out.below HBN.out⟩, by simp [intOf]; omega⟩)
        | (refine ⟨⟨k + 1, by omega, by go_num, by rw [← HS1.out (by rw [ha, hpm]; rfl)]; exact set_row HKN.out (k + 1) true, (HG.out.below HBN.out).set _ _⟩, by simp [intOf]; omega⟩)
    · obtain rfl : k = l.length := by omega
      rw [sk_end] at HK
      go_wp2_with fail
      refine bodyPost_end (results_none rfl _ _ _) rfl ?_
      exact ⟨rfl, HK.out, HG.out⟩
end Go.Proofs.Ytcapaiiegfedmaa
