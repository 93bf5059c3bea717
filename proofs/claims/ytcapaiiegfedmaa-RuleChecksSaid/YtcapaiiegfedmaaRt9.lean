/- paths.Ups: the paths that a path is under. · rule: a rule's parts, what it matches, what a list of rules keeps and shuts out, in plain Lean. -/
import Derived.Test.YtcapaiiegfedmaaRt8
namespace Go.Proofs.Ytcapaiiegfedmaa
open Go.RowKit Go.Shelf
attribute [local go_sem] Oper.semAt_some
/-- what stands ahead of each slash -/
def fronts : Bs → Bs → List Bs
  | _, [] => []
  | a, c :: s => if c = 47 then a :: fronts (a ++ [c]) s else fronts (a ++ [c]) s
def upsL (p : Bs) : List Bs := if p = [] then [] else if rightB p then [] :: fronts [] p else []
theorem fronts_eq (a s : Bs) : fronts a s = (List.range ((split1 s).length - 1)).map (fun i => a ++ glue ((split1 s).take (i + 1))) := by
  induction s generalizing a with
  | nil => simp [fronts, split1]
  | cons c t ih =>
    have hpos : 0 < (split1 t).length := List.length_pos_iff.2 (split1_ne t)
    by_cases hc : c = 47
    · subst hc
      simp only [fronts, if_true, split1, ih, List.length_cons, Nat.add_sub_cancel]
      obtain ⟨n, hn⟩ : ∃ n, (split1 t).length = n + 1 := ⟨(split1 t).length - 1, by omega⟩
      rw [hn, Nat.add_sub_cancel, List.range_succ_eq_map, List.map_cons, List.map_map]
      congr 1
      · simp [glue]
      · apply List.map_congr_left
        intro i hi
        simp only [Function.comp, List.take_succ_cons]
        rw [glue_cons [] _ (by rw [ne_eq, List.take_eq_nil_iff]; intro h; rcases h with h | h; omega; exact split1_ne t h)]
        simp
    · simp only [fronts, if_neg hc, split1, ih, List.length_cons, List.length_tail]
      have : (split1 t).length - 1 + 1 - 1 = (split1 t).length - 1 := by omega
      rw [this]
      apply List.map_congr_left
      intro i hi
      rw [List.take_succ_cons, glue_head, split1_eq t]
      simp
theorem upsL_eq (p : Bs) : upsL p = (List.range (names p).length).map (fun i => glue ((names p).take i)) := by
  unfold upsL names
  by_cases hp : p = []
  · subst hp; rfl
  · rw [if_neg hp]
    cases hr : rightB p with
    | false => rfl
    | true =>
      simp only [if_true, fronts_eq, List.nil_append, cut_cons p hp]
      obtain ⟨n, hn⟩ : ∃ n, (split1 p).length = n + 1 := ⟨(split1 p).length - 1, by have := List.length_pos_iff.2 (split1_ne p); omega⟩
      rw [hn, Nat.add_sub_cancel, List.range_succ_eq_map, List.map_cons, List.map_map]
      rfl
theorem ups_walk (p : ByteArray) (w : World) : Calls Try.prog 94 #[.string p] w fun e w' => e = .returned (.func (.func 122) #[] #[.pointer (some ⟨w.heap.size, 0, none⟩)]) ∧ w.alloc (.cells #[.string p] 9) = w' := by
  go_enter Try.func94, Try.ntmps94
  go_wp2
  go_ret
  exact ⟨rfl, rfl⟩
theorem drop_next (s : ByteArray) (k : Nat) (h : k < s.size) : (L s).drop k = s[k] :: (L s).drop (k + 1) := by
  rw [drop_at (L s) k (by rw [L_len]; exact h)]; rfl
theorem wide_fn (f : FuncId) : Fence.wide.fn f := trivial
theorem grow_none {W W' : World} (h : Below W.heap.size W W') : W.grownBy W' none := ⟨h.os, h.tape, h.output, h.size, fun k hk _ => h.block k hk⟩
theorem ups_iter (p : ByteArray) (hp : p.size ≤ 100000) (b : Nat) (W : World) (hb : W.heap[b]? = some (.cells #[.string p] 9 (0, 0))) :
    Iter Try.prog 122 #[.pointer (some ⟨b, 0, none⟩)] (fun s : Bs => #[.string (B s)]) (upsL (L p)) none (fun k => k = b) W := by
  intro l J Jx hJ hJx hY h0
  have R1 := Lib.hid (fun X => right_walk p hp X)
  refine callsIn_of_wp Try.func122 rfl trivial ?_ rfl
  simp only [Try.ntmps122, List.size_toArray, List.length_cons, List.length_nil, Nat.reduceAdd, Nat.reduceSub, Array.replicate_succ, Array.replicate_zero, List.push_toArray, List.append_toArray, List.nil_append, List.cons_append]
  have hc := cell_of_one hb
  have hblt : b < W.heap.size := (Array.getElem?_eq_some_iff.1 hb).1
  by_cases he : L p = []
  · have HN : Hid (upsL (L p) = []) := by show upsL (L p) = []; unfold upsL; rw [if_pos he]
    have e1 : p.toList.isEmpty = true := by rw [empty_iff, he]; rfl
    clear he
    gi_wp2_with (with_reducible refine ⟨fun f _ => wide_fn f, ?_⟩)
    refine ⟨trivial, ?_⟩
    gi_wp2_with (with_reducible refine ⟨fun f _ => wide_fn f, ?_⟩)
    refine bodyPost_ret (results_none rfl _ _ _) rfl ?_
    exact ⟨⟨_, rfl⟩, .inl (by rw [HN.out]; exact h0)⟩
  have e1 : p.toList.isEmpty = false := by rw [empty_iff]; simpa using he
  cases hr : rightB (L p) with
  | false =>
    have HN : Hid (upsL (L p) = []) := by show upsL (L p) = []; unfold upsL; rw [if_neg he, hr]; rfl
    clear he
    gi_wp2_with (first | (with_reducible refine ⟨fun f _ => wide_fn f, ?_⟩) | (refine ⟨trivial, rfl, ?_⟩; gi_at_call 40; refine (callsIn_wide.2 (R1.out _)).mono ?_; rintro e w1 ⟨rfl, hb1⟩))
    refine bodyPost_ret (results_none rfl _ _ _) rfl ?_
    exact ⟨⟨_, rfl⟩, .inl (by rw [HN.out]; exact hJ _ _ _ h0 (grow_none hb1))⟩
  | true =>
    have hN : upsL (L p) = [] :: fronts [] (L p) := by unfold upsL; rw [if_neg he, hr]; rfl
    have hg0 : (upsL (L p))[0]? = some [] := by rw [hN]; rfl
    have HN := Lib.hid hN
    clear he hN
    gi_wp2_with (first | (with_reducible refine ⟨fun f _ => wide_fn f, ?_⟩) | (refine ⟨trivial, rfl, ?_⟩; gi_at_call 40; refine (callsIn_wide.2 (R1.out _)).mono ?_; rintro e w1 ⟨rfl, hb1⟩; obtain ⟨fn, tmps, assign, body, hy, hR⟩ := hY 0 [] w1 hg0 (hJ _ _ _ h0 (grow_none hb1)); change Sem.run Try.prog (Instr.yield l #[Value.string ⟨#[]⟩]) w1 = _ at hy; have hbx := (hb1.block b hblt).trans hb; have hc1 := cell_of_one hbx))
    refine ⟨rfl, ?_⟩
    refine hR.mono ?_
    clear hR hy R1 hb hc h0 hg0 hb1
    rintro e W3 (⟨rfl, hJ3, hk3⟩ | ⟨rfl, hJx3⟩)
    case inr =>
      gi_wp2
      refine bodyPost_ret (results_none rfl _ _ _) rfl ?_
      exact ⟨⟨_, rfl⟩, .inr ⟨1, by omega, by rw [HN.out]; simp, hJx3⟩⟩
    have hb3 := hk3.same b _ hbx (.inr rfl)
    have hc3 := cell_of_one hb3
    clear hk3 hc1 hbx
    gi_wp2_with (with_reducible refine ⟨fun f _ => wide_fn f, ?_⟩)
    gi_loopw [18] (fun i wr => ∃ k j : Nat, k ≤ p.size ∧ i = .int .i64 k ∧ wr.heap[b]? = some (.cells #[.string p] 9 (0, 0)) ∧ (upsL (L p)).drop j = fronts ((L p).take k) ((L p).drop k) ∧ j ≤ (upsL (L p)).length ∧ J j wr) (fun i _ => p.size - (intOf i).toNat)
    case atStart => exact ⟨0, 1, Nat.zero_le _, rfl, hb3, by rw [HN.out]; rfl, by rw [HN.out]; simp, hJ3⟩
    case round =>
      obtain ⟨k, j, hk, rfl, hbr, hdrop, hjl, hJj⟩ := hrel
      have hcr := cell_of_one hbr
      have HD := Lib.hid hdrop
      clear hdrop hb3 hc3 hJ3
      by_cases hlt : k < p.size
      · have HT := Lib.hid (take_next p k hlt)
        have HDR := Lib.hid (drop_next p k hlt)
        by_cases hc : p[k] = 47
        · have hbb : ((p[k].toNat : Int) == 47) = true := by rw [beq_byte _ 47 47 rfl]; simpa using hc
          have HD2 : Hid ((upsL (L p)).drop j = (L p).take k :: fronts ((L p).take (k + 1)) ((L p).drop (k + 1))) := by
            show (upsL (L p)).drop j = _
            rw [HD.out, HDR.out, HT.out, hc]; simp [fronts]
          have hget : (upsL (L p))[j]? = some ((L p).take k) := by
            have := congrArg (fun z => z[0]?) HD2.out
            simpa using this
          have HD3 : Hid ((upsL (L p)).drop (j + 1) = fronts ((L p).take (k + 1)) ((L p).drop (k + 1))) := by
            have := congrArg (fun z => z.drop 1) HD2.out
            simp only [List.drop_drop, List.drop_one, List.tail_cons] at this
            exact this
          have hjl2 := (List.getElem?_eq_some_iff.1 hget).1
          have hext : p.extract 0 k = B ((L p).take k) := by rw [extract_B]; simp
          obtain ⟨fn2, tmps2, assign2, body2, hy2, hR2⟩ := hY j ((L p).take k) wr hget hJj
          rw [← hext] at hy2
          clear hc hget hext HD HD2
          gi_wp2_with (with_reducible refine ⟨fun f _ => wide_fn f, ?_⟩)
          refine ⟨rfl, ?_⟩
          refine hR2.mono ?_
          clear hR2 hy2
          rintro e W4 (⟨rfl, hJ4, hk4⟩ | ⟨rfl, hJx4⟩)
          · have hb4 := hk4.same b _ hbr (.inr rfl)
            clear hk4
            gi_wp2
            go_roundw
            case rel => exact ⟨k + 1, j + 1, by omega, by go_num, hb4, HD3.out, by omega, hJ4⟩
            case measure => simp [intOf]; omega
          · gi_wp2
            refine bodyPost_ret (results_none rfl _ _ _) rfl ?_
            exact ⟨⟨_, rfl⟩, .inr ⟨j + 1, by omega, by omega, hJx4⟩⟩
        · have hbb : ((p[k].toNat : Int) == 47) = false := by rw [beq_byte _ 47 47 rfl]; simpa using hc
          have HD2 : Hid ((upsL (L p)).drop j = fronts ((L p).take (k + 1)) ((L p).drop (k + 1))) := by
            show (upsL (L p)).drop j = _
            rw [HD.out, HDR.out, HT.out]; simp only [fronts, if_neg hc]
          clear hc HD
          gi_wp2_with (with_reducible refine ⟨fun f _ => wide_fn f, ?_⟩)
          go_roundw
          case rel => exact ⟨k + 1, j, by omega, by go_num, hbr, HD2.out, by omega, hJj⟩
          case measure => simp [intOf]; omega
      · have hk' : k = p.size := by omega
        have HE : Hid (j = (upsL (L p)).length) := by
          have h1 := congrArg List.length HD.out
          have h2 : (L p).drop k = [] := List.drop_eq_nil_of_le (by rw [L_len, hk']; exact Nat.le_refl _)
          rw [h2] at h1
          simp [fronts] at h1
          show j = (upsL (L p)).length
          omega
        clear hk'
        gi_wp2_with (with_reducible refine ⟨fun f _ => wide_fn f, ?_⟩)
        go_end0
        exact ⟨⟨_, rfl⟩, .inl (by rw [← HE.out]; exact hJj)⟩
end Go.Proofs.Ytcapaiiegfedmaa
namespace Go.Proofs.Ytcapaiiegfedmaa
abbrev RuleD := Bool × Bs
def wholeB (p : Bs) : Bool := p.head? == some 47
def core1 (p : Bs) : Bs := if wholeB p then p.drop 1 else p
def dirB (p : Bs) : Bool := (core1 p).getLast? == some 47
def coreB (p : Bs) : Bs := if dirB p then (core1 p).dropLast else core1 p
def openB (p : Bs) : Option (List Part) := if 64 < p.length then none else if coreB p = [] then none else parseB (coreB p)
def ruleC (p : Bs) : Int := if 64 < p.length then 5 else match openB p with | none => 3 | some _ => 0
def rulesC1 : List RuleD → Int
  | [] => 0
  | r :: t => if ruleC r.2 = 0 then rulesC1 t else ruleC r.2
def rulesC (l : List RuleD) : Int := if 16 < l.length then 5 else rulesC1 l
def endsS (p : Bs) : List Bs := (List.range (split1 p).length).map (fun i => glue ((split1 p).drop i))
def hitB (whole : Bool) (l : List Part) (p : Bs) : Bool := if whole then matchB l p else (endsS p).any (matchB l)
def matchesB (r p : Bs) (d : Bool) : Bool := match openB r with | none => false | some l => !p.isEmpty && rightB p && (!dirB r || d) && hitB (wholeB r) l p
def keepsB (l : List RuleD) (p : Bs) (d : Bool) : Bool := match l.find? (fun r => matchesB r.2 p d) with | some r => r.1 | none => true
def shutB (l : List RuleD) (p : Bs) (d : Bool) : Bool := !keepsB l p d || (upsL p).any (fun u => !keepsB l u true)
theorem ends_head (p : Bs) : p ∈ endsS p := by
  unfold endsS
  rw [List.mem_map]
  refine ⟨0, ?_, by rw [List.drop_zero, glue_split1]⟩
  rw [List.mem_range]
  exact List.length_pos_iff.2 (split1_ne p)
theorem ends_slash (a s : Bs) (h : 47 ∉ a) : endsS (a ++ 47 :: s) = (a ++ 47 :: s) :: endsS s := by
  unfold endsS
  rw [split1_slash a s h, List.length_cons, List.range_succ_eq_map, List.map_cons, List.map_map]
  congr 1
  · rw [List.drop_zero, glue_cons _ _ (split1_ne s), glue_split1]
theorem ends_no (a : Bs) (h : 47 ∉ a) : endsS a = [a] := by
  unfold endsS
  rw [split1_no a h]
  rfl
theorem names_right (p : Bs) (h : rightB p = true) : names p = cut p := by unfold names; rw [if_pos h]
theorem ups_under (p q : Bs) (hp : rightB p = true) (h0 : p ≠ []) (hx : rightB (p ++ 47 :: q) = true) : p ∈ upsL (p ++ 47 :: q) ∧ ∀ u ∈ upsL p, u ∈ upsL (p ++ 47 :: q) := by
  have hn : names p = split1 p := by rw [names_right p hp, cut_cons p h0]
  have hnx : names (p ++ 47 :: q) = split1 p ++ split1 q := by rw [names_right _ hx, cut_cons _ (by simp), split1_app]
  have hq := List.length_pos_iff.2 (split1_ne q)
  rw [upsL_eq, upsL_eq, hn, hnx]
  refine ⟨?_, fun u hu => ?_⟩
  · rw [List.mem_map]
    exact ⟨(split1 p).length, by rw [List.mem_range, List.length_append]; omega, by rw [List.take_left, glue_split1]⟩
  · rw [List.mem_map] at hu ⊢
    obtain ⟨i, hi, rfl⟩ := hu
    rw [List.mem_range] at hi
    exact ⟨i, by rw [List.mem_range, List.length_append]; omega, by rw [List.take_append_of_le_length (by omega)]⟩
theorem shut_under (l : List RuleD) (p q : Bs) (d : Bool) (hp : rightB p = true) (h0 : p ≠ []) (hx : rightB (p ++ 47 :: q) = true) (h : shutB l p true = true) : shutB l (p ++ 47 :: q) d = true := by
  obtain ⟨h1, h2⟩ := ups_under p q hp h0 hx
  unfold shutB at h ⊢
  rw [Bool.or_eq_true] at h ⊢
  right
  rw [List.any_eq_true]
  rcases h with h | h
  · exact ⟨p, h1, h⟩
  · rw [List.any_eq_true] at h
    obtain ⟨u, hu, hk⟩ := h
    exact ⟨u, h2 u hu, hk⟩
theorem keeps_nil (p : Bs) (d : Bool) : keepsB [] p d = true := rfl
theorem shut_nil (p : Bs) (d : Bool) : shutB [] p d = false := by
  unfold shutB
  rw [keeps_nil]
  simp [keeps_nil]
theorem open_stars : openB [42, 42] = some [(anyB true, true)] := by
  have h : parseB [42, 42] = some [(anyB true, true)] := by
    have := parts_star2 [] [] rfl
    unfold parseB
    rw [if_neg (by decide)]
    exact this
  unfold openB
  rw [if_neg (by decide), show coreB [42, 42] = [42, 42] by decide, if_neg (by decide), h]
theorem stars_match (p : Bs) (hp : rightB p = true) (h0 : p ≠ []) (d : Bool) : matchesB [42, 42] p d = true := by
  unfold matchesB
  rw [open_stars]
  have h1 : dirB [42, 42] = false := by decide
  have h2 : wholeB [42, 42] = false := by decide
  have h3 : hitB false [(anyB true, true)] p = true := by
    show (endsS p).any _ = true
    rw [List.any_eq_true]
    exact ⟨p, ends_head p, (match_many _ _).2 (fun c _ => by simp [anyB])⟩
  simp only [h1, h2, h3, hp]
  cases p with
  | nil => exact absurd rfl h0
  | cons a t => rfl
theorem keeps_stars (l : List RuleD) (p : Bs) (hp : rightB p = true) (h0 : p ≠ []) : keepsB (l ++ [(false, [42, 42])]) p false = (l.any (fun r => matchesB r.2 p false) && keepsB l p false) := by
  unfold keepsB
  rw [List.find?_append]
  cases hf : l.find? (fun r => matchesB r.2 p false) with
  | some r =>
    have h1 : l.any (fun r => matchesB r.2 p false) = true := by
      rw [List.any_eq_true]
      exact ⟨r, List.mem_of_find?_eq_some hf, by simpa using List.find?_some hf⟩
    rw [h1]; rfl
  | none =>
    have h1 : l.any (fun r => matchesB r.2 p false) = false := by
      rw [List.any_eq_false]
      rw [List.find?_eq_none] at hf
      exact hf
    rw [h1]
    simp [stars_match p hp h0]
end Go.Proofs.Ytcapaiiegfedmaa
