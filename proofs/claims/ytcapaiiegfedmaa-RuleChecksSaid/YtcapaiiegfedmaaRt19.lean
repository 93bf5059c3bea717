/- journal.one: the record of a line. · journal.records: the iterator over a text's records. -/
import Derived.Test.YtcapaiiegfedmaaRt18
namespace Go.Proofs.Ytcapaiiegfedmaa
open Go.RowKit Go.Shelf
/-- o is the record whose line this is (the line feed left out) -/
def OneIs (line : Bs) (o : Option (Int × Int)) : Prop := match o with | some r => lineB r.1 r.2 = line ++ [10] | none => ∀ k n, lineB k n ≠ line ++ [10]
def encO (o : Option (Int × Int)) : Value := match o with | some r => .tuple #[.agg #[.int .i64 r.1, .int .i64 r.2], .bool true] | none => .tuple #[.agg #[.int .i64 0, .int .i64 0], .bool false]
theorem word_space (k : Int) : 32 ∉ wordB k := by
  unfold wordB
  split
  · decide
  · split
    · decide
    · split
      · decide
      · split <;> decide
theorem word_kind (k : Int) (h : wordB k ≠ []) : k = 1 ∨ k = 2 ∨ k = 3 ∨ k = 4 := by
  unfold wordB at h
  split at h
  · left; assumption
  · split at h
    · right; left; assumption
    · split at h
      · right; right; left; assumption
      · split at h
        · right; right; right; assumption
        · exact absurd rfl h
/-- a line that is some record's, taken apart -/
theorem line_form (k n : Int) (line : Bs) (h : lineB k n = line ++ [10]) : ∃ m : Nat, n = (m : Int) ∧ m ≤ 2147483647 ∧ wordB k ≠ [] ∧ line = wordB k ++ 32 :: digB m := by
  by_cases hv : wordB k = [] ∨ n < 0 ∨ 2147483647 < n
  · rw [lineB_no k n hv] at h; simp at h
  · have h1 : wordB k ≠ [] := fun e => hv (.inl e)
    have h2 : ¬ n < 0 := fun e => hv (.inr (.inl e))
    have h3 : ¬ 2147483647 < n := fun e => hv (.inr (.inr e))
    refine ⟨n.toNat, by omega, by omega, h1, ?_⟩
    have hn : n = (n.toNat : Int) := by omega
    rw [hn, lineB_yes k n.toNat h1 (by omega)] at h
    have := List.append_cancel_right h
    rw [← this]; simp
theorem one_yes (k : Int) (m : Nat) (line : Bs) (hm : m ≤ 2147483647) (hs : 32 ∈ line) (hw : wordB k = before 32 line) (hk : wordB k ≠ []) (hd : digB m = after 32 line) : OneIs line (some (k, (m : Int))) := by
  show lineB k (m : Int) = line ++ [10]
  rw [lineB_yes k m hk hm]
  obtain ⟨a, b, hab, ha⟩ : ∃ a b, line = a ++ 32 :: b ∧ 32 ∉ a := by
    rcases idx_at 32 line with ⟨_, h⟩ | ⟨a, b, h1, h2, _⟩
    · exact absurd hs h
    · exact ⟨a, b, h1, h2⟩
  rw [hab, (before_app 32 a b ha).1] at hw
  rw [hab, (before_app 32 a b ha).2] at hd
  rw [hw, hd, hab]; simp
theorem one_no (line : Bs) (n : Int) (ok : Bool) (hn : NumIs (after 32 line) n ok) (h : ∀ k : Nat, 1 ≤ k → k < 5 → (decide (32 ∈ line) && ok && decide (wordB (k : Int) = before 32 line)) = false) : OneIs line none := by
  intro k n' he
  obtain ⟨m, rfl, hm, hk, hl⟩ := line_form k n' line he
  have hb := before_app 32 (wordB k) (digB m) (word_space k)
  rw [← hl] at hb
  have hs : 32 ∈ line := by rw [hl]; simp
  cases ok with
  | false => exact hn.2 rfl m hm hb.2.symm
  | true =>
    rcases word_kind k hk with rfl | rfl | rfl | rfl
    · have := h 1 (by omega) (by omega); simp [hs, hb.1] at this
    · have := h 2 (by omega) (by omega); simp [hs, hb.1] at this
    · have := h 3 (by omega) (by omega); simp [hs, hb.1] at this
    · have := h 4 (by omega) (by omega); simp [hs, hb.1] at this
theorem before_len (c : UInt8) (s : Bs) : (before c s).length ≤ s.length := by unfold before; exact (List.takeWhile_sublist _).length_le
theorem after_len (c : UInt8) (s : Bs) : (after c s).length ≤ s.length := by
  unfold after
  rw [List.length_drop]
  have := (List.dropWhile_sublist (fun x => x != c) (l := s)).length_le
  omega
def OneRes (line : Bs) (e : Ending) : Prop := ∃ o, e = .returned (encO o) ∧ OneIs line o
set_option maxRecDepth 100000 in
theorem one_walk (s : ByteArray) (hs : s.size ≤ 100000) (w : World) : Calls Try.prog 127 #[.string s] w fun e w' => OneRes (L s) e ∧ Below w.heap.size w w' := by
  have C1 := Lib.hid (fun W => cut1_walk s hs 32 W)
  have hal := after_len 32 (L s)
  rw [L_len] at hal
  have N1 := Lib.hid (fun W => number_walk (B (after 32 (L s))) (by rw [B_size]; omega) W)
  rw [L_B] at N1
  have HY := Lib.hid (fun k m hm h1 h2 h3 h4 => one_yes k m (L s) hm h1 h2 h3 h4)
  have HNO := Lib.hid (fun n ok => one_no (L s) n ok)
  go_enter Try.func127, Try.ntmps127
  go_wp2_with fail
  refine (C1.out _).mono ?_
  rintro e w1 ⟨rfl, nd, rfl⟩
  have HCUT : Hid (decide (32 ∈ L s) = true → 32 ∈ L s) := fun h => by simpa using h
  generalize decide (32 ∈ L s) = cutb at *
  generalize before 32 (L s) = wd at *
  generalize after 32 (L s) = num at *
  go_wp2_with fail
  refine (N1.out _).mono ?_
  rintro e w2 ⟨⟨n, ok, rfl, hnum⟩, rfl⟩
  go_wp2_with fail
  go_loop [9] (fun i => ∃ k : Nat, 1 ≤ k ∧ k ≤ 5 ∧ i = .int .i64 k ∧ ∀ j : Nat, 1 ≤ j → j < k → (cutb && ok && decide (wordB (j : Int) = wd)) = false) (fun i => 5 - (intOf i).toNat)
  case atStart => exact ⟨1, Nat.le_refl _, by omega, rfl, fun j h1 h2 => by omega⟩
  case round =>
    obtain ⟨k, hk1, hk5, rfl, hno⟩ := hrel
    by_cases hlt : k < 5
    · cases hall : (cutb && ok && decide (wordB (k : Int) = wd)) with
      | true =>
        simp only [Bool.and_eq_true, decide_eq_true_eq] at hall
        obtain ⟨⟨rfl, rfl⟩, hw⟩ := hall
        obtain ⟨m, rfl, hm, hd⟩ := hnum.1 rfl
        have W1 := Lib.hid (fun W => word_walk (k : Int) W)
        rw [hw] at W1
        have hkw : wordB (k : Int) ≠ [] := by
          have : k = 1 ∨ k = 2 ∨ k = 3 ∨ k = 4 := by omega
          rcases this with rfl | rfl | rfl | rfl <;> decide
        have HO : Hid (OneRes (L s) (.returned (.tuple #[.agg #[.int .i64 (k : Int), .int .i64 (m : Int)], .bool true]))) := ⟨some ((k : Int), (m : Int)), rfl, HY.out (k : Int) m hm (HCUT.out rfl) hw hkw hd⟩
        clear hno hnum hkw hd hw
        go_wp2_with fail
        refine (W1.out _).mono ?_
        rintro e w3 ⟨rfl, rfl⟩
        go_wp2_with fail
        refine bodyPost_ret (v := .tuple #[.agg #[.int .i64 (k : Int), .int .i64 (m : Int)], .bool true]) ?_ rfl ⟨HO.out, ((below_draw ((Below.refl _ _).alloc (Nat.le_refl _) _)).setCell (by simp) _).setCell (by simp) _⟩
        simp [results, Try.results127, go_sem]
      | false =>
        have HN : Hid (∀ j : Nat, 1 ≤ j → j < k + 1 → (cutb && ok && decide (wordB (j : Int) = wd)) = false) := by
          intro j h1 h2
          by_cases hj : j < k
          · exact hno j h1 hj
          · obtain rfl : j = k := by omega
            exact hall
        have W1 := Lib.hid (fun W => word_walk (k : Int) W)
        cases cutb with
        | false =>
          clear hno hall
          go_wp2_with fail
          go_round
          case rel => exact ⟨k + 1, by omega, by omega, by go_num, HN.out⟩
          case measure => simp [intOf]; omega
        | true =>
          cases ok with
          | false =>
            clear hno hall
            go_wp2_with fail
            go_round
            case rel => exact ⟨k + 1, by omega, by omega, by go_num, HN.out⟩
            case measure => simp [intOf]; omega
          | true =>
            have hq : ((B (wordB (k : Int))).toList == (B wd).toList) = false := by
              rw [L_toList, L_toList, L_B, L_B]; simpa using hall
            clear hno hall
            generalize B (wordB (k : Int)) = t at *
            go_wp2_with fail
            refine (W1.out _).mono ?_
            rintro e w3 ⟨rfl, rfl⟩
            go_wp2_with fail
            go_round
            case rel => exact ⟨k + 1, by omega, by omega, by go_num, HN.out⟩
            case measure => simp [intOf]; omega
    · obtain rfl : k = 5 := by omega
      have HO : Hid (OneRes (L s) (.returned (encO none))) := ⟨none, rfl, HNO.out n ok hnum hno⟩
      clear hno hnum
      go_wp2_with fail
      refine bodyPost_ret (v := encO none) ?_ rfl ⟨HO.out, ((below_draw ((Below.refl _ _).alloc (Nat.le_refl _) _)).setCell (by simp) _).setCell (by simp) _⟩
      simp [results, Try.results127, go_sem, encO]
end Go.Proofs.Ytcapaiiegfedmaa
namespace Go.Proofs.Ytcapaiiegfedmaa
open Go.RowKit Go.Shelf
attribute [local go_sem] Oper.semAt_some
theorem one_only (line : Bs) (k n k' n' : Int) (h : lineB k n = line ++ [10]) (h' : lineB k' n' = line ++ [10]) : k = k' ∧ n = n' := by
  obtain ⟨m, rfl, _, hk, hl⟩ := line_form k n line h
  obtain ⟨m', rfl, _, hk', hl'⟩ := line_form k' n' line h'
  have hb := before_app 32 (wordB k) (digB m) (word_space k)
  have hb' := before_app 32 (wordB k') (digB m') (word_space k')
  rw [← hl] at hb
  rw [← hl'] at hb'
  have h1 : wordB k = wordB k' := by rw [← hb.1, hb'.1]
  have h2 : digB m = digB m' := by rw [← hb.2, hb'.2]
  have h3 : m = m' := by rw [← val_dig m, h2, val_dig]
  refine ⟨?_, by rw [h3]⟩
  rcases word_kind k hk with rfl | rfl | rfl | rfl <;> rcases word_kind k' hk' with rfl | rfl | rfl | rfl <;> first | rfl | (exact absurd h1 (by decide))
open Classical in
noncomputable def oneF (l : Bs) : Option (Int × Int) := if h : ∃ r : Int × Int, lineB r.1 r.2 = l ++ [10] then some h.choose else none
theorem oneF_of (l : Bs) (o : Option (Int × Int)) (h : OneIs l o) : o = oneF l := by
  cases o with
  | some r =>
    have hx : ∃ r : Int × Int, lineB r.1 r.2 = l ++ [10] := ⟨r, h⟩
    unfold oneF
    rw [dif_pos hx]
    have := one_only l r.1 r.2 hx.choose.1 hx.choose.2 h hx.choose_spec
    rw [Option.some.injEq]
    exact Prod.ext this.1 this.2
  | none =>
    unfold oneF
    rw [dif_neg (fun ⟨r, hr⟩ => h r.1 r.2 hr)]
theorem oneF_is (l : Bs) : OneIs l (oneF l) := by
  unfold oneF
  split
  · next h => exact h.choose_spec
  · next h => exact fun k n e => h ⟨(k, n), e⟩
/-- the lines of a text: what stands ahead of each line feed -/
def lines : Bs → List Bs
  | [] => []
  | c :: t => if c = 10 then [] :: lines t else match lines t with | [] => [] | a :: l => (c :: a) :: l
theorem lines_no (s : Bs) (h : 10 ∉ s) : lines s = [] := by
  induction s with
  | nil => rfl
  | cons c t ih =>
    have hc : c ≠ 10 := fun e => h (by simp [e])
    have := ih (fun e => h (by simp [e]))
    simp [lines, hc, this]
theorem lines_app (a s : Bs) (h : 10 ∉ a) : lines (a ++ 10 :: s) = a :: lines s := by
  induction a with
  | nil => simp [lines]
  | cons c t ih =>
    have hc : c ≠ 10 := fun e => h (by simp [e])
    have := ih (fun e => h (by simp [e]))
    simp [lines, hc, this]
noncomputable def recs : List Bs → List (Int × Int)
  | [] => []
  | l :: t => match oneF l with | none => [] | some r => r :: recs t
noncomputable def readB (s : Bs) : List (Int × Int) := recs (lines s)
theorem readB_no (s : Bs) (h : 10 ∉ s) : readB s = [] := by unfold readB; rw [lines_no s h]; rfl
theorem readB_some (a s : Bs) (h : 10 ∉ a) (r : Int × Int) (hr : oneF a = some r) : readB (a ++ 10 :: s) = r :: readB s := by
  unfold readB; rw [lines_app a s h]; simp only [recs, hr]
theorem readB_none (a s : Bs) (h : 10 ∉ a) (hr : oneF a = none) : readB (a ++ 10 :: s) = [] := by
  unfold readB; rw [lines_app a s h]; simp only [recs, hr]
theorem jone_walk (s : ByteArray) (hs : s.size ≤ 100000) (w : World) : Calls Try.prog 127 #[.string s] w fun e w' => e = .returned (encO (oneF (L s))) ∧ Below w.heap.size w w' :=
  (one_walk s hs w).mono (by rintro e w' ⟨⟨o, rfl, ho⟩, hb⟩; rw [← oneF_of _ _ ho]; exact ⟨rfl, hb⟩)
theorem records_walk (p : ByteArray) (w : World) : Calls Try.prog 98 #[.string p] w fun e w' => e = .returned (.func (.func 126) #[] #[.pointer (some ⟨w.heap.size, 0, none⟩)]) ∧ w' = w.alloc (.cells #[.string p] 9) := by
  go_enter Try.func98, Try.ntmps98
  go_wp2
  go_ret
  exact ⟨rfl, rfl⟩
theorem grown_below {A C D : World} {row : Option Nat} (h : Below A.heap.size A C) (hg : C.grownBy D row) : A.grownBy D row := by
  exact ⟨hg.os.trans h.os, hg.tape.trans h.tape, hg.output.trans h.output, Nat.le_trans h.size hg.size, fun k hk hr => (hg.block k (by have := h.size; omega) hr).trans (h.block k hk)⟩
theorem grown_of_below {A C : World} (row : Option Nat) (h : Below A.heap.size A C) : A.grownBy C row :=
  ⟨h.os, h.tape, h.output, h.size, fun k hk _ => h.block k hk⟩
def encR (r : Int × Int) : Array Value := #[.agg #[.int .i64 r.1, .int .i64 r.2]]
set_option maxRecDepth 100000 in
set_option maxHeartbeats 1000000 in
theorem records_iter (p : ByteArray) (hp : p.size ≤ 100000) (b : Nat) (W : World) (hb : W.heap[b]? = some (.cells #[.string p] 9 (0, 0))) :
    Iter Try.prog 126 #[.pointer (some ⟨b, 0, none⟩)] encR (readB (L p)) (some b) (fun k => k = b) W := by
  intro l J Jx hJ hJx hY h0
  refine callsIn_of_wp Try.func126 rfl trivial ?_ rfl
  simp only [Try.ntmps126, List.size_toArray, List.length_cons, List.length_nil, Nat.reduceAdd, Nat.reduceSub, Array.replicate_succ, Array.replicate_zero, List.push_toArray, List.append_toArray, List.nil_append, List.cons_append]
  have hc := cell_of_one hb
  gi_wp2_with fail
  gi_loopw [3] (fun _ wr => ∃ (k : Nat) (rest : ByteArray), wr.heap[b]? = some (.cells #[.string rest] 9 (0, 0)) ∧ (readB (L p)).drop k = readB (L rest) ∧ k ≤ (readB (L p)).length ∧ rest.size ≤ 100000 ∧ J k wr) (fun _ wr => boxS b wr)
  case atStart => exact ⟨0, p, hb, rfl, Nat.zero_le _, hp, h0⟩
  case round =>
    obtain ⟨k, rest, hbr, hdrop, hkl, hrs, hJk⟩ := hrel
    have hcr := cell_of_one hbr
    have hfr := free_of_one hbr
    have HD := Lib.hid hdrop; clear hdrop
    by_cases he : rest.toList.isEmpty = true
    · have hrd : (readB (L p)).length = k := by
        have h1 := congrArg List.length HD.out
        rw [L_toList] at he
        rw [show L rest = [] by simpa using he, List.length_drop] at h1
        have : (readB ([] : Bs)).length = 0 := rfl
        omega
      have HL := Lib.hid hrd
      clear hrd
      gi_wp2_with fail
      refine bodyPost_end (results_none rfl _ _ _) rfl ?_
      exact ⟨⟨_, rfl⟩, .inl (by rw [HL.out]; exact hJk)⟩
    rw [Bool.not_eq_true] at he
    have C1 := Lib.hid (fun X => cut1_walk rest hrs 10 X)
    rcases idx_at 10 (L rest) with ⟨_, hno⟩ | ⟨a, t, hat, hno, _⟩
    · have hrd : (readB (L p)).length = k := by
        have h1 := congrArg List.length HD.out
        rw [readB_no _ hno, List.length_drop] at h1
        simp at h1; omega
      have HL := Lib.hid hrd
      rw [(before_no 10 (L rest) hno).1, (before_no 10 (L rest) hno).2, B_L, show decide (10 ∈ L rest) = false by simpa using hno] at C1
      have O1 := Lib.hid (fun X => jone_walk rest hrs X)
      clear hrd hno hY
      cases ho : oneF (L rest) with
      | none =>
        rw [ho, show encO none = .tuple #[.agg #[.int .i64 0, .int .i64 0], .bool false] from rfl] at O1
        clear ho
        gi_wp2_with (refine ⟨trivial, rfl, ?_⟩; first | (gi_at_call 118; refine (callsIn_wide.2 (C1.out _)).mono ?_; rintro e w1 ⟨rfl, nd, rfl⟩) | (gi_at_call 127; refine (callsIn_wide.2 (O1.out _)).mono ?_; rintro e w2 ⟨rfl, hb2⟩))
        have hbw : Below wr.heap.size wr w2 := (below_draw (Below.refl _ _)).trans (hb2.mono (Nat.le_refl _))
        have hws := hbw.size
        refine ⟨(fun f h => by cases h), ?_⟩
        gi_wp2
        refine bodyPost_ret (results_none rfl _ _ _) rfl ?_
        exact ⟨⟨_, rfl⟩, .inl (by rw [HL.out]; exact hJ _ _ _ hJk (grown_of_below _ (hbw.alloc hws _)))⟩
      | some r =>
        rw [ho, show encO (some r) = .tuple #[.agg #[.int .i64 r.1, .int .i64 r.2], .bool true] from rfl] at O1
        clear ho
        gi_wp2_with (refine ⟨trivial, rfl, ?_⟩; first | (gi_at_call 118; refine (callsIn_wide.2 (C1.out _)).mono ?_; rintro e w1 ⟨rfl, nd, rfl⟩) | (gi_at_call 127; refine (callsIn_wide.2 (O1.out _)).mono ?_; rintro e w2 ⟨rfl, hb2⟩))
        have hbw : Below wr.heap.size wr w2 := (below_draw (Below.refl _ _)).trans (hb2.mono (Nat.le_refl _))
        have hws := hbw.size
        refine ⟨(fun f h => by cases h), ?_⟩
        gi_wp2
        refine bodyPost_ret (results_none rfl _ _ _) rfl ?_
        exact ⟨⟨_, rfl⟩, .inl (by rw [HL.out]; exact hJ _ _ _ hJk (grown_of_below _ (hbw.alloc hws _)))⟩
    · have hba := before_app 10 a t hno
      have hal : a.length + 1 + t.length = rest.size := by rw [← L_len, hat]; simp; omega
      rw [hat, hba.1, hba.2, show decide (10 ∈ a ++ 10 :: t) = true by simp] at C1
      have O1 := Lib.hid (fun X => jone_walk (B a) (by rw [B_size]; omega) X)
      rw [L_B] at O1
      cases ho : oneF a with
      | none =>
        have hrd : (readB (L p)).length = k := by
          have h1 := congrArg List.length HD.out
          rw [hat, readB_none a t hno ho, List.length_drop] at h1
          simp at h1; omega
        have HL := Lib.hid hrd
        rw [ho, show encO none = .tuple #[.agg #[.int .i64 0, .int .i64 0], .bool false] from rfl] at O1
        clear ho hrd hba hno hat hY
        gi_wp2_with (refine ⟨trivial, rfl, ?_⟩; first | (gi_at_call 118; refine (callsIn_wide.2 (C1.out _)).mono ?_; rintro e w1 ⟨rfl, nd, rfl⟩) | (gi_at_call 127; refine (callsIn_wide.2 (O1.out _)).mono ?_; rintro e w2 ⟨rfl, hb2⟩))
        have hbw : Below wr.heap.size wr w2 := (below_draw (Below.refl _ _)).trans (hb2.mono (Nat.le_refl _))
        have hws := hbw.size
        refine ⟨(fun f h => by cases h), ?_⟩
        gi_wp2
        refine bodyPost_ret (results_none rfl _ _ _) rfl ?_
        exact ⟨⟨_, rfl⟩, .inl (by rw [HL.out]; exact hJ _ _ _ hJk (grown_of_below _ (hbw.alloc hws _)))⟩
      | some r =>
        have hr := readB_some a t hno r ho
        rw [← hat] at hr
        have hget : (readB (L p))[k]? = some r := by
          have := congrArg (fun z => z[0]?) HD.out
          simpa [hr] using this
        have hnext : (readB (L p)).drop (k + 1) = readB t := by
          have := congrArg (fun z => z.drop 1) HD.out
          simpa [hr] using this
        have hkl' : k < (readB (L p)).length := (List.getElem?_eq_some_iff.1 hget).1
        rw [ho, show encO (some r) = .tuple #[.agg #[.int .i64 r.1, .int .i64 r.2], .bool true] from rfl] at O1
        have HG := Lib.hid hget; have HN := Lib.hid hnext
        clear ho hba hno hat hr hget hnext
        gi_wp2_with (refine ⟨trivial, rfl, ?_⟩; first | (gi_at_call 118; refine (callsIn_wide.2 (C1.out _)).mono ?_; rintro e w1 ⟨rfl, nd, rfl⟩) | (gi_at_call 127; refine (callsIn_wide.2 (O1.out _)).mono ?_; rintro e w2 ⟨rfl, hb2⟩; have hbw : Below wr.heap.size wr w2 := (below_draw (Below.refl _ _)).trans (hb2.mono (Nat.le_refl _)); have hws := hbw.size; obtain ⟨fn, tmps, assign, body, hy, hR⟩ := hY k r (w2.alloc (.cells #[.int .i64 r.1, .int .i64 r.2] 55)) HG.out (hJ _ _ _ hJk (grown_of_below _ (hbw.alloc hws _))); unfold encR at hy))
        refine ⟨rfl, ?_⟩
        refine hR.mono ?_
        have hbr4 : (w2.alloc (.cells #[.int .i64 r.1, .int .i64 r.2] 55)).heap[b]? = some (.cells #[.string rest] 9 (0, 0)) := by
          have hlt := (Array.getElem?_eq_some_iff.1 hbr).1
          exact (Below.heap_alloc _ _ _ (by omega)).trans ((hbw.block b hlt).trans hbr)
        clear hR hY
        rintro e W3 (⟨rfl, hJ3, hk3⟩ | ⟨rfl, hJx3⟩)
        · have hb3 := hk3.same b _ hbr4 (.inr rfl)
          have hc3 := cell_of_one hb3
          have hf3 := free_of_one hb3
          gi_wp2
          go_roundw
          case rel => exact ⟨k + 1, B t, one_setCell hb3, by rw [HN.out, L_B], by omega, by rw [B_size]; omega, hJ _ _ _ hJ3 (grownBy_setCell' W3 b _)⟩
          case measure =>
            rw [boxS_of (one_setCell hb3), boxS_of hbr, B_size]; omega
        · gi_wp2
          refine bodyPost_ret (results_none rfl _ _ _) rfl ?_
          exact ⟨⟨_, rfl⟩, .inr ⟨k + 1, by omega, by omega, hJx3⟩⟩
end Go.Proofs.Ytcapaiiegfedmaa
