/- journal.records: the iterator over a text's records. -/
import Derived.Test.YtcapaiiegfedmaaJC
import Derived.Test.YtcapaiiegfedmaaCol
namespace Go.Proofs.Ytcapaiiegfedmaa
open Go.RowKit Go.Shelf
attribute [local go_sem] Oper.semAt_some
theorem one_only (line : Bs) (k n k' n' : Int) (h : lineB k n = line ++ [10]) (h' : lineB k' n' = line ++ [10]) : k = k' ∧ n = n' := by
  obtain ⟨m, rfl, _, hk, hl⟩ := line_form k n line h
  obtain ⟨m', rfl, _, hk', hl'⟩ := line_form k' n' line h'
  have hb := before_app 32 (wordB k) (digB m) (word_space k)
  have hb' := before_app 32 (wordB k') (digB m') (word_space k')
  rw [← hl] at hb
  rw [← hl'] at hb'
  have h1 : wordB k = wordB k' := by rw [← hb.1, hb'.1]
  have h2 : digB m = digB m' := by rw [← hb.2, hb'.2]
  have h3 : m = m' := by rw [← val_dig m, h2, val_dig]
  refine ⟨?_, by rw [h3]⟩
  rcases word_kind k hk with rfl | rfl | rfl | rfl <;> rcases word_kind k' hk' with rfl | rfl | rfl | rfl <;> first | rfl | (exact absurd h1 (by decide))
open Classical in
noncomputable def oneF (l : Bs) : Option (Int × Int) := if h : ∃ r : Int × Int, lineB r.1 r.2 = l ++ [10] then some h.choose else none
theorem oneF_of (l : Bs) (o : Option (Int × Int)) (h : OneIs l o) : o = oneF l := by
  cases o with
  | some r =>
    have hx : ∃ r : Int × Int, lineB r.1 r.2 = l ++ [10] := ⟨r, h⟩
    unfold oneF
    rw [dif_pos hx]
    have := one_only l r.1 r.2 hx.choose.1 hx.choose.2 h hx.choose_spec
    rw [Option.some.injEq]
    exact Prod.ext this.1 this.2
  | none =>
    unfold oneF
    rw [dif_neg (fun ⟨r, hr⟩ => h r.1 r.2 hr)]
theorem oneF_is (l : Bs) : OneIs l (oneF l) := by
  unfold oneF
  split
  · next h => exact h.choose_spec
  · next h => exact fun k n e => h ⟨(k, n), e⟩
/-- the lines of a text: what stands ahead of each line feed -/
def lines : Bs → List Bs
  | [] => []
  | c :: t => if c = 10 then [] :: lines t else match lines t with | [] => [] | a :: l => (c :: a) :: l
theorem lines_no (s : Bs) (h : 10 ∉ s) : lines s = [] := by
  induction s with
  | nil => rfl
  | cons c t ih =>
    have hc : c ≠ 10 := fun e => h (by simp [e])
    have := ih (fun e => h (by simp [e]))
    simp [lines, hc, this]
theorem lines_app (a s : Bs) (h : 10 ∉ a) : lines (a ++ 10 :: s) = a :: lines s := by
  induction a with
  | nil => simp [lines]
  | cons c t ih =>
    have hc : c ≠ 10 := fun e => h (by simp [e])
    have := ih (fun e => h (by simp [e]))
    simp [lines, hc, this]
noncomputable def recs : List Bs → List (Int × Int)
  | [] => []
  | l :: t => match oneF l with | none => [] | some r => r :: recs t
noncomputable def readB (s : Bs) : List (Int × Int) := recs (lines s)
theorem readB_no (s : Bs) (h : 10 ∉ s) : readB s = [] := by unfold readB; rw [lines_no s h]; rfl
theorem readB_some (a s : Bs) (h : 10 ∉ a) (r : Int × Int) (hr : oneF a = some r) : readB (a ++ 10 :: s) = r :: readB s := by
  unfold readB; rw [lines_app a s h]; simp only [recs, hr]
theorem readB_none (a s : Bs) (h : 10 ∉ a) (hr : oneF a = none) : readB (a ++ 10 :: s) = [] := by
  unfold readB; rw [lines_app a s h]; simp only [recs, hr]
theorem jone_walk (s : ByteArray) (hs : s.size ≤ 100000) (w : World) : Calls Try.prog 127 #[.string s] w fun e w' => e = .returned (encO (oneF (L s))) ∧ Below w.heap.size w w' :=
  (one_walk s hs w).mono (by rintro e w' ⟨⟨o, rfl, ho⟩, hb⟩; rw [← oneF_of _ _ ho]; exact ⟨rfl, hb⟩)
theorem records_walk (p : ByteArray) (w : World) : Calls Try.prog 98 #[.string p] w fun e w' => e = .returned (.func (.func 126) #[] #[.pointer (some ⟨w.heap.size, 0, none⟩)]) ∧ w' = w.alloc (.cells #[.string p] 9) := by
  go_enter Try.func98, Try.ntmps98
  go_wp2
  go_ret
  exact ⟨rfl, rfl⟩
theorem grown_below {A C D : World} {row : Option Nat} (h : Below A.heap.size A C) (hg : C.grownBy D row) : A.grownBy D row := by
  exact ⟨hg.os.trans h.os, hg.tape.trans h.tape, hg.output.trans h.output, Nat.le_trans h.size hg.size, fun k hk hr => (hg.block k (by have := h.size; omega) hr).trans (h.block k hk)⟩
theorem grown_of_below {A C : World} (row : Option Nat) (h : Below A.heap.size A C) : A.grownBy C row :=
  ⟨h.os, h.tape, h.output, h.size, fun k hk _ => h.block k hk⟩
def encR (r : Int × Int) : Array Value := #[.agg #[.int .i64 r.1, .int .i64 r.2]]
set_option maxRecDepth 100000 in
set_option maxHeartbeats 1000000 in
theorem records_iter (p : ByteArray) (hp : p.size ≤ 100000) (b : Nat) (W : World) (hb : W.heap[b]? = some (.cells #[.string p] 9 (0, 0))) :
    Iter Try.prog 126 #[.pointer (some ⟨b, 0, none⟩)] encR (readB (L p)) (some b) (fun k => k = b) W := by
  intro l J Jx hJ hJx hY h0
  refine callsIn_of_wp Try.func126 rfl trivial ?_ rfl
  simp only [Try.ntmps126, List.size_toArray, List.length_cons, List.length_nil, Nat.reduceAdd, Nat.reduceSub, Array.replicate_succ, Array.replicate_zero, List.push_toArray, List.append_toArray, List.nil_append, List.cons_append]
  have hc := cell_of_one hb
  gi_wp2_with fail
  gi_loopw [3] (fun _ wr => ∃ (k : Nat) (rest : ByteArray), wr.heap[b]? = some (.cells #[.string rest] 9 (0, 0)) ∧ (readB (L p)).drop k = readB (L rest) ∧ k ≤ (readB (L p)).length ∧ rest.size ≤ 100000 ∧ J k wr) (fun _ wr => boxS b wr)
  case atStart => exact ⟨0, p, hb, rfl, Nat.zero_le _, hp, h0⟩
  case round =>
    obtain ⟨k, rest, hbr, hdrop, hkl, hrs, hJk⟩ := hrel
    have hcr := cell_of_one hbr
    have hfr := free_of_one hbr
    have HD := Lib.hid hdrop; clear hdrop
    by_cases he : rest.toList.isEmpty = true
    · have hrd : (readB (L p)).length = k := by
        have h1 := congrArg List.length HD.out
        rw [L_toList] at he
        rw [show L rest = [] by simpa using he, List.length_drop] at h1
        have : (readB ([] : Bs)).length = 0 := rfl
        omega
      have HL := Lib.hid hrd
      clear hrd
      gi_wp2_with fail
      refine bodyPost_end (results_none rfl _ _ _) rfl ?_
      exact ⟨⟨_, rfl⟩, .inl (by rw [HL.out]; exact hJk)⟩
    rw [Bool.not_eq_true] at he
    have C1 := Lib.hid (fun X => cut1_walk rest hrs 10 X)
    rcases idx_at 10 (L rest) with ⟨_, hno⟩ | ⟨a, t, hat, hno, _⟩
    · have hrd : (readB (L p)).length = k := by
        have h1 := congrArg List.length HD.out
        rw [readB_no _ hno, List.length_drop] at h1
        simp at h1; omega
      have HL := Lib.hid hrd
      rw [(before_no 10 (L rest) hno).1, (before_no 10 (L rest) hno).2, B_L, show decide (10 ∈ L rest) = false by simpa using hno] at C1
      have O1 := Lib.hid (fun X => jone_walk rest hrs X)
      clear hrd hno hY
      cases ho : oneF (L rest) with
      | none =>
        rw [ho, show encO none = .tuple #[.agg #[.int .i64 0, .int .i64 0], .bool false] from rfl] at O1
        clear ho
        gi_wp2_with (refine ⟨trivial, rfl, ?_⟩; first | (gi_at_call 118; refine (callsIn_wide.2 (C1.out _)).mono ?_; rintro e w1 ⟨rfl, nd, rfl⟩) | (gi_at_call 127; refine (callsIn_wide.2 (O1.out _)).mono ?_; rintro e w2 ⟨rfl, hb2⟩))
        have hbw : Below wr.heap.size wr w2 := (below_draw (Below.refl _ _)).trans (hb2.mono (Nat.le_refl _))
        have hws := hbw.size
        refine ⟨(fun f h => by cases h), ?_⟩
        gi_wp2
        refine bodyPost_ret (results_none rfl _ _ _) rfl ?_
        exact ⟨⟨_, rfl⟩, .inl (by rw [HL.out]; exact hJ _ _ _ hJk (grown_of_below _ (hbw.alloc hws _)))⟩
      | some r =>
        rw [ho, show encO (some r) = .tuple #[.agg #[.int .i64 r.1, .int .i64 r.2], .bool true] from rfl] at O1
        clear ho
        gi_wp2_with (refine ⟨trivial, rfl, ?_⟩; first | (gi_at_call 118; refine (callsIn_wide.2 (C1.out _)).mono ?_; rintro e w1 ⟨rfl, nd, rfl⟩) | (gi_at_call 127; refine (callsIn_wide.2 (O1.out _)).mono ?_; rintro e w2 ⟨rfl, hb2⟩))
        have hbw : Below wr.heap.size wr w2 := (below_draw (Below.refl _ _)).trans (hb2.mono (Nat.le_refl _))
        have hws := hbw.size
        refine ⟨(fun f h => by cases h), ?_⟩
        gi_wp2
        refine bodyPost_ret (results_none rfl _ _ _) rfl ?_
        exact ⟨⟨_, rfl⟩, .inl (by rw [HL.out]; exact hJ _ _ _ hJk (grown_of_below _ (hbw.alloc hws _)))⟩
    · have hba := before_app 10 a t hno
      have hal : a.length + 1 + t.length = rest.size := by rw [← L_len, hat]; simp; omega
      rw [hat, hba.1, hba.2, show decide (10 ∈ a ++ 10 :: t) = true by simp] at C1
      have O1 := Lib.hid (fun X => jone_walk (B a) (by rw [B_size]; omega) X)
      rw [L_B] at O1
      cases ho : oneF a with
      | none =>
        have hrd : (readB (L p)).length = k := by
          have h1 := congrArg List.length HD.out
          rw [hat, readB_none a t hno ho, List.length_drop] at h1
          simp at h1; omega
        have HL := Lib.hid hrd
        rw [ho, show encO none = .tuple #[.agg #[.int .i64 0, .int .i64 0], .bool false] from rfl] at O1
        clear ho hrd hba hno hat hY
        gi_wp2_with (refine ⟨trivial, rfl, ?_⟩; first | (gi_at_call 118; refine (callsIn_wide.2 (C1.out _)).mono ?_; rintro e w1 ⟨rfl, nd, rfl⟩) | (gi_at_call 127; refine (callsIn_wide.2 (O1.out _)).mono ?_; rintro e w2 ⟨rfl, hb2⟩))
        have hbw : Below wr.heap.size wr w2 := (below_draw (Below.refl _ _)).trans (hb2.mono (Nat.le_refl _))
        have hws := hbw.size
        refine ⟨(fun f h => by cases h), ?_⟩
        gi_wp2
        refine bodyPost_ret (results_none rfl _ _ _) rfl ?_
        exact ⟨⟨_, rfl⟩, .inl (by rw [HL.out]; exact hJ _ _ _ hJk (grown_of_below _ (hbw.alloc hws _)))⟩
      | some r =>
        have hr := readB_some a t hno r ho
        rw [← hat] at hr
        have hget : (readB (L p))[k]? = some r := by
          have := congrArg (fun z => z[0]?) HD.out
          simpa [hr] using this
        have hnext : (readB (L p)).drop (k + 1) = readB t := by
          have := congrArg (fun z => z.drop 1) HD.out
          simpa [hr] using this
        have hkl' : k < (readB (L p)).length := (List.getElem?_eq_some_iff.1 hget).1
        rw [ho, show encO (some r) = .tuple #[.agg #[.int .i64 r.1, .int .i64 r.2], .bool true] from rfl] at O1
        have HG := Lib.hid hget; have HN := Lib.hid hnext
        clear ho hba hno hat hr hget hnext
        gi_wp2_with (refine ⟨trivial, rfl, ?_⟩; first | (gi_at_call 118; refine (callsIn_wide.2 (C1.out _)).mono ?_; rintro e w1 ⟨rfl, nd, rfl⟩) | (gi_at_call 127; refine (callsIn_wide.2 (O1.out _)).mono ?_; rintro e w2 ⟨rfl, hb2⟩; have hbw : Below wr.heap.size wr w2 := (below_draw (Below.refl _ _)).trans (hb2.mono (Nat.le_refl _)); have hws := hbw.size; obtain ⟨fn, tmps, assign, body, hy, hR⟩ := hY k r (w2.alloc (.cells #[.int .i64 r.1, .int .i64 r.2] 55)) HG.out (hJ _ _ _ hJk (grown_of_below _ (hbw.alloc hws _))); unfold encR at hy))
        refine ⟨rfl, ?_⟩
        refine hR.mono ?_
        have hbr4 : (w2.alloc (.cells #[.int .i64 r.1, .int .i64 r.2] 55)).heap[b]? = some (.cells #[.string rest] 9 (0, 0)) := by
          have hlt := (Array.getElem?_eq_some_iff.1 hbr).1
          exact (Below.heap_alloc _ _ _ (by omega)).trans ((hbw.block b hlt).trans hbr)
        clear hR hY
        rintro e W3 (⟨rfl, hJ3, hk3⟩ | ⟨rfl, hJx3⟩)
        · have hb3 := hk3.same b _ hbr4 (.inr rfl)
          have hc3 := cell_of_one hb3
          have hf3 := free_of_one hb3
          gi_wp2
          go_roundw
          case rel => exact ⟨k + 1, B t, one_setCell hb3, by rw [HN.out, L_B], by omega, by rw [B_size]; omega, hJ _ _ _ hJ3 (grownBy_setCell' W3 b _)⟩
          case measure =>
            rw [boxS_of (one_setCell hb3), boxS_of hbr, B_size]; omega
        · gi_wp2
          refine bodyPost_ret (results_none rfl _ _ _) rfl ?_
          exact ⟨⟨_, rfl⟩, .inr ⟨k + 1, by omega, by omega, hJx3⟩⟩
end Go.Proofs.Ytcapaiiegfedmaa
