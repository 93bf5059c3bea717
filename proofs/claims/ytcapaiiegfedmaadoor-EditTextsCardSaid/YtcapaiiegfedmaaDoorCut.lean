/- paths.cut: its iterator tells what stands between slashes. -/
import Derived.Test.YtcapaiiegfedmaaDoorRange
import Derived.Test.YtcapaiiegfedmaaDoorShelf
namespace Go.Proofs.YtcapaiiegfedmaaDoor
open Go.RowKit Go.Shelf
attribute [local go_sem] Oper.semAt_some
theorem idx_split (l : Bs) : (Lib.indexByte l 47 = -1 ∧ 47 ∉ l) ∨ ∃ n : Nat, Lib.indexByte l 47 = n ∧ n < l.length ∧ 47 ∉ l.take n ∧ l = l.take n ++ 47 :: l.drop (n + 1) := by
  induction l with
  | nil => left; simp [Lib.indexByte]
  | cons b t ih =>
    unfold Lib.indexByte
    by_cases hb : b = 47
    · subst hb
      right
      exact ⟨0, rfl, by simp, by simp, rfl⟩
    · have hb' : (b == 47) = false := by simpa using hb
      simp only [hb', Bool.false_eq_true, if_false]
      rcases ih with ⟨h1, h2⟩ | ⟨n, h1, h2, h3, h4⟩
      · left
        simp only [h1, beq_self_eq_true, if_true, List.mem_cons, not_or, true_and]
        exact ⟨fun e => hb e.symm, h2⟩
      · right
        have : ((n : Int) == -1) = false := by simp
        simp only [h1, this, Bool.false_eq_true, if_false]
        refine ⟨n + 1, by simp, by simp only [List.length_cons]; omega, ?_, ?_⟩
        · simp only [List.take_succ_cons, List.mem_cons, not_or]
          exact ⟨fun e => hb e.symm, h3⟩
        · simp only [List.take_succ_cons, List.drop_succ_cons, List.cons_append, List.cons.injEq, true_and]
          exact h4
/-- the text in a box -/
def boxS (b : Nat) (W : World) : Nat := match W.cell? ⟨b, 0, none⟩ with | some (.string s) => s.size | _ => 0
theorem boxS_of {b : Nat} {W : World} {s : ByteArray} {t : TypeId} {z : Nat × Nat} (h : W.heap[b]? = some (.cells #[.string s] t z)) : boxS b W = s.size := by
  unfold boxS World.cell?; simp [h]
theorem cut_iter (p : ByteArray) (hp : p.size ≤ 100000) (b : Nat) (W : World) (hb : W.heap[b]? = some (.cells #[.string p] 9 (0, 0))) :
    Iter Tryd.prog 54 #[.pointer (some ⟨b, 0, none⟩)] (fun s : Bs => #[.string (B s)]) (cut (L p)) (some b) (fun k => k = b) W := by
  intro l J Jx hJ hJx hY h0
  refine callsIn_of_wp Tryd.func54 rfl trivial ?_ rfl
  simp only [Tryd.ntmps54, List.size_toArray, List.length_cons, List.length_nil, Nat.reduceAdd, Nat.reduceSub, Array.replicate_succ, Array.replicate_zero, List.push_toArray, List.append_toArray, List.nil_append, List.cons_append]
  have hc := cell_of_one hb
  by_cases he : p.toList.isEmpty = true
  · have hn : cut (L p) = [] := by rw [L_toList] at he; unfold cut; rw [if_pos (by simpa using he)]
    have HN := Lib.hid hn; clear hn
    gi_wp2_with fail
    refine bodyPost_ret (results_none rfl _ _ _) rfl ?_
    exact ⟨⟨_, rfl⟩, .inl (by rw [HN.out]; exact h0)⟩
  · rw [Bool.not_eq_true] at he
    have hn : cut (L p) = split1 (L p) := by rw [L_toList] at he; exact cut_cons _ (by simpa using he)
    have HN := Lib.hid hn; clear hn
    gi_wp2_with fail
    gi_loopw [3] (fun _ wr => ∃ (k : Nat) (rest : ByteArray), wr.heap[b]? = some (.cells #[.string rest] 9 (0, 0)) ∧ (cut (L p)).drop k = split1 (L rest) ∧ rest.size ≤ 100000 ∧ J k wr) (fun _ wr => boxS b wr)
    case atStart => exact ⟨0, p, hb, by rw [HN.out]; rfl, hp, h0⟩
    case round =>
      obtain ⟨k, rest, hbr, hdrop, hrs, hJk⟩ := hrel
      have hcr := cell_of_one hbr
      have hfr := free_of_one hbr
      have HD := Lib.hid hdrop; clear hdrop
      rcases idx_split (L rest) with ⟨hi, hno⟩ | ⟨n, hi, hlt, hno, heq⟩
      · -- NO SLASH IS LEFT
        have hsp : split1 (L rest) = [L rest] := split1_no _ hno
        have hget : (cut (L p))[k]? = some (L rest) := by
          have := congrArg (fun z => z[0]?) HD.out
          simpa [hsp] using this
        have hlen : (cut (L p)).length = k + 1 := by
          have := congrArg List.length HD.out
          simp only [hsp, List.length_drop, List.length_cons, List.length_nil] at this
          have hk := (List.getElem?_eq_some_iff.1 hget).1
          omega
        obtain ⟨fn, tmps, assign, body, hy, hR⟩ := hY k (L rest) wr hget hJk
        rw [B_L] at hy
        have HL := Lib.hid hlen; have HS := Lib.hid hsp; have HG := Lib.hid hget
        clear hlen hsp hget
        have hii : Lib.indexByte rest.data.toList 47 = -1 := hi
        clear hi hno
        gi_wp2_with (refine ⟨trivial, rfl, ?_⟩; gi_at_call 55; refine (callsIn_wide.2 (Tryd.strings_IndexByte _ _ _)).mono ?_; rintro e w' ⟨rfl, rfl⟩)
        refine ⟨rfl, ?_⟩
        refine hR.mono ?_
        clear hR hii
        rintro e W3 (⟨rfl, hJ3, hk3⟩ | ⟨rfl, hJx3⟩)
        · gi_wp2
          refine bodyPost_ret (results_none rfl _ _ _) rfl ?_
          exact ⟨⟨_, rfl⟩, .inl (by rw [HL.out]; exact hJ3)⟩
        · gi_wp2
          refine bodyPost_ret (results_none rfl _ _ _) rfl ?_
          exact ⟨⟨_, rfl⟩, .inr ⟨k + 1, by omega, by rw [HL.out]; exact Nat.le_refl _, hJx3⟩⟩
      · -- A SLASH
        have hls : (L rest).length = rest.size := L_len rest
        have hsp : split1 (L rest) = (L rest).take n :: split1 ((L rest).drop (n + 1)) := by
          conv => lhs; rw [heq]
          exact split1_slash _ _ hno
        have hget : (cut (L p))[k]? = some ((L rest).take n) := by
          have := congrArg (fun z => z[0]?) HD.out
          simpa [hsp] using this
        have hnext : (cut (L p)).drop (k + 1) = split1 ((L rest).drop (n + 1)) := by
          have := congrArg (fun z => z.drop 1) HD.out
          simpa [hsp] using this
        have hkl : k < (cut (L p)).length := (List.getElem?_eq_some_iff.1 hget).1
        have hn1 : n < rest.size := by omega
        have hext : rest.extract 0 n = B ((L rest).take n) := by rw [extract_B]; simp
        have hext2 : rest.extract (n + 1) rest.size = B ((L rest).drop (n + 1)) := by
          rw [extract_B, List.take_of_length_le (by simp [hls])]
        obtain ⟨fn, tmps, assign, body, hy, hR⟩ := hY k ((L rest).take n) wr hget hJk
        rw [← hext] at hy
        have HN1 := Lib.hid hnext; have HE2 := Lib.hid hext2; have HI := Lib.hid hi
        clear hls hsp hget hnext hext hext2 heq hno hlt
        have hii : Lib.indexByte rest.data.toList 47 = n := hi
        clear hi
        gi_wp2_with (refine ⟨trivial, rfl, ?_⟩; gi_at_call 55; refine (callsIn_wide.2 (Tryd.strings_IndexByte _ _ _)).mono ?_; rintro e w' ⟨rfl, rfl⟩)
        refine ⟨rfl, ?_⟩
        refine hR.mono ?_
        clear hR
        rintro e W3 (⟨rfl, hJ3, hk3⟩ | ⟨rfl, hJx3⟩)
        · have hb3 := hk3.same b _ hbr (.inr rfl)
          have hc3 := cell_of_one hb3
          have hf3 := free_of_one hb3
          gi_wp2
          go_roundw
          case rel =>
            refine ⟨k + 1, rest.extract (n + 1) rest.size, one_setCell hb3, ?_, ?_, hJ _ _ _ hJ3 (grownBy_setCell' W3 b _)⟩
            · rw [HN1.out, HE2.out]; rfl
            · rw [HE2.out]; simp; rw [L_len]; omega
          case measure =>
            rw [boxS_of (one_setCell hb3), boxS_of hbr, HE2.out]
            simp; rw [L_len]; omega
        · gi_wp2
          refine bodyPost_ret (results_none rfl _ _ _) rfl ?_
          exact ⟨⟨_, rfl⟩, .inr ⟨k + 1, by omega, by omega, hJx3⟩⟩
end Go.Proofs.YtcapaiiegfedmaaDoor
