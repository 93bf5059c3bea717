/- work: the iterator over the pieces of bytes. -/
import Derived.Test.YtcapaiiegfedmaaWA
import Derived.Test.YtcapaiiegfedmaaRangeS
import Derived.Test.YtcapaiiegfedmaaCut
namespace Go.Proofs.Ytcapaiiegfedmaa
open Go.RowKit Go.Shelf
attribute [local go_sem] Oper.semAt_some
theorem grownS_set {W W' : World} {Rs : Nat → Prop} (b : Nat) (v : Value) (hb : Rs b) (hW : W' = W.setCell ⟨b, 0, none⟩ v) : GrownS W W' Rs := by
  subst hW
  refine ⟨rfl, rfl, rfl, by simp [World.setCell], fun k hk hn => ?_⟩
  have : k ≠ b := fun e => hn (e ▸ hb)
  simp [World.setCell, Array.getElem?_modify, Ne.symm this]
theorem other_setCell {W : World} {b b' : Nat} {v : Value} {o : Obj} (h : W.heap[b']? = some o) (hne : b' ≠ b) : (W.setCell ⟨b, 0, none⟩ v).heap[b']? = some o := by
  simp [World.setCell, Array.getElem?_modify, Ne.symm hne, h]
theorem pieces_walk (d : ByteArray) (m : Int) (w : World) : Calls Try.prog 102 #[.string d, .int .i64 m] w fun e w' =>
    e = .returned (.func (.func 128) #[] #[.pointer (some ⟨w.heap.size + 1, 0, none⟩), .pointer (some ⟨w.heap.size, 0, none⟩)]) ∧ w' = (w.alloc (.cells #[.string d] 9)).alloc (.cells #[.int .i64 m] 3) := by
  go_enter Try.func102, Try.ntmps102
  go_wp2
  go_ret
  exact ⟨rfl, rfl⟩
theorem piece_max (m : Int) (h0 : m ≤ 9223372036854775807) : max m 1 = (pieceM m : Int) ∧ 1 ≤ pieceM m ∧ (pieceM m : Int) ≤ 9223372036854775807 := by
  unfold pieceM
  split <;> omega
set_option maxRecDepth 100000 in
set_option maxHeartbeats 4000000 in
theorem pieces_iter (d : ByteArray) (hd : d.size ≤ 100000) (m : Int) (hm : m ≤ 9223372036854775807) (bp bd : Nat) (hne : bp ≠ bd) (W : World) (hp : W.heap[bp]? = some (.cells #[.int .i64 m] 3 (0, 0))) (hb : W.heap[bd]? = some (.cells #[.string d] 9 (0, 0))) :
    IterS Try.prog 128 #[.pointer (some ⟨bp, 0, none⟩), .pointer (some ⟨bd, 0, none⟩)] (fun s : Bs => #[.string (B s)]) (chunks (pieceM m) (L d)) (fun k => k = bp ∨ k = bd) (fun k => k = bp ∨ k = bd) W := by
  intro l J Jx hJ hJx hY h0
  refine callsIn_of_wp Try.func128 rfl trivial ?_ rfl
  simp only [Try.ntmps128, List.size_toArray, List.length_cons, List.length_nil, Nat.reduceAdd, Nat.reduceSub, Array.replicate_succ, Array.replicate_zero, List.push_toArray, List.append_toArray, List.nil_append, List.cons_append]
  obtain ⟨hmx, hm1, hm2⟩ := piece_max m hm
  have hc := cell_of_one hp
  have hf := free_of_one hp
  generalize pieceM m = mm at *
  gi_wp2_with fail
  have hbd := other_setCell (b := bp) (v := .int .i64 (max m 1)) hb (Ne.symm hne)
  have hbp : (W.setCell ⟨bp, 0, none⟩ (.int .i64 (max m 1))).heap[bp]? = some (.cells #[.int .i64 (max m 1)] 3 (0, 0)) := one_setCell hp
  have hJ0 := hJ 0 W _ h0 (grownS_set bp (.int .i64 (max m 1)) (.inl rfl) rfl)
  rw [hmx] at *
  have HJ := Lib.hid hJ
  have HJX := Lib.hid hJx
  generalize W.setCell ⟨bp, 0, none⟩ (.int .i64 (mm : Int)) = W0 at *
  clear hc hf hp hb h0 hJ hJx hmx
  gi_loopw [4] (fun _ wr => ∃ (k : Nat) (rest : ByteArray), wr.heap[bd]? = some (.cells #[.string rest] 9 (0, 0)) ∧ wr.heap[bp]? = some (.cells #[.int .i64 (mm : Int)] 3 (0, 0)) ∧ Hid ((chunks mm (L d)).drop k = chunks mm (L rest)) ∧ k ≤ (chunks mm (L d)).length ∧ rest.size ≤ 100000 ∧ J k wr) (fun _ wr => boxS bd wr)
  case atStart => exact ⟨0, d, hbd, hbp, rfl, Nat.zero_le _, hd, hJ0⟩
  case round =>
    obtain ⟨k, rest, hbr, hpr, HD, hkl, hrs, hJk⟩ := hrel
    have hcr := cell_of_one hbr
    have hfr := free_of_one hbr
    have hcp := cell_of_one hpr
    by_cases he : rest.toList.isEmpty = true
    · have HL : Hid ((chunks mm (L d)).length = k) := by
        show _ = _
        have h1 := congrArg List.length HD.out
        rw [L_toList] at he
        rw [show L rest = [] by simpa using he, List.length_drop, chunks_nil] at h1
        simp at h1; omega
      gi_wp2_with fail
      refine bodyPost_end (results_none rfl _ _ _) rfl ?_
      exact ⟨⟨_, rfl⟩, .inl (by rw [HL.out]; exact hJk)⟩
    · rw [Bool.not_eq_true] at he
      have hrne : L rest ≠ [] := by rw [L_toList] at he; intro e; rw [e] at he; cases he
      have hr0 : 0 < rest.size := by rw [← L_len]; exact List.length_pos_iff.2 hrne
      have hcc := chunks_cons mm hm1 (L rest) hrne
      have hget : (chunks mm (L d))[k]? = some ((L rest).take mm) := by
        have := congrArg (fun z => z[0]?) HD.out
        simpa [hcc] using this
      have hnext : (chunks mm (L d)).drop (k + 1) = chunks mm ((L rest).drop mm) := by
        have := congrArg (fun z => z.drop 1) HD.out
        simpa [hcc] using this
      have hkl' : k < (chunks mm (L d)).length := (List.getElem?_eq_some_iff.1 hget).1
      obtain ⟨nv, hnv⟩ : ∃ nv : Nat, min mm rest.size = nv := ⟨_, rfl⟩
      have hmin : min (mm : Int) (rest.size : Int) = (nv : Int) := by omega
      have hn0 : (0 : Int) ≤ (nv : Int) := Int.natCast_nonneg _
      have hn1 : (nv : Int) ≤ (rest.size : Int) := by omega
      have hn2 : nv ≤ rest.size := by omega
      have hn3 : 1 ≤ nv := by omega
      have hext : rest.extract 0 nv = B ((L rest).take mm) := by
        rw [extract_B, List.drop_zero, Nat.sub_zero, ← hnv]
        congr 1
        by_cases h : mm ≤ rest.size
        · rw [Nat.min_eq_left h]
        · rw [Nat.min_eq_right (by omega), List.take_of_length_le (by rw [L_len]; exact Nat.le_refl _), List.take_of_length_le (by rw [L_len]; omega)]
      have hext2 : rest.extract nv rest.size = B ((L rest).drop mm) := by
        rw [extract_B, List.take_of_length_le (by simp [L_len]), ← hnv]
        congr 1
        by_cases h : mm ≤ rest.size
        · rw [Nat.min_eq_left h]
        · rw [Nat.min_eq_right (by omega), List.drop_eq_nil_of_le (by rw [L_len]; exact Nat.le_refl _), List.drop_eq_nil_of_le (by rw [L_len]; omega)]
      obtain ⟨fn, tmps, assign, body, hy, hR⟩ := hY k ((L rest).take mm) wr hget hJk
      rw [← hext] at hy
      have HN1 := Lib.hid hnext; have HE2 := Lib.hid hext2
      clear hcc hget hnext hext hext2 hrne hnv
      gi_wp2_with fail
      refine ⟨rfl, ?_⟩
      refine hR.mono ?_
      clear hR
      rintro e W3 (⟨rfl, hJ3, hk3⟩ | ⟨rfl, hJx3⟩)
      · have hb3 := hk3.same bd _ hbr (.inr (.inr rfl))
        have hp3 := hk3.same bp _ hpr (.inr (.inl rfl))
        have hc3 := cell_of_one hb3
        have hf3 := free_of_one hb3
        gi_wp2
        go_roundw
        case rel =>
          refine ⟨k + 1, rest.extract nv rest.size, one_setCell hb3, other_setCell hp3 hne, ?_, by omega, ?_, HJ.out _ _ _ hJ3 (grownS_set bd _ (.inr rfl) rfl)⟩
          · show _ = _
            rw [HN1.out, HE2.out]; rfl
          · rw [HE2.out]; simp; rw [L_len]; omega
        case measure =>
          rw [boxS_of (one_setCell hb3), boxS_of hbr, HE2.out]
          simp; rw [L_len]; omega
      · gi_wp2
        refine bodyPost_ret (results_none rfl _ _ _) rfl ?_
        exact ⟨⟨_, rfl⟩, .inr ⟨k + 1, by omega, by omega, hJx3⟩⟩
end Go.Proofs.Ytcapaiiegfedmaa
