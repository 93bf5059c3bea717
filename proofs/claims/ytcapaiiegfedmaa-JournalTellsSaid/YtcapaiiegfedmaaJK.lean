/- flittingref32.Read. -/
import Derived.Test.YtcapaiiegfedmaaJI
namespace Go.Proofs.Ytcapaiiegfedmaa
open Go.RowKit Go.Shelf
theorem mid_more (s : ByteArray) (fr k : Nat) (hf : fr ≤ k) (hk : k < s.size) : ((L s).take (k + 1)).drop fr = ((L s).take k).drop fr ++ [s[k]] := by
  rw [take_next s k hk, List.drop_append_of_le_length (by rw [List.length_take, L_len]; omega)]
theorem mid_cut (s : ByteArray) (fr k : Nat) (hf : fr ≤ k) (hk : k < s.size) : L (s.extract fr (k + 1)) = ((L s).take k).drop fr ++ [s[k]] := by
  rw [extract_B, L_B, ← mid_more s fr k hf hk, List.drop_take]
theorem mid_rest (s : ByteArray) (fr k : Nat) (hf : fr ≤ k) (hk : k < s.size) : (L s).drop fr = ((L s).take k).drop fr ++ s[k] :: (L s).drop (k + 1) := by
  have hl : k < (L s).length := by rw [L_len]; exact hk
  have h1 : (L s).take k ++ (L s)[k] :: (L s).drop (k + 1) = L s := by rw [List.getElem_cons_drop, List.take_append_drop]
  have h2 : ((L s).take k ++ (L s)[k] :: (L s).drop (k + 1)).drop fr = ((L s).take k).drop fr ++ (L s)[k] :: (L s).drop (k + 1) := List.drop_append_of_le_length (by rw [List.length_take]; omega)
  rw [h1] at h2
  exact h2
theorem mid_end (s : ByteArray) (fr k : Nat) (hk : k = s.size) : ((L s).take k).drop fr = (L s).drop fr := by
  rw [hk, take_whole]
theorem second_new (w : World) (o o2 : Obj) : ((w.alloc o).alloc o2).heap[w.heap.size + 1]? = some o2 := by
  have := World.alloc_heap_new (w.alloc o) o2
  rwa [World.size_alloc] at this
set_option maxRecDepth 100000 in
set_option maxHeartbeats 3200000 in
theorem rread_walk (s : ByteArray) (hs : s.size ≤ 100000) (w : World) : Calls Try.prog 49 #[.string s] w fun e w' =>
    ∃ A c, e = .returned (.slice A (readB (L s)).length c) ∧ (readB (L s)).length ≤ c ∧ Slc w' A (recsV (readB (L s))) ∧ Below w.heap.size w w' := by
  go_enter Try.func49, Try.ntmps49
  go_wp2_with fail
  go_loopw [3, 4, 5] (fun v f i wr => ∃ (k fr : Nat) (rs : List (Int × Int)), i = .int .i64 k ∧ f = .int .i64 fr ∧ fr ≤ k ∧ k ≤ s.size ∧ 10 ∉ ((L s).take k).drop fr ∧ readB (L s) = rs ++ readB ((L s).drop fr) ∧ rs.length ≤ k ∧
      (∃ A c, v = .slice A rs.length c ∧ wr.ownsRow w.heap.size 54 2 (.slice A rs.length c) rs.length (recsV rs)) ∧ Below w.heap.size w wr)
    (fun _ _ i _ => s.size - (intOf i).toNat)
  case atStart => exact ⟨0, 0, [], rfl, rfl, Nat.le_refl _, Nat.zero_le _, by simp, by simp, by simp, ⟨none, 0, rfl, World.ownsRow_nil _ _ _ _⟩, Below.refl _ _⟩
  case round =>
    obtain ⟨k, fr, rs, rfl, rfl, hfk, hk, hno, hread, hrk, ⟨A1, c1, rfl, hown⟩, hbr⟩ := hrel
    have hrs := hbr.size
    by_cases hlt : k < s.size
    · by_cases h10 : s[k] = 10
      · have hb10 : ((s[k].toNat : Int) != 10) = false := by rw [bne_byte _ 10 10 rfl]; simpa using h10
        have hcut := mid_cut s fr k hfk hlt
        have hrest := mid_rest s fr k hfk hlt
        rw [h10] at hcut hrest
        have hsz : (s.extract fr (k + 1)).size ≤ 100000 := by rw [← L_len, extract_B, L_B]; simp [L_len]; omega
        have O1 := Lib.hid (fun X => rone_is _ hsz _ hcut X)
        rw [hrest] at hread
        generalize ((L s).take k).drop fr = body at *
        have HN : Hid (10 ∉ ((L s).take (k + 1)).drop (k + 1)) := by show 10 ∉ ((L s).take (k + 1)).drop (k + 1); simp
        have HNO := Lib.hid hno
        clear hcut hrest hsz hno h10
        cases ho : oneF body with
        | none =>
          have HE : Hid (readB (L s) = rs) := by show readB (L s) = rs; rw [hread, readB_none _ _ HNO.out ho, List.append_nil]
          rw [ho, show encO none = .tuple #[.agg #[.int .i64 0, .int .i64 0], .bool false] from rfl] at O1
          clear hread ho
          obtain ⟨A2, c2, he, hcap, hs2⟩ := own_form hown
          cases he
          clear hown
          go_wp2_with fail
          refine (O1.out _).mono ?_
          rintro e w1 ⟨rfl, hb1⟩
          have hs3 := hs2.keep hb1
          replace hbr := hbr.trans (hb1.mono hrs); clear hb1
          go_wp2_with fail
          go_ret
          refine ⟨A1, c1, by rw [HE.out]; rfl, by rw [HE.out]; exact hcap, by rw [HE.out]; exact hs3.keep ((Below.refl _ _).alloc (Nat.le_refl _) _), hbr.alloc hbr.size _⟩
        | some r =>
          have HE : Hid (readB (L s) = (rs ++ [r]) ++ readB ((L s).drop (k + 1))) := by show readB (L s) = _; rw [hread, readB_some _ _ HNO.out r ho, List.append_assoc]; rfl
          rw [ho, show encO (some r) = .tuple #[.agg #[.int .i64 r.1, .int .i64 r.2], .bool true] from rfl] at O1
          clear hread ho
          go_wp2_with fail
          refine (O1.out _).mono ?_
          rintro e w1 ⟨rfl, hb1⟩
          have hown1 := own_keep hown hb1
          replace hbr := hbr.trans (hb1.mono hrs); clear hb1 hown
          have hrs1 := hbr.size
          go_wp2_with (at_builtin; refine wpList_app1 rfl _ _ 45 rfl elem_rrec rfl ((hown1.alloc _).alloc _) (cs := recV r) rfl (second_new w1 _ _) rfl (by intro u hu; simp [recV] at hu; rcases hu with rfl | rfl <;> rfl) (by omega) (by omega) (by simp only [World.size_alloc]; omega) ?_; intro g' cap' w9 hown9 hgr9 hb9)
          go_roundw
          case rel =>
            refine ⟨k + 1, k + 1, rs ++ [r], by go_num, by go_num, Nat.le_refl _, by omega, HN.out, HE.out, by simp; omega, ⟨some ⟨g', 0, none⟩, cap', by simp, ?_⟩, ?_⟩
            · rw [recsV_app, List.length_append]; simpa [recsV] using hown9
            · exact ((hbr.alloc hrs1 _).alloc (by simp; omega) _).trans hb9
          case measure => simp [intOf]; omega
      · have hb10 : ((s[k].toNat : Int) != 10) = true := by rw [bne_byte _ 10 10 rfl]; simpa using h10
        have HN : Hid (10 ∉ ((L s).take (k + 1)).drop fr) := by
          show 10 ∉ ((L s).take (k + 1)).drop fr
          rw [mid_more s fr k hfk hlt, List.mem_append, List.mem_singleton]
          rintro (h | h)
          · exact hno h
          · exact h10 h.symm
        have HR := Lib.hid hread
        clear hread hno h10
        go_wp2_with fail
        go_roundw
        case rel => exact ⟨k + 1, fr, rs, by go_num, rfl, by omega, by omega, HN.out, HR.out, by omega, ⟨A1, c1, rfl, hown⟩, hbr⟩
        case measure => simp [intOf]; omega
    · have hks : k = s.size := by omega
      have HE : Hid (readB (L s) = rs) := by
        show readB (L s) = rs
        rw [mid_end s fr k hks] at hno
        rw [hread, readB_no _ hno, List.append_nil]
      obtain ⟨A2, c2, he, hcap, hs2⟩ := own_form hown
      cases he
      clear hown hread hno
      go_wp2_with fail
      go_ret
      exact ⟨A1, c1, by rw [HE.out]; rfl, by rw [HE.out]; exact hcap, by rw [HE.out]; exact hs2, hbr⟩
end Go.Proofs.Ytcapaiiegfedmaa
