/- The walk of flittinglaw32.JournalBack. -/
import Derived.Test.YtcapaiiegfedmaaJReadsW
namespace Go.Proofs.Ytcapaiiegfedmaa
open Go.RowKit Go.Shelf
theorem keepc {w w' : World} {p : Addr} {v : Value} (hb : Below w.heap.size w w') (h : w.cell? p = some v) : w'.cell? p = some v := (hb.cell (World.block_lt_of_cell? w p h)).trans h
theorem B_nil_beq (l : Bs) : ((B l).toList == ([] : List UInt8)) = decide (l = []) := by
  rw [L_toList, L_B]; cases l <;> rfl
set_option maxRecDepth 100000 in
set_option maxHeartbeats 3200000 in
theorem journalBack_walk (A : Option Addr) (c : Nat) (rs : List (Int × Int)) (torn : ByteArray) (w : World) (hx : Slc w A (recsV rs)) (hc : rs.length ≤ c) (hbig : rs.length ≤ maxLen) :
    Calls Try.prog 10 #[.slice A rs.length c, .string torn] w fun e w' => e = .returned (.bool true) ∧ Below w.heap.size w w' := by
  have K1 := Lib.hid (fun W => jawake_walk W)
  have HX := Lib.hid hx
  clear hx
  by_cases hn : rs.length ≤ 40
  case neg =>
    have hng : decide ((40 : Int) < (rs.length : Int)) = true := by simp; omega
    go_enter Try.func10, Try.ntmps10
    go_wp2_with fail
    refine (K1.out _).mono ?_
    rintro e w3 ⟨rfl, hb⟩
    go_wp2_with fail
    go_ret
    exact ⟨rfl, hb⟩
  have hng : decide ((40 : Int) < (rs.length : Int)) = false := by simp; omega
  by_cases ht : torn.size ≤ 100
  case neg =>
    have htg : decide ((100 : Int) < (torn.size : Int)) = true := by simp; omega
    go_enter Try.func10, Try.ntmps10
    go_wp2_with fail
    refine (K1.out _).mono ?_
    rintro e w3 ⟨rfl, hb⟩
    go_wp2_with fail
    go_ret
    exact ⟨rfl, hb⟩
  have htg : decide ((100 : Int) < (torn.size : Int)) = false := by simp; omega
  go_enter Try.func10, Try.ntmps10
  go_wp2_with fail
  go_loop [5] (fun i => ∃ k : Nat, k ≤ torn.size ∧ i = .int .i64 k ∧ 10 ∉ (L torn).take k) (fun i => torn.size - (intOf i).toNat)
  case atStart => exact ⟨0, Nat.zero_le _, rfl, by simp⟩
  case round =>
    obtain ⟨k, hk, rfl, hno⟩ := hrel
    by_cases hlt : k < torn.size
    · by_cases h10 : torn[k] = 10
      · have hb10 : ((torn[k].toNat : Int) == 10) = true := by rw [beq_byte _ 10 10 rfl]; simpa using h10
        clear hno h10
        go_wp2_with fail
        refine (K1.out _).mono ?_
        rintro e w3 ⟨rfl, hb⟩
        go_wp2_with fail
        go_ret
        exact ⟨rfl, hb⟩
      · have hb10 : ((torn[k].toNat : Int) == 10) = false := by rw [beq_byte _ 10 10 rfl]; simpa using h10
        have HN : Hid (10 ∉ (L torn).take (k + 1)) := by
          show 10 ∉ (L torn).take (k + 1)
          rw [take_next torn k hlt, List.mem_append, List.mem_singleton]
          rintro (h | h)
          · exact hno h
          · exact h10 h.symm
        clear hno h10
        go_wp2_with fail
        go_round
        case rel => exact ⟨k + 1, by omega, by go_num, HN.out⟩
        case measure => simp [intOf]; omega
    · have hks : k = torn.size := by omega
      rw [hks, take_whole] at hno
      have HT := Lib.hid hno
      clear hno
      go_wp2_with fail
      go_loopw [6, 7, 8, 9] (fun s t v i wr => ∃ k : Nat, k ≤ rs.length ∧ i = .int .i64 k ∧ s = .string (B (textB (rs.take k))) ∧ t = .string (B (textB (rs.take k))) ∧
          (∃ A c, v = .slice A (rightR (rs.take k)).length c ∧ wr.ownsRow w.heap.size 54 2 (.slice A (rightR (rs.take k)).length c) (rightR (rs.take k)).length (recsV (rightR (rs.take k)))) ∧ Below w.heap.size w wr)
        (fun _ _ _ i _ => rs.length - (intOf i).toNat)
      case atStart => exact ⟨0, Nat.zero_le _, rfl, rfl, rfl, ⟨none, 0, rfl, World.ownsRow_nil _ _ _ _⟩, Below.refl _ _⟩
      case round =>
        obtain ⟨k, hk, rfl, rfl, rfl, ⟨A1, c1, rfl, hown⟩, hbr⟩ := hrel
        have hrs := hbr.size
        by_cases hlt : k < rs.length
        · obtain ⟨b, o, rfl, hlb, hc0, hc1⟩ := (HX.out.keep hbr).rec hlt
          have hT := take_one_more rs k _ (List.getElem?_eq_getElem hlt)
          have HS := Lib.hid (textB_snoc (rs.take k) rs[k])
          have HY := Lib.hid (rightR_yes (rs.take k) rs[k])
          have HNO := Lib.hid (rightR_no (rs.take k) rs[k])
          rw [← hT] at HS HY HNO
          have htl := textB_len (rs.take k)
          have hrl := rightR_len (rs.take k)
          rw [List.length_take] at htl hrl
          have hbo : b < w.heap.size := by
            rcases HX.out with h | ⟨b', o', e, h1, _⟩
            · have := congrArg List.length h
              rw [recsV_len] at this; simp only [List.length_nil] at this; omega
            · cases e; exact h1
          clear hT
          generalize rs[k] = xy at *
          obtain ⟨x, y⟩ := xy
          simp only at hc0 hc1 HS HY HNO
          have L1 := Lib.hid (fun W => line_walk x y W)
          have L2 := Lib.hid (fun W => rline_walk x y W)
          have hll := lineB_len x y
          have hnil := B_nil_beq (lineB x y)
          have hBs : (B (textB (rs.take k))).size ≤ 680 := by rw [B_size]; omega
          have hBl : (B (lineB x y)).size ≤ 17 := by rw [B_size]; omega
          have hself : ((B (lineB x y)).toList == (B (lineB x y)).toList) = true := by simp
          have hrk : (rightR (rs.take k)).length ≤ k := by omega
          have HAPP : Hid (B (textB (rs.take k)) ++ B (lineB x y) = B (textB (rs.take (k + 1)))) := by show _ ++ _ = _; rw [HS.out, B_app]
          generalize textB (rs.take k) = tx at *
          have hi0 : (0 : Int) ≤ (k : Int) := Int.natCast_nonneg _
          have hi1 : (k : Int) < (rs.length : Int) := by omega
          clear htl hrl
          generalize lineB x y = ln at *
          go_wp2_with fail
          go_region_held3 (fun w' => w'.cell? ⟨b, o + k * 2, none⟩ = some (.int .i64 x) ∧ w'.cell? ⟨b, o + k * 2 + 1, none⟩ = some (.int .i64 y))
            (first
              | go_keep
              | (go_split_ands
                 exact ⟨keepc hb1 (by assumption), keepc hb1 (by assumption)⟩))
            ((go_at_call 50; refine (L1.out _).mono ?_; rintro e w3 ⟨rfl, hb1⟩))
          rename_i hHeld
          obtain ⟨d0, d1⟩ := hHeld
          have hown3 := own_keep hown.drew hb1
          have HB : Hid (Below w.heap.size w w3) := (below_draw hbr).trans (hb1.mono hrs)
          clear hc0 hc1 hown hb1 hbr hrs hlb
          have hlb := World.block_lt_of_cell? w3 _ d0
          go_wp2_with fail
          refine (L2.out _).mono ?_
          rintro e w4 ⟨rfl, hb1⟩
          have e0 := keepc hb1 d0
          have e1 := keepc hb1 d1
          have hown4 := own_keep hown3 hb1
          have HB4 : Hid (Below w.heap.size w w4) := HB.out.trans (hb1.mono HB.out.size)
          clear hb1 HB d0 d1 hown3 hlb
          have hlb := World.block_lt_of_cell? w4 _ e0
          go_wp2_with fail
          refine (L2.out _).mono ?_
          rintro e w5 ⟨rfl, hb1⟩
          have d0 := keepc hb1 e0
          have d1 := keepc hb1 e1
          have hown5 := own_keep hown4 hb1
          have HB5 : Hid (Below w.heap.size w w5) := HB4.out.trans (hb1.mono HB4.out.size)
          clear hb1 HB4 e0 e1 hown4 hlb
          have hlb := World.block_lt_of_cell? w5 _ d0
          have hrs5 := HB5.out.size
          by_cases hnl : ln = []
          · have HRR := Lib.hid (HNO.out hnl)
            have hnil2 : decide (ln = []) = true := by simpa using hnl
            clear hnl HY HNO
            go_wp2_with fail
            go_roundw
            case rel => exact ⟨k + 1, by omega, by go_num, by rw [HAPP.out], by rw [HAPP.out], ⟨A1, c1, by rw [HRR.out], by rw [HRR.out]; exact hown5⟩, HB5.out⟩
            case measure => simp [intOf]; omega
          · have HRR := Lib.hid (HY.out hnl)
            have hnil2 : decide (ln = []) = false := by simpa using hnl
            clear hnl HY HNO
            go_wp2_with (at_builtin; refine wpList_app1 rfl _ _ 45 rfl elem_rrec rfl (hown5.alloc _) (cs := recV (x, y)) rfl (heap_alloc_new _ _) rfl (by intro u hu; simp [recV] at hu; rcases hu with rfl | rfl <;> rfl) (by omega) (by omega) (by simp only [World.size_alloc]; omega) ?_; intro g' cap' w9 hown9 hgr9 hb9)
            go_roundw
            case rel =>
              refine ⟨k + 1, by omega, by go_num, by rw [HAPP.out], by rw [HAPP.out], ⟨some ⟨g', 0, none⟩, cap', by rw [HRR.out]; simp, ?_⟩, (HB5.out.alloc hrs5 _).trans hb9⟩
              rw [HRR.out, recsV_app, List.length_append]; simpa [recsV] using hown9
            case measure => simp [intOf]; omega
        · have hk' : k = rs.length := by omega
          subst hk'
          simp only [List.take_length] at hown ⊢
          obtain ⟨A2, c2, he, hcap, hs⟩ := own_form hown
          cases he
          clear hown hlt
          have hrl := rightR_len rs
          have htl := textB_len rs
          have hsz : (B (textB rs) ++ torn).size ≤ 100000 := by rw [← L_len, L_app, L_B, List.length_append, L_len]; omega
          have hz2 : (B (textB rs)).size ≤ 680 := by rw [B_size]; omega
          have R1 := fun W => read_walk (B (textB rs) ++ torn) hsz W
          rw [L_app, L_B, read_text rs (L torn) HT.out] at R1
          have HR1 := Lib.hid R1
          clear R1 hsz htl
          have hself : ((B (textB rs)).toList == (B (textB rs)).toList) = true := by simp
          generalize rightR rs = rr at *
          generalize B (textB rs) = tx at *
          have F1 := Lib.hid (fun A c W (h : Slc W A (recsV rr)) => from_walk A c rr W h (by omega))
          have S1 := Lib.hid (fun A C c d W (h1 : Slc W A (recsV rr)) (h2 : Slc W C (recsV rr)) => rsame_walk A C c d rr rr W h1 h2 (by omega) (by omega))
          rw [eqR_refl] at S1
          go_wp2_with fail
          refine (K1.out _).mono ?_
          rintro e w1 ⟨rfl, hb1⟩
          have hs := hs.keep hb1
          replace hbr := hbr.trans (hb1.mono hbr.size); clear hb1
          go_wp2_with fail
          refine (HR1.out _).mono ?_
          rintro e w2 ⟨A3, c3, rfl, hc3, hs3, hb1⟩
          have hs := hs.keep hb1
          replace hbr := hbr.trans (hb1.mono hbr.size); clear hb1
          go_wp2_with fail
          refine (F1.out _ _ _ hs3).mono ?_
          rintro e w4 ⟨A4, c4, rfl, hc4, hs4, hb1⟩
          have hs := hs.keep hb1
          replace hbr := hbr.trans (hb1.mono hbr.size); clear hb1 hs3
          go_wp2_with fail
          refine (S1.out _ _ _ _ _ hs4 hs).mono ?_
          rintro e w5 ⟨rfl, hb1⟩
          replace hbr := hbr.trans (hb1.mono hbr.size); clear hb1
          go_wp2_with fail
          go_ret
          exact ⟨rfl, hbr⟩
end Go.Proofs.Ytcapaiiegfedmaa
