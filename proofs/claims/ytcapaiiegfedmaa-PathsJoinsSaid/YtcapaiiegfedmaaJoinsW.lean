/- The walk of flittinglaw01.PathsJoins. -/
import Derived.Test.YtcapaiiegfedmaaJoin
import Derived.Test.YtcapaiiegfedmaaPartsW
namespace Go.Proofs.Ytcapaiiegfedmaa
open Go.RowKit Go.Shelf
theorem not_all (xs : List Bs) (k : Nat) (x : Bs) (hx : xs[k]? = some x) : (xs.take (k + 1)).all nameB = ((xs.take k).all nameB && nameB x) := by
  rw [take_one_more xs k x hx, List.all_append]; simp
theorem names_glue (xs : List Bs) (h : xs.all nameB = true) (hl : xs.length ≤ 16) : names (glue xs) = xs := by
  unfold names
  rw [right_glue xs h, cut_glue xs h]; simp [hl]
set_option maxRecDepth 100000 in
set_option maxHeartbeats 4000000 in
theorem pathsJoins_walk (A : Option Addr) (c : Nat) (xs : List Bs) (w : World) (hx : Slc w A (xs.map strV)) (hc : xs.length ≤ c) (hcm : c ≤ maxLen) (hsz : ∀ x ∈ xs, x.length ≤ maxLen) :
    Calls Try.prog 13 #[.slice A xs.length c] w fun e w' => e = .returned (.bool true) ∧ Below w.heap.size w w' := by
  have K1 := Lib.hid (fun W => awake_walk W)
  by_cases hn : xs.length ≤ 30
  · have hng : decide ((30:Int) < (xs.length : Int)) = false := by simp; omega
    go_enter Try.func13, Try.ntmps13
    go_wp2_with fail
    go_loop [3, 4] (fun v i => ∃ k : Nat, k ≤ xs.length ∧ i = .int .i64 k ∧ v = .bool (!(xs.take k).all nameB) ∧ (∀ x ∈ xs.take k, x.length ≤ 40)) (fun _ i => xs.length - (intOf i).toNat)
    case atStart => exact ⟨0, Nat.zero_le _, rfl, rfl, by simp⟩
    case round =>
      obtain ⟨k, hk, rfl, rfl, hall⟩ := hrel
      by_cases hlt : k < xs.length
      · obtain ⟨x, hxk⟩ : ∃ x, xs[k]? = some x := ⟨_, List.getElem?_eq_getElem hlt⟩
        obtain ⟨b, o, rfl, hlb, hcell⟩ := hx.str hxk
        by_cases h40 : (x.length : Int) ≤ 40
        · have HM : Hid (∀ y ∈ xs.take (k + 1), y.length ≤ 40) := by
            intro y hy
            rw [take_one_more xs k x hxk, List.mem_append] at hy
            rcases hy with hy | hy
            · exact hall y hy
            · rw [List.mem_singleton] at hy; subst hy; omega
          have HT := Lib.hid (not_all xs k x hxk)
          have N1 := Lib.hid (rname_walk (B x) (by rw [B_size]; omega) w)
          rw [L_B] at N1
          have h40' : decide ((40 : Int) < (x.length : Int)) = false := by simp; omega
          clear hxk hall
          generalize nameB x = nx at *
          cases hb : (xs.take k).all nameB with
          | true =>
            rw [hb] at HT
            go_wp2_with fail
            refine N1.out.mono ?_
            rintro e w1 ⟨rfl, rfl⟩
            go_wp2_with fail
            go_round
            case rel => exact ⟨k + 1, by omega, by go_num, by rw [HT.out]; rfl, HM.out⟩
            case measure => simp [intOf]; omega
          | false =>
            rw [hb] at HT
            go_wp2_with fail
            go_round
            case rel => exact ⟨k + 1, by omega, by go_num, by rw [HT.out]; rfl, HM.out⟩
            case measure => simp [intOf]; omega
        · have h40' : decide ((40 : Int) < (x.length : Int)) = true := by simp; omega
          clear hxk hall
          go_wp2_with fail
          refine (K1.out _).mono ?_
          rintro e w1 ⟨rfl, hb⟩
          go_wp2_with fail
          go_ret
          exact ⟨rfl, hb⟩
      · have hk' : k = xs.length := by omega
        subst hk'
        rw [List.take_length] at hall
        have hgb := glue_bound 40 xs hall
        have hg2 : (glue xs).length ≤ 1230 := Nat.le_trans hgb (Nat.le_trans (Nat.mul_le_mul_right _ hn) (by decide))
        have J1 := Lib.hid (pjoin_walk A c xs w hx (by omega) hc (fun x h => by have := hall x h; omega) (by omega))
        have HAT : Hid ((xs.take xs.length).all nameB = xs.all nameB) := by show (xs.take xs.length).all nameB = xs.all nameB; rw [List.take_length]
        rw [HAT.out]
        clear hall hgb
        cases hall : xs.all nameB with
        | false =>
          have HR : joinR xs = .tuple #[.string ⟨#[]⟩, .int .i64 2] := by unfold joinR; rw [hall]; rfl
          rw [HR] at J1
          clear HR hall HAT
          go_wp2_with fail
          refine J1.out.mono ?_
          rintro e w1 ⟨rfl, hb⟩
          go_wp2_with fail
          refine (K1.out _).mono ?_
          rintro e w2 ⟨rfl, hb1⟩
          replace hb := hb.trans (hb1.mono hb.size); clear hb1
          go_wp2_with fail
          go_ret
          exact ⟨rfl, hb⟩
        | true =>
          by_cases h16 : (xs.length : Int) ≤ 16
          · have HR : joinR xs = .tuple #[.string (B (glue xs)), .int .i64 0] := by unfold joinR; rw [hall, if_pos rfl, if_pos (by omega)]
            rw [HR] at J1
            have n1 := fun W => lnames_walk (B (glue xs)) (by rw [B_size]; omega) 99 (by omega) W
            rw [L_B, names_glue xs hall (by omega), List.take_of_length_le (show xs.length ≤ 99 by omega)] at n1
            have G1 := Lib.hid (fun W (h : Slc W A (xs.map strV)) => glue_walk A c xs W h (by omega) (by omega))
            have N1 := Lib.hid n1
            have h16' : decide ((16 : Int) < (xs.length : Int)) = false := by simp; omega
            clear HR n1 hall HAT
            generalize glue xs = g at *
            go_wp2_with fail
            refine J1.out.mono ?_
            rintro e w1 ⟨rfl, hb⟩
            have hx := hx.keep hb
            go_wp2_with fail
            refine (N1.out _).mono ?_
            rintro e w2 ⟨A2, c2, rfl, hc2, hs2, hb1⟩
            have hx := hx.keep hb1
            replace hb := hb.trans (hb1.mono hb.size); clear hb1
            go_wp2_with fail
            refine (K1.out _).mono ?_
            rintro e w3 ⟨rfl, hb1⟩
            have hx := hx.keep hb1; have hs2 := hs2.keep hb1
            replace hb := hb.trans (hb1.mono hb.size); clear hb1
            go_wp2_with fail
            refine (G1.out _ hx).mono ?_
            rintro e w4 ⟨rfl, rfl⟩
            go_wp2_with fail
            refine (same_call A2 A c2 c _ _ xs xs _ rfl rfl rfl hs2 hx (by omega)).mono ?_
            rintro e w5 ⟨rfl, hb1⟩
            replace hb := hb.trans (hb1.mono hb.size); clear hb1
            go_wp2_with fail
            go_ret
            exact ⟨rfl, hb⟩
          · have HR : joinR xs = .tuple #[.string ⟨#[]⟩, .int .i64 5] := by unfold joinR; rw [hall, if_pos rfl, if_neg (by omega)]
            rw [HR] at J1
            have h16' : decide ((16 : Int) < (xs.length : Int)) = true := by simp; omega
            clear HR hall HAT
            go_wp2_with fail
            refine J1.out.mono ?_
            rintro e w1 ⟨rfl, hb⟩
            go_wp2_with fail
            refine (K1.out _).mono ?_
            rintro e w2 ⟨rfl, hb1⟩
            replace hb := hb.trans (hb1.mono hb.size); clear hb1
            go_wp2_with fail
            go_ret
            exact ⟨rfl, hb⟩
  · have hng : decide ((30:Int) < (xs.length : Int)) = true := by simp; omega
    go_enter Try.func13, Try.ntmps13
    go_wp2_with fail
    refine (K1.out _).mono ?_
    rintro e w3 ⟨rfl, hb⟩
    go_wp2_with fail
    go_ret
    exact ⟨rfl, hb⟩
end Go.Proofs.Ytcapaiiegfedmaa
