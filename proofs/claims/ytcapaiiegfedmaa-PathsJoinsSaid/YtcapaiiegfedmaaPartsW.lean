/- The walk of flittinglaw01.PathsParts. -/
import Derived.Test.YtcapaiiegfedmaaDepth
namespace Go.Proofs.Ytcapaiiegfedmaa
open Go.RowKit Go.Shelf
theorem names_16 (p : Bs) : (names p).length ≤ 16 := by
  unfold names
  split
  · next h => unfold rightB at h; simp only [Bool.and_eq_true, decide_eq_true_eq] at h; exact h.2
  · simp
theorem ups_len (p : Bs) : (upsL p).length = (names p).length := by rw [upsL_eq]; simp
theorem ups_at (p : Bs) (k : Nat) (h : k < (names p).length) : (upsL p)[k]? = some (glue ((names p).take k)) := by
  rw [upsL_eq, List.getElem?_map, List.getElem?_range h]; rfl
theorem same_self (xs : List Bs) : sameB xs xs = true := by unfold sameB; simp
theorem same_call (A C : Option Addr) (c d n m : Nat) (xs ys : List Bs) (w : World) (h : xs = ys) (h1 : xs.length = n) (h2 : ys.length = m) (hx : Slc w A (xs.map strV)) (hy : Slc w C (ys.map strV)) (hn : n ≤ 100001) :
    Calls Try.prog 37 #[.slice A n c, .slice C m d] w fun e w' => e = .returned (.bool true) ∧ Below w.heap.size w w' := by
  subst h; subst h1; subst h2
  have := same_walk A C c d xs xs w hx hy hn hn
  rw [same_self] at this
  exact this
set_option maxRecDepth 100000 in
set_option maxHeartbeats 4000000 in
theorem pathsParts_walk (p : ByteArray) (s : Nat) (hs : s ≤ 255) (w : World) :
    Calls Try.prog 8 #[.string p, .int .u8 (s : Int)] w fun e w' => e = .returned (.bool true) ∧ Below w.heap.size w w' := by
  have K1 := Lib.hid (fun W => awake_walk W)
  by_cases hp : p.size ≤ 400
  · have c1 := fun W => rnames_walk p (by omega) W
    have c2 := fun W => lnames_walk p (by omega) 99 (by omega) W
    have c3 := fun W => lnames_walk p (by omega) s (by omega) W
    have c4 := fun W => lups_walk p (by omega) 99 (by omega) W
    have c5 := fun W => lups_walk p (by omega) s (by omega) W
    have c6 := fun W => parent_walk p (by omega) W
    have c7 := fun W => rparent_walk p (by omega) W
    have hn16 := names_16 (L p)
    have hul := ups_len (L p)
    have hua := ups_at (L p)
    have hgl : ∀ k, (glue ((names (L p)).take k)).length ≤ 400 := fun k => by
      have h1 := glue_take_len (names (L p)) k
      have h2 := glue_names_len (L p)
      rw [L_len] at h2; omega
    rw [List.take_of_length_le (show (names (L p)).length ≤ 99 by omega)] at c2
    rw [List.take_of_length_le (show (upsL (L p)).length ≤ 99 by omega)] at c4
    have d1 := fun W => name_walk p (by omega) W
    have d2 := fun W => rname_walk p (by omega) W
    have d3 := fun W => right_walk p (by omega) W
    have d4 := fun W => rright_walk p (by omega) W
    have d5 := fun W => depth_walk p (by omega) W
    have d6 := fun W => base_walk p (by omega) W
    have d7 := fun W => rbase_walk p (by omega) W
    have d8 := fun W => reserved_walk p (by omega) W
    have d9 := fun W => rwithin_walk p ⟨#[46, 102, 108, 105, 116]⟩ (by omega) (by decide) W
    rw [show L ⟨#[46, 102, 108, 105, 116]⟩ = [46, 102, 108, 105, 116] from rfl] at d9
    generalize withinB (L p) [46, 102, 108, 105, 116] = wi at *
    have C1 := Lib.hid c1; have C2 := Lib.hid c2; have C3 := Lib.hid c3; have C4 := Lib.hid c4; have C5 := Lib.hid c5; have C6 := Lib.hid c6; have C7 := Lib.hid c7
    have D1 := Lib.hid d1; have D2 := Lib.hid d2; have D3 := Lib.hid d3; have D4 := Lib.hid d4; have D5 := Lib.hid d5; have D6 := Lib.hid d6; have D7 := Lib.hid d7; have D8 := Lib.hid d8; have D9 := Lib.hid d9
    clear c1 c2 c3 c4 c5 c6 c7 d1 d2 d3 d4 d5 d6 d7 d8 d9
    have HUA := Lib.hid hua; have HGL := Lib.hid hgl
    clear hua hgl
    have hng : decide ((400:Int) < (p.size : Int)) = false := by simp; omega
    have hb := Below.refl w.heap.size w
    go_enter Try.func8, Try.ntmps8
    go_wp2_with fail
    refine (C1.out _).mono ?_
    rintro e w1 ⟨A1, a1, rfl, hcap1, hs1, hb1⟩
    replace hb := hb.trans (hb1.mono hb.size); clear hb1 C1
    go_wp2_with fail
    refine (C2.out _).mono ?_
    rintro e w2 ⟨A2, a2, rfl, hcap2, hs2, hb1⟩
    have hs1 := hs1.keep hb1
    replace hb := hb.trans (hb1.mono hb.size); clear hb1 C2
    go_wp2_with fail
    refine (C3.out _).mono ?_
    rintro e w3 ⟨A3, a3, rfl, hcap3, hs3, hb1⟩
    have hs1 := hs1.keep hb1; have hs2 := hs2.keep hb1
    replace hb := hb.trans (hb1.mono hb.size); clear hb1 C3
    go_wp2_with fail
    refine (C4.out _).mono ?_
    rintro e w4 ⟨A4, a4, rfl, hcap4, hs4, hb1⟩
    have hs1 := hs1.keep hb1; have hs2 := hs2.keep hb1; have hs3 := hs3.keep hb1
    replace hb := hb.trans (hb1.mono hb.size); clear hb1 C4
    go_wp2_with fail
    refine (C5.out _).mono ?_
    rintro e w5 ⟨A5, a5, rfl, hcap5, hs5, hb1⟩
    have hs1 := hs1.keep hb1; have hs2 := hs2.keep hb1; have hs3 := hs3.keep hb1; have hs4 := hs4.keep hb1
    replace hb := hb.trans (hb1.mono hb.size); clear hb1 C5
    go_wp2_with fail
    refine (C6.out _).mono ?_
    rintro e w6 ⟨rfl, hb1⟩
    have hs1 := hs1.keep hb1; have hs2 := hs2.keep hb1; have hs3 := hs3.keep hb1; have hs4 := hs4.keep hb1; have hs5 := hs5.keep hb1
    replace hb := hb.trans (hb1.mono hb.size); clear hb1 C6
    go_wp2_with fail
    refine (C7.out _).mono ?_
    rintro e w7 ⟨rfl, hb1⟩
    have hs1 := hs1.keep hb1; have hs2 := hs2.keep hb1; have hs3 := hs3.keep hb1; have hs4 := hs4.keep hb1; have hs5 := hs5.keep hb1
    replace hb := hb.trans (hb1.mono hb.size); clear hb1 C7
    go_wp2_with fail
    have hcap5 : min s (upsL (L p)).length ≤ a5 := by rw [← List.length_take]; exact hcap5
    have hcap3 : min s (names (L p)).length ≤ a3 := by rw [← List.length_take]; exact hcap3
    rw [hul] at hcap4 hcap5
    have HUL := Lib.hid hul
    clear hul
    generalize names (L p) = xs at *
    generalize upsL (L p) = us at *
    obtain ⟨hcap1, hcz⟩ := hcap1
    have hws := hb.size
    go_loopw [18, 19] (fun v i wr => ∃ k : Nat, k ≤ xs.length ∧ i = .int .i64 k ∧ (∃ A c, v = .slice A k c ∧ wr.ownsRow w7.heap.size 9 1 (.slice A k c) k ((us.take k).map strV)) ∧ Below w7.heap.size w7 wr)
      (fun _ i _ => xs.length - (intOf i).toNat)
    case atStart => exact ⟨0, Nat.zero_le _, rfl, ⟨none, 0, rfl, World.ownsRow_nil _ _ _ _⟩, Below.refl _ _⟩
    case round =>
      obtain ⟨k, hk, rfl, ⟨A, c, rfl, hown⟩, hbr⟩ := hrel
      by_cases hlt : k < xs.length
      · have hux := HUA.out k hlt
        have hG := glue_walk A1 a1 (xs.take k) wr (by rw [List.map_take]; exact (hs1.keep hbr).front k) (by rw [List.length_take]; omega) (by have := HGL.out k; omega)
        rw [List.length_take, Nat.min_eq_left hk] at hG
        have HG := Lib.hid hG
        have HT := Lib.hid (take_one_more us k _ hux)
        obtain ⟨b, o, rfl, hlb, hcell⟩ := hs1.str (List.getElem?_eq_getElem hlt)
        clear hG hux
        generalize glue (xs.take k) = g at *
        have hrs := hbr.size
        go_wp2_with (first | (go_at_call 36; refine HG.out.mono ?_; rintro e w8 ⟨rfl, rfl⟩) | (at_builtin; refine wpList_app1 rfl _ _ 34 rfl elem_str rfl (hown.alloc _) (cs := [strV g]) rfl (heap_alloc_new _ _) rfl (str_one [g]) (by omega) (by omega) (by simp only [World.size_alloc]; omega) ?_; intro g' cap' w9 hown1 hgr1 hb9))
        go_roundw
        case rel =>
          refine ⟨k + 1, by omega, by go_num, ⟨_, cap', rfl, ?_⟩, (hbr.alloc hrs _).trans hb9⟩
          rw [HT.out, List.map_append]
          exact hown1
        case measure => simp [intOf]; omega
      · have hk' : k = xs.length := by omega
        subst hk'
        obtain ⟨A', c', he, hcc, hs6⟩ := own_form hown
        cases he
        have hul := HUL.out
        rw [← hul, List.take_length] at hs6
        have hs1 := hs1.keep hbr; have hs2 := hs2.keep hbr; have hs3 := hs3.keep hbr; have hs4 := hs4.keep hbr; have hs5 := hs5.keep hbr
        replace hb := hb.trans (hbr.mono hws)
        clear hown hbr hlt
        go_wp2_with fail
        refine (same_call A2 A1 a2 a1 _ _ xs xs wr rfl rfl rfl hs2 hs1 (by omega)).mono ?_
        rintro e w8 ⟨rfl, hb8⟩
        have hs1 := hs1.keep hb8; have hs3 := hs3.keep hb8; have hs4 := hs4.keep hb8; have hs5 := hs5.keep hb8; have hs6 := hs6.keep hb8
        replace hb := hb.trans (hb8.mono hb.size); clear hb8
        go_wp2_with fail
        refine (same_call A3 A1 a3 a1 _ _ (xs.take s) (xs.take s) w8 rfl List.length_take (by rw [List.length_take]; omega) hs3 (by rw [List.map_take]; exact hs1.front s) (by omega)).mono ?_
        rintro e w9 ⟨rfl, hb8⟩
        have hs4 := hs4.keep hb8; have hs5 := hs5.keep hb8; have hs6 := hs6.keep hb8
        replace hb := hb.trans (hb8.mono hb.size); clear hb8
        go_wp2_with fail
        refine (same_call A4 A a4 c _ _ us us w9 rfl hul hul hs4 hs6 (by omega)).mono ?_
        rintro e w10 ⟨rfl, hb8⟩
        have hs5 := hs5.keep hb8; have hs6 := hs6.keep hb8
        replace hb := hb.trans (hb8.mono hb.size); clear hb8
        go_wp2_with fail
        refine (same_call A5 A a5 c _ _ (us.take s) (us.take s) w10 rfl (by rw [List.length_take, hul]) (by rw [List.length_take]; omega) hs5 (by rw [List.map_take]; exact hs6.front s) (by omega)).mono ?_
        rintro e w11 ⟨rfl, hb8⟩
        replace hb := hb.trans (hb8.mono hb.size); clear hb8 hs1 hs2 hs3 hs4 hs5 hs6 hul HUL hcap3 hcap4 hcap5
        go_wp2_with fail
        refine (K1.out _).mono ?_
        rintro e w12 ⟨rfl, hb8⟩
        replace hb := hb.trans (hb8.mono hb.size); clear hb8
        go_wp2_with fail
        refine (D1.out _).mono ?_
        rintro e w12 ⟨rfl, rfl⟩
        go_wp2_with fail
        refine (D2.out _).mono ?_
        rintro e w12 ⟨rfl, rfl⟩
        go_wp2_with fail
        refine (D3.out _).mono ?_
        rintro e w12 ⟨rfl, hb8⟩
        replace hb := hb.trans (hb8.mono hb.size); clear hb8
        go_wp2_with fail
        refine (D4.out _).mono ?_
        rintro e w12 ⟨rfl, hb8⟩
        replace hb := hb.trans (hb8.mono hb.size); clear hb8
        go_wp2_with fail
        refine (D5.out _).mono ?_
        rintro e w12 ⟨rfl, hb8⟩
        replace hb := hb.trans (hb8.mono hb.size); clear hb8
        go_wp2_with fail
        refine (D6.out _).mono ?_
        rintro e w12 ⟨rfl, hb8⟩
        replace hb := hb.trans (hb8.mono hb.size); clear hb8
        go_wp2_with fail
        refine (D7.out _).mono ?_
        rintro e w12 ⟨rfl, hb8⟩
        replace hb := hb.trans (hb8.mono hb.size); clear hb8
        go_wp2_with fail
        refine (D8.out _).mono ?_
        rintro e w12 ⟨rfl, hb8⟩
        replace hb := hb.trans (hb8.mono hb.size); clear hb8
        go_wp2_with fail
        refine (D9.out _).mono ?_
        rintro e w12 ⟨rfl, hb8⟩
        replace hb := hb.trans (hb8.mono hb.size); clear hb8
        go_wp2_with fail
        go_ret
        exact ⟨rfl, hb⟩
  · have hng : decide ((400:Int) < (p.size : Int)) = true := by simp; omega
    go_enter Try.func8, Try.ntmps8
    go_wp2_with fail
    refine (K1.out _).mono ?_
    rintro e w3 ⟨rfl, hb⟩
    go_wp2_with fail
    go_ret
    exact ⟨rfl, hb⟩
end Go.Proofs.Ytcapaiiegfedmaa
