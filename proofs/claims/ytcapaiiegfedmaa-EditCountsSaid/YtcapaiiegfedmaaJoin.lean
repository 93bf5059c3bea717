/- paths.Join. -/
import Derived.Test.YtcapaiiegfedmaaDepth
namespace Go.Proofs.Ytcapaiiegfedmaa
open Go.RowKit Go.Shelf
theorem join_glue (xs : List Bs) : Lib.join xs [47] = glue xs := by
  induction xs with
  | nil => rfl
  | cons a l ih =>
    cases l with
    | nil => exact Lib.join_one a [47]
    | cons b t =>
      rw [Lib.join_cons]
      rw [Lib.join_cons] at ih
      show a ++ Lib.joinTail [47] (b :: t) = a ++ 47 :: glue (b :: t)
      rw [← ih]
      simp [Lib.joinTail]
theorem glue_bound (m : Nat) (xs : List Bs) (h : ∀ x ∈ xs, x.length ≤ m) : (glue xs).length ≤ xs.length * (m + 1) := by
  induction xs with
  | nil => simp [glue]
  | cons a l ih =>
    have ha := h a (by simp)
    have hl := ih (fun x hx => h x (by simp [hx]))
    by_cases hn : l = []
    · subst hn; simp [glue]; omega
    · rw [glue_cons a l hn, List.length_append, List.length_cons, List.length_cons, Nat.add_mul]; omega
theorem sjoin_walk (A : Option Addr) (c : Nat) (xs : List Bs) (w : World) (hx : Slc w A (xs.map strV)) (hn : xs.length ≤ 100000) (hc : xs.length ≤ c) (hg : (glue xs).length ≤ 100000) :
    Calls Try.prog 106 #[.slice A xs.length c, .string ⟨#[47]⟩] w fun e w' => e = .returned (.string (B (glue xs))) ∧ Below w.heap.size w w' := by
  rcases hx with h | ⟨b, o, rfl, hlt, hcell⟩
  · obtain rfl : xs = [] := by simpa using h
    exact (Try.strings_Join_none A c _ w).mono (by rintro e w' ⟨rfl, rfl⟩; exact ⟨rfl, Below.refl _ _⟩)
  · have hm : (xs.map B).map (·.data.toList) = xs := by rw [List.map_map]; exact List.map_id'' (fun x => rfl) xs
    have hsep : (⟨#[47]⟩ : ByteArray).data.toList = [47] := rfl
    have h := Try.strings_Join b o c (xs.map B) ⟨#[47]⟩ w (fun j x hj => hcell j _ (by
        rw [List.getElem?_map] at hj ⊢
        cases hx : xs[j]? with
        | none => rw [hx] at hj; cases hj
        | some y => rw [hx] at hj; cases hj; rfl)) hlt (by rw [List.length_map]; omega) (by rw [List.length_map]; exact hc) (by rw [hm, hsep, join_glue]; omega)
    rw [List.length_map, hm, hsep, join_glue] at h
    exact h
def joinR (xs : List Bs) : Value := if xs.all nameB then (if xs.length ≤ 16 then .tuple #[.string (B (glue xs)), .int .i64 0] else .tuple #[.string ⟨#[]⟩, .int .i64 5]) else .tuple #[.string ⟨#[]⟩, .int .i64 2]
theorem join_bad (xs : List Bs) (k : Nat) (x : Bs) (hx : xs[k]? = some x) (h : nameB x = false) : xs.all nameB = false := by
  rw [Bool.eq_false_iff, ne_eq, List.all_eq_true]
  intro H
  rw [H x (List.mem_of_getElem? hx)] at h; cases h
theorem pjoin_walk (A : Option Addr) (c : Nat) (xs : List Bs) (w : World) (hx : Slc w A (xs.map strV)) (hn : xs.length ≤ 100000) (hc : xs.length ≤ c) (hm : ∀ x ∈ xs, x.length ≤ 100000) (hg : (glue xs).length ≤ 100000) :
    Calls Try.prog 65 #[.slice A xs.length c] w fun e w' => e = .returned (joinR xs) ∧ Below w.heap.size w w' := by
  have J1 := Lib.hid (sjoin_walk A c xs w hx hn hc hg)
  go_enter Try.func65, Try.ntmps65
  go_wp2_with fail
  go_loop [8] (fun i => ∃ k : Nat, k ≤ xs.length ∧ i = .int .i64 k ∧ (xs.take k).all nameB = true) (fun i => xs.length - (intOf i).toNat)
  case atStart => exact ⟨0, Nat.zero_le _, rfl, rfl⟩
  case round =>
    obtain ⟨k, hk, rfl, hall⟩ := hrel
    by_cases hlt : k < xs.length
    · obtain ⟨x, hxk⟩ : ∃ x, xs[k]? = some x := ⟨_, List.getElem?_eq_getElem hlt⟩
      obtain ⟨b, o, rfl, hlb, hcell⟩ := hx.str hxk
      have hxl := hm x (List.mem_of_getElem? hxk)
      cases hnm : nameB x with
      | true =>
        have HT := Lib.hid (take_all_next xs k x hxk nameB hall hnm)
        have N1 := Lib.hid (name_walk (B x) (by rw [B_size]; exact hxl) w)
        rw [L_B, hnm] at N1
        clear hxk hall
        go_wp2_with fail
        refine N1.out.mono ?_
        rintro e w1 ⟨rfl, rfl⟩
        go_wp2_with fail
        go_round
        case rel => exact ⟨k + 1, by omega, by go_num, HT.out⟩
        case measure => simp [intOf]; omega
      | false =>
        have N1 := Lib.hid (name_walk (B x) (by rw [B_size]; exact hxl) w)
        rw [L_B, hnm] at N1
        have HR : Hid (joinR xs = .tuple #[.string ⟨#[]⟩, .int .i64 2]) := by show joinR xs = _; unfold joinR; rw [join_bad xs k x hxk hnm]; rfl
        clear hxk hall
        go_wp2_with fail
        refine N1.out.mono ?_
        rintro e w1 ⟨rfl, rfl⟩
        go_wp2_with fail
        go_ret2
        rw [HR.out]
        exact ⟨rfl, Below.refl _ _⟩
    · have hk' : k = xs.length := by omega
      subst hk'
      rw [List.take_length] at hall
      by_cases h16 : (xs.length : Int) ≤ 16
      · have HR : Hid (joinR xs = .tuple #[.string (B (glue xs)), .int .i64 0]) := by show joinR xs = _; unfold joinR; rw [hall, if_pos rfl, if_pos (by omega)]
        clear hall
        go_wp2_with fail
        refine J1.out.mono ?_
        rintro e w1 ⟨rfl, hb⟩
        go_wp2_with fail
        go_ret2
        rw [HR.out]
        exact ⟨rfl, hb⟩
      · have HR : Hid (joinR xs = .tuple #[.string ⟨#[]⟩, .int .i64 5]) := by show joinR xs = _; unfold joinR; rw [hall, if_pos rfl, if_neg (by omega)]
        clear hall
        have h16' : decide ((16 : Int) < (xs.length : Int)) = true := by simp; omega
        go_wp2_with fail
        go_ret2
        rw [HR.out]
        exact ⟨rfl, Below.refl _ _⟩
end Go.Proofs.Ytcapaiiegfedmaa
