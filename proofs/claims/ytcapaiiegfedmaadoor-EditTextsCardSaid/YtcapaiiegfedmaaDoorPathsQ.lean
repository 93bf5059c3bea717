/- paths: rest, Under, Within, Reserved, Rebase. -/
import Derived.Test.YtcapaiiegfedmaaDoorPathsP
namespace Go.Proofs.YtcapaiiegfedmaaDoor
open Go.RowKit Go.Shelf
theorem below_draw {B n : Nat} {w w1 : World} (h : Below B w w1) : Below B w (w1.drewN n) := h.trans ⟨rfl, rfl, rfl, Nat.le_refl _, fun _ _ => rfl⟩
theorem empty_iff (s : ByteArray) : s.toList.isEmpty = (L s).isEmpty := by rw [L_toList]
theorem size_zero (s : ByteArray) (h : L s = []) : s.size = 0 := by rw [← L_len, h]; rfl
theorem ret_sb {a b : ByteArray} {c d : Bool} (h : a = b) (k : c = d) : Ending.returned (.tuple #[.string a, .bool c]) = .returned (.tuple #[.string b, .bool d]) := by rw [h, k]
theorem rest_walk (p q : ByteArray) (hp : p.size ≤ 100000) (hq : q.size ≤ 100000) (w : World) :
    Calls Tryd.prog 38 #[.string p, .string q] w fun e w' =>
      e = .returned (.tuple #[.string (B (restB (L p) (L q)).1), .bool (restB (L p) (L q)).2]) ∧ Below w.heap.size w w' := by
  have R1 := Lib.hid (fun W => right_walk p hp W)
  have R2 := Lib.hid (fun W => right_walk q hq W)
  have HR : Hid (restB (L p) (L q) = if !rightB (L p) || !rightB (L q) || !(L q).isPrefixOf (L p) then ([], false)
      else if (L q) = [] ∧ (L p) ≠ [] then (47 :: (L p), true)
      else ((L p).drop (L q).length, ((L p).drop (L q).length).isEmpty || ((L p).drop (L q).length).head? == some 47)) := rfl
  go_enter Tryd.func38, Tryd.ntmps38
  go_wp2_with fail
  refine (R1.out _).mono ?_
  rintro e w1 ⟨rfl, hb⟩
  clear R1
  cases hrp : rightB (L p) with
  | false =>
    have HE : Hid (restB (L p) (L q) = ([], false)) := by
      show restB (L p) (L q) = _; rw [HR.out, hrp]; rfl
    go_wp2_with fail
    go_ret2
    rw [HE.out]
    exact ⟨rfl, hb⟩
  | true =>
  go_wp2_with fail
  refine (R2.out _).mono ?_
  rintro e w2 ⟨rfl, hb2⟩
  have hb := hb.trans (hb2.mono hb.size)
  clear R2 hb2
  cases hrq : rightB (L q) with
  | false =>
    have HE : Hid (restB (L p) (L q) = ([], false)) := by
      show restB (L p) (L q) = _; rw [HR.out, hrp, hrq]; rfl
    go_wp2_with fail
    go_ret2
    rw [HE.out]
    exact ⟨rfl, hb⟩
  | true =>
  cases hpre : (L q).isPrefixOf (L p) with
  | false =>
    have HE : Hid (restB (L p) (L q) = ([], false)) := by
      show restB (L p) (L q) = _; rw [HR.out, hrp, hrq, hpre]; rfl
    have hpre' : Lib.hasPrefix p.data.toList q.data.toList = false := hpre
    clear hpre
    go_wp2_with (go_at_call 47; refine (Tryd.strings_HasPrefix _ _ _).mono ?_; rintro e w' ⟨rfl, rfl⟩)
    go_ret2
    rw [HE.out]
    exact ⟨rfl, hb⟩
  | true =>
  have HE : Hid (restB (L p) (L q) = if (L q) = [] ∧ (L p) ≠ [] then (47 :: (L p), true)
      else ((L p).drop (L q).length, ((L p).drop (L q).length).isEmpty || ((L p).drop (L q).length).head? == some 47)) := by
    show restB (L p) (L q) = _; rw [HR.out, hrp, hrq, hpre]; rfl
  have hle : q.size ≤ p.size := by
    have := (List.isPrefixOf_iff_prefix.1 hpre).length_le
    rw [L_len, L_len] at this; exact this
  have hpre' : Lib.hasPrefix p.data.toList q.data.toList = true := hpre
  clear hpre HR
  by_cases hqe : L q = []
  · by_cases hpe : L p = []
    · have HF : Hid (restB (L p) (L q) = ([], true)) := by
        show restB (L p) (L q) = _; rw [HE.out, hqe, hpe]; rfl
      have e1 : q.toList.isEmpty = true := by rw [empty_iff, hqe]; rfl
      have e2 : p.toList.isEmpty = true := by rw [empty_iff, hpe]; rfl
      have z1 := size_zero q hqe
      have z2 := size_zero p hpe
      have HX : Hid (p.extract q.size p.size = B []) := by show p.extract q.size p.size = _; rw [extract_B, hpe]; simp
      have e3 : (p.extract q.size p.size).toList.isEmpty = true := by rw [HX.out, empty_iff, L_B]; rfl
      have Z1 := Lib.hid z1; have Z2 := Lib.hid z2
      clear hqe hpe z1 z2
      go_wp2_with (go_at_call 47; refine (Tryd.strings_HasPrefix _ _ _).mono ?_; rintro e w' ⟨rfl, rfl⟩)
      go_quiet (fail)
      go_wp2_with fail
      go_ret2
      rw [HF.out, HX.out]
      exact ⟨rfl, below_draw hb⟩
    · have HF : Hid (restB (L p) (L q) = (47 :: L p, true)) := by
        show restB (L p) (L q) = _; rw [HE.out, if_pos ⟨hqe, hpe⟩]
      have e1 : q.toList.isEmpty = true := by rw [empty_iff, hqe]; rfl
      have e2 : p.toList.isEmpty = false := by rw [empty_iff]; simpa using hpe
      clear hqe hpe
      go_wp2_with (go_at_call 47; refine (Tryd.strings_HasPrefix _ _ _).mono ?_; rintro e w' ⟨rfl, rfl⟩)
      go_ret2
      rw [HF.out]
      refine ⟨?_, hb⟩
      have : ({ data := #[47] } : ByteArray) ++ p = B (47 :: L p) := by
        conv => lhs; rw [← B_L p]
        exact B_app [47] (L p)
      rw [← this]
      rfl
  · have HF : Hid (restB (L p) (L q) = ((L p).drop (L q).length, ((L p).drop (L q).length).isEmpty || ((L p).drop (L q).length).head? == some 47)) := by
      show restB (L p) (L q) = _; rw [HE.out, if_neg (fun h => hqe h.1)]
    have e1 : q.toList.isEmpty = false := by rw [empty_iff]; simpa using hqe
    have hx : p.extract q.size p.size = B ((L p).drop (L q).length) := by
      rw [extract_B, L_len, List.take_of_length_le (by simp [L_len])]
    have HX := Lib.hid hx
    clear hqe HE
    generalize hr : (L p).drop (L q).length = r at *
    have hrs : (p.extract q.size p.size).size = r.length := by rw [hx, B_size]
    have HRS := Lib.hid hrs; have HRR := Lib.hid hr
    clear hr hrs
    cases r with
    | nil =>
      have e3 : (p.extract q.size p.size).toList.isEmpty = true := by rw [hx, empty_iff, L_B]; rfl
      clear hx
      go_wp2_with (go_at_call 47; refine (Tryd.strings_HasPrefix _ _ _).mono ?_; rintro e w' ⟨rfl, rfl⟩)
      go_quiet (fail)
      go_wp2_with fail
      go_ret2
      rw [HF.out, HX.out]
      exact ⟨rfl, below_draw hb⟩
    | cons c t =>
      have e3 : (p.extract q.size p.size).toList.isEmpty = false := by rw [hx, empty_iff, L_B]; rfl
      have hlt : q.size < p.size := by
        have := HRR.out
        have h2 := congrArg List.length this
        simp [L_len] at h2; omega
      have HRV : Hid (∀ r : ByteArray, r = p.extract q.size p.size → 0 < r.size ∧ ∀ h : 0 < r.size, r[0] = c) := by
        rintro r rfl
        refine ⟨by rw [HRS.out]; simp, fun h => ?_⟩
        have h1 := getL (p.extract q.size p.size) 0 h
        rw [h1]
        have h2 : L (p.extract q.size p.size) = c :: t := by rw [HX.out]; rfl
        simp [h2]
      clear hx
      go_wp2_with (go_at_call 47; refine (Tryd.strings_HasPrefix _ _ _).mono ?_; rintro e w' ⟨rfl, rfl⟩)
      generalize hr : p.extract q.size p.size = r at *
      obtain ⟨h0, hc⟩ := HRV.out r rfl
      have hc := hc h0
      have HC := Lib.hid hc; have HRX := Lib.hid hr
      clear hc hr HRV
      have h0' : (0 : Int) < (r.size : Int) := by omega
      go_quiet (fail)
      go_wp2_with fail
      go_ret2
      rw [HF.out]
      refine ⟨?_, below_draw hb⟩
      exact ret_sb HX.out (by rw [beq_byte c 47 47 rfl]; simp)
theorem under_walk (p q : ByteArray) (hp : p.size ≤ 100000) (hq : q.size ≤ 100000) (w : World) :
    Calls Tryd.prog 25 #[.string p, .string q] w fun e w' => e = .returned (.bool (underB (L p) (L q))) ∧ Below w.heap.size w w' := by
  have HR := Lib.hid (fun W => rest_walk p q hp hq W)
  have HW := Lib.hid (rest_under (L p) (L q))
  generalize hr : restB (L p) (L q) = r at *
  clear hr
  obtain ⟨a, b⟩ := r
  go_enter Tryd.func25, Tryd.ntmps25
  go_wp2_with fail
  refine (HR.out _).mono ?_
  rintro e w1 ⟨rfl, hb⟩
  clear HR
  cases b with
  | false =>
    have HW2 : Hid (underB (L p) (L q) = false) := by show underB (L p) (L q) = false; rw [← HW.out]; rfl
    go_wp2_with fail
    go_ret
    rw [HW2.out]
    exact ⟨rfl, hb⟩
  | true =>
    have HW2 : Hid (underB (L p) (L q) = (a != [])) := by show underB (L p) (L q) = _; rw [← HW.out]; simp
    cases a with
    | nil =>
      have he : (B []).toList.isEmpty = true := by rw [empty_iff, L_B]; rfl
      go_wp2_with fail
      go_ret
      rw [HW2.out]
      exact ⟨rfl, hb⟩
    | cons c t =>
      have he : (B (c :: t)).toList.isEmpty = false := by rw [empty_iff, L_B]; rfl
      have HX : Hid (((c :: t) != ([] : Bs)) = true) := rfl
      generalize (c :: t) = a at *
      go_wp2_with fail
      go_ret
      rw [HW2.out, HX.out]
      exact ⟨rfl, hb⟩
end Go.Proofs.YtcapaiiegfedmaaDoor
