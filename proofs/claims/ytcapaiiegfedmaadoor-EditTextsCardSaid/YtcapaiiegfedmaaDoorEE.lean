/- edit: the page's example, few, Count; the walk of flittinglaw28.EditCounts. -/
import Derived.Test.YtcapaiiegfedmaaDoorED
import Derived.Test.YtcapaiiegfedmaaDoorOpenR
namespace Go.Proofs.YtcapaiiegfedmaaDoor
open Go.RowKit Go.Shelf
theorem line_example : B (Lib.join (lineL 6 [97] [98]) [32]) = ⟨#[109, 111, 118, 101, 32, 97, 32, 98]⟩ := by rfl
theorem word_example : B (wordE 9) = ⟨#[109, 101, 116, 97]⟩ := by rfl
theorem right_example : rightE 6 [97] [98] 0 = true := by decide +kernel
set_option maxRecDepth 100000 in
theorem eawake_walk (w : World) : Calls Tryd.prog 6 #[] w fun e w' => e = .returned (.bool true) ∧ Below w.heap.size w w' := by
  have L1 := fun W => eline0_walk 6 ⟨#[97]⟩ ⟨#[98]⟩ 0 (by decide) (by decide) rfl right_example W
  rw [show lineL 6 (L ⟨#[97]⟩) (L ⟨#[98]⟩) = lineL 6 [97] [98] from rfl, line_example] at L1
  have W1 := fun W => eword_walk 9 W
  rw [word_example] at W1
  have HL := Lib.hid L1
  have HW := Lib.hid W1
  clear L1 W1
  go_enter Tryd.func6, Tryd.ntmps6
  go_wp2_with fail
  refine (HL.out _).mono ?_
  rintro e w1 ⟨rfl, hb⟩
  go_wp2_with fail
  refine (HW.out _).mono ?_
  rintro e w2 ⟨rfl, hb1⟩
  replace hb := hb.trans (hb1.mono hb.size); clear hb1
  go_wp2_with fail
  go_ret
  exact ⟨rfl, hb⟩
abbrev EditD := Int × Bs × Bs × Int
def eV (e : EditD) : List Value := [.int .i64 e.1, strV e.2.1, strV e.2.2.1, .int .i64 e.2.2.2]
theorem edit_at {w : World} {A : Option Addr} {es : List EditD} (h : Slc w A (es.flatMap eV)) {k : Nat} {e : EditD} (hk : es[k]? = some e) :
    ∃ b o, A = some ⟨b, o, none⟩ ∧ b < w.heap.size ∧ w.cell? ⟨b, o + k * 4, none⟩ = some (.int .i64 e.1) ∧ w.cell? ⟨b, o + k * 4 + 1, none⟩ = some (.string (B e.2.1)) ∧ w.cell? ⟨b, o + k * 4 + 2, none⟩ = some (.string (B e.2.2.1)) ∧ w.cell? ⟨b, o + k * 4 + 3, none⟩ = some (.int .i64 e.2.2.2) := by
  have hf := fun j hj => flat_get eV 4 (fun _ => rfl) es k j hj
  rcases h with h | ⟨b, o, rfl, hlt, hc⟩
  · have := hf 0 (by omega)
    rw [h, hk] at this; simp [eV] at this
  · refine ⟨b, o, rfl, hlt, ?_, ?_, ?_, ?_⟩
    · exact hc (k * 4 + 0) _ (by rw [hf 0 (by omega), hk]; rfl)
    · rw [Nat.add_assoc]; exact hc (k * 4 + 1) _ (by rw [hf 1 (by omega), hk]; rfl)
    · rw [Nat.add_assoc]; exact hc (k * 4 + 2) _ (by rw [hf 2 (by omega), hk]; rfl)
    · rw [Nat.add_assoc]; exact hc (k * 4 + 3) _ (by rw [hf 3 (by omega), hk]; rfl)
def shortE (e : EditD) : Bool := decide (e.2.1.length ≤ 200) && decide (e.2.2.1.length ≤ 200)
def fewB (es : List EditD) : Bool := decide (es.length ≤ 20) && es.all shortE
set_option maxRecDepth 100000 in
set_option maxHeartbeats 2000000 in
theorem few_walk (A : Option Addr) (c : Nat) (es : List EditD) (w : World) (hx : Slc w A (es.flatMap eV)) (hn : es.length ≤ maxLen) :
    Calls Tryd.prog 5 #[.slice A es.length c] w fun e w' => e = .returned (.bool (fewB es)) ∧ w = w' := by
  have HX := Lib.hid hx
  clear hx
  by_cases h20 : es.length ≤ 20
  case neg =>
    have hq : decide ((20 : Int) < (es.length : Int)) = true := by simp; omega
    have HF : Hid (fewB es = false) := by show _ = _; unfold fewB; simp [h20]
    go_enter Tryd.func5, Tryd.ntmps5
    go_wp2_with fail
    go_ret
    rw [HF.out]
    exact ⟨rfl, rfl⟩
  have hq : decide ((20 : Int) < (es.length : Int)) = false := by simp; omega
  have HF : Hid (fewB es = es.all shortE) := by show _ = _; unfold fewB; simp [h20]
  go_enter Tryd.func5, Tryd.ntmps5
  go_wp2_with fail
  go_loop [3] (fun i => ∃ k : Nat, k ≤ es.length ∧ i = .int .i64 k ∧ Hid ((es.take k).all shortE = true)) (fun i => es.length - (intOf i).toNat)
  case atStart => exact ⟨0, Nat.zero_le _, rfl, by rw [List.take_zero]; rfl⟩
  case round =>
    obtain ⟨k, hk, rfl, HP⟩ := hrel
    by_cases hlt : k < es.length
    · obtain ⟨e, hek⟩ : ∃ e, es[k]? = some e := ⟨_, List.getElem?_eq_getElem hlt⟩
      obtain ⟨b, o, rfl, hlb, c0, c1, c2, c3⟩ := edit_at HX.out hek
      have HT := Lib.hid (take_one_more es k e hek)
      have hm := List.mem_of_getElem? hek
      have HE : Hid (shortE e = false → es.all shortE = false) := by
        intro h
        rw [← Bool.not_eq_true, List.all_eq_true]
        intro h2
        rw [h2 e hm] at h; cases h
      have HS : Hid (shortE e = (decide (e.2.1.length ≤ 200) && decide (e.2.2.1.length ≤ 200))) := rfl
      have hi0 : (0 : Int) ≤ (k : Int) := Int.natCast_nonneg _
      have hi1 : (k : Int) < (es.length : Int) := by omega
      have s1 : (B e.2.1).size = e.2.1.length := B_size _
      have s2 : (B e.2.2.1).size = e.2.2.1.length := B_size _
      clear hek hm
      generalize B e.2.1 = f at *
      generalize B e.2.2.1 = t at *
      rw [← s1, ← s2] at HS
      clear s1 s2
      by_cases h1 : f.size ≤ 200
      · have q1 : decide ((200 : Int) < (f.size : Int)) = false := by simp; omega
        by_cases h2 : t.size ≤ 200
        · have q2 : decide ((200 : Int) < (t.size : Int)) = false := by simp; omega
          have HN : Hid ((es.take (k + 1)).all shortE = true) := by
            show _ = _
            rw [HT.out, List.all_append, HP.out]
            simp [HS.out, h1, h2]
          go_wp2_with fail
          go_round
          case rel => exact ⟨k + 1, by omega, by go_num, HN.out⟩
          case measure => simp [intOf]; omega
        · have q2 : decide ((200 : Int) < (t.size : Int)) = true := by simp; omega
          have HR := Lib.hid (HE.out (by rw [HS.out]; simp [h2]))
          go_wp2_with fail
          go_ret
          rw [HF.out, HR.out]
          exact ⟨rfl, rfl⟩
      · have q1 : decide ((200 : Int) < (f.size : Int)) = true := by simp; omega
        have HR := Lib.hid (HE.out (by rw [HS.out]; simp [h1]))
        go_wp2_with fail
        go_ret
        rw [HF.out, HR.out]
        exact ⟨rfl, rfl⟩
    · obtain rfl : k = es.length := by omega
      rw [List.take_length] at HP
      go_wp2_with fail
      go_ret
      rw [HF.out, HP.out]
      exact ⟨rfl, rfl⟩
def kV (k : Int) : Value := .int .i64 k
theorem Slc.kind {w : World} {A : Option Addr} {ks : List Int} (h : Slc w A (ks.map kV)) {i : Nat} {k : Int} (hk : ks[i]? = some k) : ∃ b o, A = some ⟨b, o, none⟩ ∧ b < w.heap.size ∧ w.cell? ⟨b, o + i, none⟩ = some (.int .i64 k) := by
  rcases h with h | ⟨b, o, rfl, hlt, hc⟩
  · have := congrArg (fun z => z[i]?) h
    simp [hk] at this
  · exact ⟨b, o, rfl, hlt, hc i _ (by rw [List.getElem?_map, hk]; rfl)⟩
def IdxRes (ks : List Int) (k : Int) (e : Ending) : Prop := ∃ i : Int, e = .returned (.int .i64 i) ∧ decide ((0 : Int) ≤ i) = ks.contains k
end Go.Proofs.YtcapaiiegfedmaaDoor
