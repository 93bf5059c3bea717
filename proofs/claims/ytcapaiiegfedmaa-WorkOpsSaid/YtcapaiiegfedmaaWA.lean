/- work: operations, nodes; Small, same. -/
import Derived.Test.YtcapaiiegfedmaaKit
import Derived.Test.YtcapaiiegfedmaaOpenR
import Derived.Test.YtcapaiiegfedmaaPathsQ
namespace Go.Proofs.Ytcapaiiegfedmaa
open Go.RowKit Go.Shelf
abbrev OpD := Int × Bs × Bs × Int × Int
def oV (o : OpD) : List Value := [.int .i64 o.1, strV o.2.1, strV o.2.2.1, .int .i64 o.2.2.2.1, .int .i64 o.2.2.2.2]
abbrev NodeD := Bs × Int × Int × Int × Bs
def nV (o : NodeD) : List Value := [strV o.1, .int .i64 o.2.1, .int .i64 o.2.2.1, .int .i64 o.2.2.2.1, strV o.2.2.2.2]
theorem five_at {α : Type} (f : α → List Value) (hf5 : ∀ x, (f x).length = 5) {w : World} {A : Option Addr} {es : List α} (h : Slc w A (es.flatMap f)) {k : Nat} {e : α} (hk : es[k]? = some e) {v0 v1 v2 v3 v4 : Value} (he : f e = [v0, v1, v2, v3, v4]) :
    ∃ b o, A = some ⟨b, o, none⟩ ∧ b < w.heap.size ∧ w.cell? ⟨b, o + k * 5, none⟩ = some v0 ∧ w.cell? ⟨b, o + k * 5 + 1, none⟩ = some v1 ∧ w.cell? ⟨b, o + k * 5 + 2, none⟩ = some v2 ∧ w.cell? ⟨b, o + k * 5 + 3, none⟩ = some v3 ∧ w.cell? ⟨b, o + k * 5 + 4, none⟩ = some v4 := by
  have hf := fun j hj => flat_get f 5 hf5 es k j hj
  rw [hk] at hf
  simp only [Option.bind_some, he] at hf
  rcases h with h | ⟨b, o, rfl, hlt, hc⟩
  · have := hf 0 (by omega)
    rw [h] at this; simp at this
  · refine ⟨b, o, rfl, hlt, ?_, ?_, ?_, ?_, ?_⟩
    · exact hc (k * 5 + 0) _ (hf 0 (by omega))
    · rw [Nat.add_assoc]; exact hc (k * 5 + 1) _ (hf 1 (by omega))
    · rw [Nat.add_assoc]; exact hc (k * 5 + 2) _ (hf 2 (by omega))
    · rw [Nat.add_assoc]; exact hc (k * 5 + 3) _ (hf 3 (by omega))
    · rw [Nat.add_assoc]; exact hc (k * 5 + 4) _ (hf 4 (by omega))
def slimN (e : NodeD) : Bool := decide (e.1.length ≤ 200) && decide (e.2.2.2.2.length ≤ 500)
def smallB (es : List NodeD) : Bool := decide (es.length ≤ 24) && es.all slimN
set_option maxRecDepth 100000 in
set_option maxHeartbeats 2000000 in
theorem small_walk (A : Option Addr) (c : Nat) (es : List NodeD) (w : World) (hx : Slc w A (es.flatMap nV)) (hn : es.length ≤ maxLen) :
    Calls Try.prog 52 #[.slice A es.length c] w fun e w' => e = .returned (.bool (smallB es)) ∧ w = w' := by
  have HX := Lib.hid hx
  clear hx
  by_cases h20 : es.length ≤ 24
  case neg =>
    have hq : decide ((24 : Int) < (es.length : Int)) = true := by simp; omega
    have HF : Hid (smallB es = false) := by show _ = _; unfold smallB; simp [h20]
    go_enter Try.func52, Try.ntmps52
    go_wp2_with fail
    go_ret
    rw [HF.out]
    exact ⟨rfl, rfl⟩
  have hq : decide ((24 : Int) < (es.length : Int)) = false := by simp; omega
  have HF : Hid (smallB es = es.all slimN) := by show _ = _; unfold smallB; simp [h20]
  go_enter Try.func52, Try.ntmps52
  go_wp2_with fail
  go_loop [3] (fun i => ∃ k : Nat, k ≤ es.length ∧ i = .int .i64 k ∧ Hid ((es.take k).all slimN = true)) (fun i => es.length - (intOf i).toNat)
  case atStart => exact ⟨0, Nat.zero_le _, rfl, by rw [List.take_zero]; rfl⟩
  case round =>
    obtain ⟨k, hk, rfl, HP⟩ := hrel
    by_cases hlt : k < es.length
    · obtain ⟨e, hek⟩ : ∃ e, es[k]? = some e := ⟨_, List.getElem?_eq_getElem hlt⟩
      obtain ⟨b, o, rfl, hlb, c0, c1, c2, c3, c4⟩ := five_at nV (fun _ => rfl) HX.out hek rfl
      have HT := Lib.hid (take_one_more es k e hek)
      have hm := List.mem_of_getElem? hek
      have HE : Hid (slimN e = false → es.all slimN = false) := by
        intro h
        rw [← Bool.not_eq_true, List.all_eq_true]
        intro h2
        rw [h2 e hm] at h; cases h
      have HS : Hid (slimN e = (decide (e.1.length ≤ 200) && decide (e.2.2.2.2.length ≤ 500))) := rfl
      have hi0 : (0 : Int) ≤ (k : Int) := Int.natCast_nonneg _
      have hi1 : (k : Int) < (es.length : Int) := by omega
      have s1 : (B e.1).size = e.1.length := B_size _
      have s2 : (B e.2.2.2.2).size = e.2.2.2.2.length := B_size _
      unfold strV at c0 c4
      clear hek hm c1 c2 c3
      generalize B e.1 = f at *
      generalize B e.2.2.2.2 = t at *
      rw [← s1, ← s2] at HS
      clear s1 s2
      by_cases h1 : f.size ≤ 200
      · have q1 : decide ((200 : Int) < (f.size : Int)) = false := by simp; omega
        by_cases h2 : t.size ≤ 500
        · have q2 : decide ((500 : Int) < (t.size : Int)) = false := by simp; omega
          have HN : Hid ((es.take (k + 1)).all slimN = true) := by
            show _ = _
            rw [HT.out, List.all_append, HP.out]
            simp [HS.out, h1, h2]
          go_wp2_with fail
          go_round
          case rel => exact ⟨k + 1, by omega, by go_num, HN.out⟩
          case measure => simp [intOf]; omega
        · have q2 : decide ((500 : Int) < (t.size : Int)) = true := by simp; omega
          have HR := Lib.hid (HE.out (by rw [HS.out]; simp [h2]))
          go_wp2_with fail
          go_ret
          rw [HF.out, HR.out]
          exact ⟨rfl, rfl⟩
      · have q1 : decide ((200 : Int) < (f.size : Int)) = true := by simp; omega
        have HR := Lib.hid (HE.out (by rw [HS.out]; simp [h1]))
        go_wp2_with fail
        go_ret
        rw [HF.out, HR.out]
        exact ⟨rfl, rfl⟩
    · obtain rfl : k = es.length := by omega
      rw [List.take_length] at HP
      go_wp2_with fail
      go_ret
      rw [HF.out, HP.out]
      exact ⟨rfl, rfl⟩
/- the pieces of bytes -/
def chunksN : Nat → Nat → Bs → List Bs
  | 0, _, _ => []
  | n + 1, m, d => if d.isEmpty then [] else d.take m :: chunksN n m (d.drop m)
theorem chunks_more (m : Nat) (hm : 1 ≤ m) (n n' : Nat) (d : Bs) (h : d.length ≤ n) (h' : d.length ≤ n') : chunksN n m d = chunksN n' m d := by
  induction n generalizing n' d with
  | zero =>
    have : d = [] := List.length_eq_zero_iff.1 (by omega)
    subst this
    cases n' <;> rfl
  | succ n ih =>
    cases n' with
    | zero =>
      have : d = [] := List.length_eq_zero_iff.1 (by omega)
      subst this; rfl
    | succ n' =>
      unfold chunksN
      cases d with
      | nil => rfl
      | cons x t => rw [ih n' _ (by simp only [List.length_drop, List.length_cons] at *; omega) (by simp only [List.length_drop, List.length_cons] at *; omega)]
def chunks (m : Nat) (d : Bs) : List Bs := chunksN d.length m d
theorem chunks_nil (m : Nat) : chunks m [] = [] := rfl
theorem chunks_cons (m : Nat) (hm : 1 ≤ m) (d : Bs) (hd : d ≠ []) : chunks m d = d.take m :: chunks m (d.drop m) := by
  unfold chunks
  cases d with
  | nil => exact absurd rfl hd
  | cons x t =>
    rw [List.length_cons, chunksN]
    simp only [List.isEmpty_cons, Bool.false_eq_true, if_false]
    rw [chunks_more m hm t.length ((x :: t).drop m).length _ (by simp; omega) (Nat.le_refl _)]
def layL (p d : Bs) (m : Nat) : List OpD := (2, p, [], 0, 0) :: (chunks m d).map (fun s => (3, p, s, 0, 0))
def pieceM (m : Int) : Nat := if m < 1 then 1 else m.toNat
def eqO (a b : List OpD) : Bool := decide (a = b)
end Go.Proofs.Ytcapaiiegfedmaa
