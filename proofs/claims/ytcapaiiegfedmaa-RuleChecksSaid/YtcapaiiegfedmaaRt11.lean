/- The last step of a row whose walk ends in 'Below'. · journal: cuts, words, digits. -/
import Derived.Test.YtcapaiiegfedmaaRows
import Derived.WalkKit
import Derived.ProofKit
import Derived.OpenShut
import Derived.ShutString
import Derived.ChangeOld
import Derived.ChangeSame
import Derived.Below
import Derived.Test.YtcapaiiegfedmaaRt10
namespace Go.Proofs.Ytcapaiiegfedmaa
open Go.RowKit Go.WideShapes Go.ChangeShapes
section
variable {H : Type} {enc : TypeId × Value → H} {P : Program}
/-- the arguments read as they did, whatever their types, where nothing that was there has turned -/
theorem args_kept (hl : laidOutB P = true) {W W' : World} (hb : Below W.heap.size W W') : ∀ {ts : List TypeId} {vs : List Value} {ds : List (DataW H)} {ps : List MemPlace},
    (ts.all fun t => P.readableRec t && decide (t < P.types.size)) = true → (∀ x ∈ ps, x.block < W.heap.size) → DataW.TrodAll enc P W 0 (fun _ => true) true ts vs ds ps → DataW.TrodAll enc P W' 0 (fun b => decide (b < W.heap.size)) true ts vs ds ps
  | [], [], [], _, _, _, h => h
  | [], [], _ :: _, _, _, _, h => h.elim
  | [], _ :: _, [], _, _, _, h => h.elim
  | [], _ :: _, _ :: _, _, _, _, h => h.elim
  | _ :: _, [], [], _, _, _, h => h.elim
  | _ :: _, [], _ :: _, _, _, _, h => h.elim
  | _ :: _, _ :: _, [], _, _, _, h => h.elim
  | t :: ts, v :: vs, d :: ds, ps, hr, hlt, h => by
    obtain ⟨p, q, h1, h2, rfl⟩ := h
    simp only [List.all_cons, Bool.and_eq_true, decide_eq_true_eq] at hr
    exact ⟨p, q, Below.trod hl hr.1.1 hr.1.2 h1 hb (fun x hx => hlt x (List.mem_append_left _ hx)), args_kept hl hb hr.2 (fun x hx => hlt x (List.mem_append_right _ hx)) h2, rfl⟩
/-- a law's last step: it returned true, and nothing that was there has turned -/
theorem law_done {f : Func} {s : ChangeSpec} {apart fresh handsOn : Bool} {W W' : World} {args : Array Value} {ds : List (DataW H)} {before : List MemPlace}
    (hl : laidOutB P = true) (hr : (f.params.toList.all fun t => P.readableRec t && decide (t < P.types.size)) = true) (hv : s.vars = []) (h4 : f.resultTypes = #[4]) (hu : P.underlying 4 = some .bool)
    (hW : DataW.Whole enc P f.params.toList s.vars apart W args.toList ds [] before)
    (h1 : (s.fn H (ds ++ [])).results = [.lit (.bool true)]) (h2 : (s.fn H (ds ++ [])).args = ds) (h3 : (s.fn H (ds ++ [])).vars = [])
    (hb : Below W.heap.size W W') : s.post enc P f apart fresh handsOn false W args (.bool true) W' := by
  have hlt : ∀ p ∈ before, p.block < W.heap.size := fun p hp => hW.lt p hp
  have hW' := hW
  obtain ⟨p, q, hA, hV, rfl, _, _⟩ := hW
  refine ⟨ds, [], p ++ q, [], p, [], hW', ?_, ?_, ?_, hb.frame _, fun h => by cases h⟩
  · rw [h1, h4]; exact trodAll_mk1 (shut_bool hu _)
  · rw [h2]; exact args_kept hl hb hr (fun x hx => hlt x (List.mem_append_left _ hx)) hA
  · rw [h3, hv]; rfl
end
end Go.Proofs.Ytcapaiiegfedmaa
namespace Go.Proofs.Ytcapaiiegfedmaa
open Go.RowKit Go.Shelf
def before (c : UInt8) (s : Bs) : Bs := s.takeWhile (· != c)
def after (c : UInt8) (s : Bs) : Bs := (s.dropWhile (· != c)).drop 1
theorem before_no (c : UInt8) (s : Bs) (h : c ∉ s) : before c s = s ∧ after c s = [] := by
  induction s with
  | nil => exact ⟨rfl, rfl⟩
  | cons a t ih =>
    have ha : (a != c) = true := by simp only [bne_iff_ne, ne_eq]; intro e; exact h (by simp [e])
    have ht := ih (fun e => h (by simp [e]))
    unfold before after at ht ⊢
    rw [List.takeWhile_cons, List.dropWhile_cons, ha]
    exact ⟨by simp [ht.1], by simpa using ht.2⟩
theorem before_app (c : UInt8) (a s : Bs) (h : c ∉ a) : before c (a ++ c :: s) = a ∧ after c (a ++ c :: s) = s := by
  induction a with
  | nil => simp [before, after]
  | cons b t ih =>
    have ha : (b != c) = true := by simp only [bne_iff_ne, ne_eq]; intro e; exact h (by simp [e])
    have ht := ih (fun e => h (by simp [e]))
    unfold before after at ht ⊢
    rw [List.cons_append, List.takeWhile_cons, List.dropWhile_cons, ha]
    exact ⟨by simp [ht.1], by simpa using ht.2⟩
theorem idx_at (c : UInt8) (l : Bs) : (Lib.indexByte l c = -1 ∧ c ∉ l) ∨ ∃ a b : Bs, l = a ++ c :: b ∧ c ∉ a ∧ Lib.indexByte l c = (a.length : Int) := by
  induction l with
  | nil => left; simp [Lib.indexByte]
  | cons b t ih =>
    unfold Lib.indexByte
    by_cases hb : b = c
    · right; refine ⟨[], t, by rw [hb]; rfl, by simp, ?_⟩
      simp [hb]
    · have hb' : (b == c) = false := by simpa using hb
      rw [hb']
      rcases ih with ⟨h1, h2⟩ | ⟨a, s, h1, h2, h3⟩
      · left; rw [h1]; refine ⟨rfl, ?_⟩
        simp only [List.mem_cons, not_or]; exact ⟨fun e => hb e.symm, h2⟩
      · right; refine ⟨b :: a, s, by rw [h1]; rfl, ?_, ?_⟩
        · simp only [List.mem_cons, not_or]; exact ⟨fun e => hb e.symm, h2⟩
        · rw [h3, if_neg (by simp), if_neg (by simp)]; simp
theorem extract_from (p : ByteArray) (a t : Bs) (c : UInt8) (h : L p = a ++ c :: t) : p.extract (a.length + 1) p.size = B t := by
  have hs : p.size = a.length + 1 + t.length := by rw [← L_len, h]; simp; try omega
  rw [extract_B, h, hs]
  congr 1
  rw [show a ++ c :: t = (a ++ [c]) ++ t by simp, List.take_of_length_le (by simp; try omega), List.drop_left' (by simp)]
theorem scut_walk (s : ByteArray) (hs : s.size ≤ 100000) (c : UInt8) (w : World) :
    Calls Try.prog 141 #[.string s, .string ⟨#[c]⟩] w fun e w' => e = .returned (.tuple #[.string (B (before c (L s))), .string (B (after c (L s))), .bool (decide (c ∈ L s))]) ∧ ∃ n, w' = w.drewN n := by
  have I1 := Lib.hid (fun W => Try.stringslite_Index_one s c W)
  have hsz : ByteArray.size ⟨#[c]⟩ = 1 := rfl
  rcases idx_at c (L s) with ⟨h1, h2⟩ | ⟨a, t, h1, h2, h3⟩
  · rw [show s.data.toList = L s from rfl, h1] at I1
    have hb := before_no c (L s) h2
    have HB : Hid (B (before c (L s)) = s ∧ B (after c (L s)) = B [] ∧ decide (c ∈ L s) = false) := by
      show B (before c (L s)) = s ∧ B (after c (L s)) = B [] ∧ decide (c ∈ L s) = false
      rw [hb.1, hb.2, B_L]; exact ⟨rfl, rfl, by simpa using h2⟩
    clear hb h1 h2
    go_enter Try.func141, Try.ntmps141
    go_wp2_with fail
    refine (I1.out _).mono ?_
    rintro e w1 ⟨rfl, rfl⟩
    go_wp2_with fail
    go_ret3
    rw [HB.out.1, HB.out.2.1, HB.out.2.2]
    exact ⟨rfl, 0, rfl⟩
  · rw [show s.data.toList = L s from rfl, h3] at I1
    have hb := before_app c a t h2
    have hx := extract_from s a t c h1
    have hy : s.extract 0 a.length = B a := by rw [extract_B, h1]; simp
    have hl : a.length + 1 ≤ s.size := by rw [← L_len, h1]; simp
    have HB : Hid (B (before c (L s)) = s.extract 0 a.length ∧ B (after c (L s)) = s.extract (a.length + 1) s.size ∧ decide (c ∈ L s) = true) := by
      show B (before c (L s)) = s.extract 0 a.length ∧ B (after c (L s)) = s.extract (a.length + 1) s.size ∧ decide (c ∈ L s) = true
      rw [hx, hy, h1, hb.1, hb.2]; exact ⟨rfl, rfl, by simp⟩
    clear hb h1 h2 h3 hx hy
    go_enter Try.func141, Try.ntmps141
    go_wp2_with fail
    refine (I1.out _).mono ?_
    rintro e w1 ⟨rfl, rfl⟩
    go_wp2_with fail
    go_quiet (fail)
    go_wp2_with fail
    go_ret3
    rw [HB.out.1, HB.out.2.1, HB.out.2.2]
    exact ⟨rfl, _, rfl⟩
theorem cut1_walk (s : ByteArray) (hs : s.size ≤ 100000) (c : UInt8) (w : World) :
    Calls Try.prog 118 #[.string s, .string ⟨#[c]⟩] w fun e w' => e = .returned (.tuple #[.string (B (before c (L s))), .string (B (after c (L s))), .bool (decide (c ∈ L s))]) ∧ ∃ n, w' = w.drewN n := by
  have I1 := Lib.hid (fun W => scut_walk s hs c W)
  go_enter Try.func118, Try.ntmps118
  go_wp2_with fail
  refine (I1.out _).mono ?_
  rintro e w1 ⟨rfl, n, rfl⟩
  go_wp2_with fail
  go_ret3
  exact ⟨rfl, n, rfl⟩
/-! ### words, digits, lines -/
def wordB (k : Int) : Bs := if k = 1 then [115, 116, 97, 114, 116] else if k = 2 then [112, 108, 97, 110] else if k = 3 then [100, 105, 100] else if k = 4 then [101, 110, 100] else []
theorem word_walk (k : Int) (w : World) : Calls Try.prog 100 #[.int .i64 k] w fun e w' => e = .returned (.string (B (wordB k))) ∧ w = w' := by
  by_cases h1 : k = 1
  · subst h1
    go_enter Try.func100, Try.ntmps100
    go_wp2_with fail
    go_ret
    exact ⟨rfl, rfl⟩
  have q1 : (k == 1) = false := by simpa using h1
  by_cases h2 : k = 2
  · subst h2
    go_enter Try.func100, Try.ntmps100
    go_wp2_with fail
    go_ret
    exact ⟨rfl, rfl⟩
  have q2 : (k == 2) = false := by simpa using h2
  by_cases h3 : k = 3
  · subst h3
    go_enter Try.func100, Try.ntmps100
    go_wp2_with fail
    go_ret
    exact ⟨rfl, rfl⟩
  have q3 : (k == 3) = false := by simpa using h3
  by_cases h4 : k = 4
  · subst h4
    go_enter Try.func100, Try.ntmps100
    go_wp2_with fail
    go_ret
    exact ⟨rfl, rfl⟩
  have q4 : (k == 4) = false := by simpa using h4
  have HW : Hid (wordB k = []) := by show wordB k = []; unfold wordB; rw [if_neg h1, if_neg h2, if_neg h3, if_neg h4]
  clear h1 h2 h3 h4
  go_enter Try.func100, Try.ntmps100
  go_wp2_with fail
  go_ret
  rw [HW.out]
  exact ⟨rfl, rfl⟩
def dg (d : Nat) : UInt8 := UInt8.ofNat (48 + d)
def digB (n : Nat) : Bs := if n < 10 then [dg n] else digB (n / 10) ++ [dg (n % 10)]
theorem digB_lt (n : Nat) (h : n < 10) : digB n = [dg n] := by unfold digB; rw [if_pos h]
theorem digB_ge (n : Nat) (h : ¬ n < 10) : digB n = digB (n / 10) ++ [dg (n % 10)] := by conv => lhs; unfold digB; rw [if_neg h]
theorem digB_len (n k : Nat) (h : n < 10 ^ (k + 1)) : (digB n).length ≤ k + 1 := by
  induction k generalizing n with
  | zero => rw [digB_lt n (by simpa using h)]; simp
  | succ k ih =>
    by_cases h10 : n < 10
    · rw [digB_lt n h10]; simp
    · rw [digB_ge n h10, List.length_append]
      have := ih (n / 10) (by rw [Nat.div_lt_iff_lt_mul (by decide)]; rw [Nat.pow_succ] at h; exact h)
      simpa using this
theorem enc_digit (d : Nat) (h : d < 10) : Utf8.encode (48 + (d : Int)) = B [dg d] := by
  match d, h with
  | 0, _ => rfl
  | 1, _ => rfl
  | 2, _ => rfl
  | 3, _ => rfl
  | 4, _ => rfl
  | 5, _ => rfl
  | 6, _ => rfl
  | 7, _ => rfl
  | 8, _ => rfl
  | 9, _ => rfl
set_option maxRecDepth 100000 in
theorem digits_walk (n : Nat) (hn : n < 10000000000000000) (w : World) : Calls Try.prog 101 #[.int .i64 (n : Int)] w fun e w' => e = .returned (.string (B (digB n))) ∧ w = w' := by
  induction n using Nat.strongRecOn with
  | _ n ih =>
    by_cases h : (n : Int) < 10
    · have HD := Lib.hid (digB_lt n (by omega))
      have HE := Lib.hid (enc_digit n (by omega))
      clear ih
      go_enter Try.func101, Try.ntmps101
      go_wp2_with fail
      go_ret
      rw [HD.out, ← HE.out]
      exact ⟨rfl, rfl⟩
    · have HD := Lib.hid (digB_ge n (by omega))
      have HE := Lib.hid (enc_digit (n % 10) (by omega))
      have hl := digB_len (n / 10) 15 (by omega)
      have I1 := Lib.hid (ih (n / 10) (by omega) (by omega))
      clear ih
      generalize hq : n / 10 = q at *
      generalize hr : n % 10 = r at *
      have h1 : Int.tdiv (n : Int) 10 = (q : Int) := by rw [Int.tdiv_eq_ediv_of_nonneg (by omega)]; omega
      have h2 : Int.tmod (n : Int) 10 = (r : Int) := by rw [Int.tmod_eq_emod_of_nonneg (by omega)]; omega
      have hq9 : q < 1000000000000000 := by omega
      have h10 : r < 10 := by omega
      have he := HE.out
      clear hq hr
      generalize digB q = dq at *
      go_enter Try.func101, Try.ntmps101
      go_wp2_with fail
      refine I1.out.mono ?_
      rintro e w1 ⟨rfl, rfl⟩
      go_wp2_with fail
      go_ret
      refine ⟨ret_str ?_, rfl⟩
      rw [HD.out, ← B_app]
def lineB (k n : Int) : Bs := if wordB k = [] ∨ n < 0 ∨ 2147483647 < n then [] else wordB k ++ [32] ++ digB n.toNat ++ [10]
theorem word_len (k : Int) : (wordB k).length ≤ 5 := by
  unfold wordB
  split
  · decide
  · split
    · decide
    · split
      · decide
      · split <;> decide
theorem lineB_no (k n : Int) (h : wordB k = [] ∨ n < 0 ∨ 2147483647 < n) : lineB k n = [] := by unfold lineB; rw [if_pos h]
theorem lineB_yes (k : Int) (m : Nat) (h : wordB k ≠ []) (hm : m ≤ 2147483647) : lineB k (m : Int) = wordB k ++ [32] ++ digB m ++ [10] := by
  unfold lineB
  rw [if_neg (by rintro (h1 | h1 | h1); exact h h1; omega; omega)]; rfl
set_option maxRecDepth 100000 in
theorem line_walk (k n : Int) (w : World) : Calls Try.prog 50 #[.agg #[.int .i64 k, .int .i64 n]] w fun e w' => e = .returned (.string (B (lineB k n))) ∧ Below w.heap.size w w' := by
  have W1 := Lib.hid (fun W => word_walk k W)
  have hwl := word_len k
  cases hw : (wordB k).isEmpty with
  | true =>
    have HL := Lib.hid (lineB_no k n (.inl (by simpa using hw)))
    rw [show wordB k = [] by simpa using hw] at W1
    go_enter Try.func50, Try.ntmps50
    go_wp2_with fail
    refine (W1.out _).mono ?_
    rintro e w1 ⟨rfl, rfl⟩
    have he : (B []).toList.isEmpty = true := by rw [L_toList]; rfl
    go_wp2_with fail
    go_ret
    rw [HL.out]
    exact ⟨rfl, (Below.refl _ _).alloc (Nat.le_refl _) _⟩
  | false =>
    by_cases h0 : n < 0
    · have HL := Lib.hid (lineB_no k n (.inr (.inl h0)))
      have he : (B (wordB k)).toList.isEmpty = false := by rw [L_toList, L_B]; exact hw
      generalize B (wordB k) = t at *
      go_enter Try.func50, Try.ntmps50
      go_wp2_with fail
      refine (W1.out _).mono ?_
      rintro e w1 ⟨rfl, rfl⟩
      go_wp2_with fail
      go_ret
      rw [HL.out]
      exact ⟨rfl, (Below.refl _ _).alloc (Nat.le_refl _) _⟩
    · by_cases h1 : 2147483647 < n
      · have HL := Lib.hid (lineB_no k n (.inr (.inr h1)))
        have he : (B (wordB k)).toList.isEmpty = false := by rw [L_toList, L_B]; exact hw
        generalize B (wordB k) = t at *
        go_enter Try.func50, Try.ntmps50
        go_wp2_with fail
        refine (W1.out _).mono ?_
        rintro e w1 ⟨rfl, rfl⟩
        go_wp2_with fail
        go_ret
        rw [HL.out]
        exact ⟨rfl, (Below.refl _ _).alloc (Nat.le_refl _) _⟩
      · obtain ⟨m, rfl⟩ : ∃ m : Nat, n = (m : Int) := ⟨n.toNat, by omega⟩
        have hm : m ≤ 2147483647 := by omega
        have HL := Lib.hid (lineB_yes k m (by simpa using hw) hm)
        have hdl := digB_len m 15 (by omega)
        have D1 := Lib.hid (fun W => digits_walk m (by omega) W)
        have he : (B (wordB k)).toList.isEmpty = false := by rw [L_toList, L_B]; exact hw
        have hts : (B (wordB k)).size ≤ 5 := by rw [B_size]; exact hwl
        have hds : (B (digB m)).size ≤ 16 := by rw [B_size]; exact hdl
        have HE : Hid (B (wordB k ++ [32] ++ digB m ++ [10]) = B (wordB k) ++ ⟨#[32]⟩ ++ B (digB m) ++ ⟨#[10]⟩) := by
          show B (wordB k ++ [32] ++ digB m ++ [10]) = B (wordB k) ++ ⟨#[32]⟩ ++ B (digB m) ++ ⟨#[10]⟩
          rw [← B_app, ← B_app, ← B_app]; rfl
        generalize B (wordB k) = t at *
        generalize B (digB m) = d at *
        have hs32 : ByteArray.size ⟨#[32]⟩ = 1 := rfl
        have hs10 : ByteArray.size ⟨#[10]⟩ = 1 := rfl
        go_enter Try.func50, Try.ntmps50
        go_wp2_with fail
        refine (W1.out _).mono ?_
        rintro e w1 ⟨rfl, rfl⟩
        go_wp2_with fail
        go_quiet ((first | (go_at_call 100; exact quiet_add_left (W1.out _)) | (go_at_call 101; exact quiet_add_left (D1.out _)) | (go_at_call 100; exact quiet_left (W1.out _)) | (go_at_call 101; exact quiet_left (D1.out _))))
        go_wp2_with fail
        go_ret
        rw [HL.out, HE.out]
        exact ⟨rfl, below_draw ((Below.refl _ _).alloc (Nat.le_refl _) _)⟩
end Go.Proofs.Ytcapaiiegfedmaa
