/- work: the operations of an edit, the program's and the document's. (printed by gen_wedit.py) -/
import Derived.Test.YtcapaiiegfedmaaWE
namespace Go.Proofs.Ytcapaiiegfedmaa
open Go.RowKit Go.Shelf
def editO (k : Int) (f t : Bs) (mo ti : Int) (ta d : Bs) (m : Nat) : List OpD :=
  if k = 1 ∨ k = 2 ∨ k = 3 then layL t d m else if k = 4 then [(4, t, ta, 0, 0)] else if k = 5 ∨ k = 6 then [(5, f, t, 0, 0)] else if k = 7 then [(1, t, [], 0, 0)]
  else if k = 8 then [(6, f, [], 0, 0)] else if k = 9 then [(7, t, [], mo, ti)] else []
/-- a list of operations that a call made -/
def MadeO (w : World) (l : List OpD) (e : Ending) (w' : World) : Prop :=
  ∃ A c, e = .returned (.slice A l.length c) ∧ l.length ≤ c ∧ Slc w' A (l.flatMap oV) ∧ Below w.heap.size w w'
theorem MadeO.mono {w w0 : World} {l : List OpD} {e : Ending} {w' : World} (h : MadeO w0 l e w') (hb : Below w.heap.size w w0) : MadeO w l e w' := by
  obtain ⟨A, c, h1, h2, h3, h4⟩ := h
  exact ⟨A, c, h1, h2, h3, hb.trans (h4.mono hb.size)⟩
theorem slc_new1 (w : World) (o : OpD) (e : TypeId) : Slc (w.alloc (.cells (oV o).toArray e)) (some ⟨w.heap.size, 0, none⟩) ([o].flatMap oV) := by
  refine .inr ⟨w.heap.size, 0, rfl, by simp, fun i v hv => ?_⟩
  rw [List.flatMap_singleton] at hv
  have := cells_new (heap_alloc_new w (.cells (oV o).toArray e)) i v hv
  rwa [addr_plus] at this
theorem madeO_one (w0 w : World) (o : OpD) (e : TypeId) (v : Value) (hv : v = .slice (some ⟨w.heap.size, 0, none⟩) 1 1) (hb : Below w0.heap.size w0 w) : MadeO w0 [o] (.returned v) (w.alloc (.cells (oV o).toArray e)) :=
  ⟨_, 1, by rw [hv]; rfl, Nat.le_refl _, slc_new1 w o e, hb.alloc hb.size _⟩
theorem B_nil0 : B [] = ⟨#[]⟩ := rfl
set_option maxRecDepth 100000 in
set_option maxHeartbeats 8000000 in
theorem wedit_walk (k : Int) (f t : ByteArray) (n mo ti : Int) (ta d : ByteArray) (m : Int) (c0 c1 c4 c5 c6 c8 c9 c10 c11 c12 c13 c14 c15 : Value) (ht : t.size ≤ 100000) (hd : d.size ≤ 100000) (hm0 : -9223372036854775808 ≤ m) (hm1 : m ≤ 9223372036854775807) (w : World) :
    Calls Try.prog 56 #[.agg #[.int .i64 k, .string f, .string t, .int .i64 n], .agg #[c0, c1, .int .i64 mo, .int .i64 ti, c4, c5, c6, .string ta, c8, c9, c10, c11, c12, c13, c14, c15], .string d, .int .i64 m] w fun e w' => MadeO w (editO k (L f) (L t) mo ti (L ta) (L d) (pieceM m)) e w' := by
  have L1 := Lib.hid (fun W => lay_walk t d m ht hd hm1 W)
  have hs0 := str_mk f
  have hs1 := str_mk t
  have hs2 := str_mk ta
  unfold strV at hs0 hs1 hs2
  have hb0 := ((Below.refl w.heap.size w).alloc (Nat.le_refl _) (.cells #[.int .i64 k, .string f, .string t, .int .i64 n] 59)).alloc (by simp) (.cells #[c0, c1, .int .i64 mo, .int .i64 ti, c4, c5, c6, .string ta, c8, c9, c10, c11, c12, c13, c14, c15] 65)
  by_cases hk : k = 1 ∨ k = 2 ∨ k = 3 ∨ k = 4 ∨ k = 5 ∨ k = 6 ∨ k = 7 ∨ k = 8 ∨ k = 9
  · rcases hk with rfl | rfl | rfl | rfl | rfl | rfl | rfl | rfl | rfl
    · have HE : Hid (editO 1 (L f) (L t) mo ti (L ta) (L d) (pieceM m) = layL (L t) (L d) (pieceM m)) := rfl
      go_enter Try.func56, Try.ntmps56
      go_wp2_with (go_at_call 58; refine (L1.out _).mono ?_; rintro e w1 ⟨A, c, rfl, h2, h3, h4⟩)
      go_ret
      rw [HE.out]
      exact MadeO.mono ⟨A, c, rfl, h2, h3, h4⟩ hb0
    · have HE : Hid (editO 2 (L f) (L t) mo ti (L ta) (L d) (pieceM m) = layL (L t) (L d) (pieceM m)) := rfl
      go_enter Try.func56, Try.ntmps56
      go_wp2_with (go_at_call 58; refine (L1.out _).mono ?_; rintro e w1 ⟨A, c, rfl, h2, h3, h4⟩)
      go_ret
      rw [HE.out]
      exact MadeO.mono ⟨A, c, rfl, h2, h3, h4⟩ hb0
    · have HE : Hid (editO 3 (L f) (L t) mo ti (L ta) (L d) (pieceM m) = layL (L t) (L d) (pieceM m)) := rfl
      go_enter Try.func56, Try.ntmps56
      go_wp2_with (go_at_call 58; refine (L1.out _).mono ?_; rintro e w1 ⟨A, c, rfl, h2, h3, h4⟩)
      go_ret
      rw [HE.out]
      exact MadeO.mono ⟨A, c, rfl, h2, h3, h4⟩ hb0
    · have HE : Hid (editO 4 (L f) (L t) mo ti (L ta) (L d) (pieceM m) = [(4, L t, L ta, 0, 0)]) := rfl
      have HQ := Lib.hid (madeO_one w _ (4, L t, L ta, 0, 0) 71 _ rfl hb0)
      simp only [oV, strV, B_L, B_nil0, World.size_alloc] at HQ
      go_enter Try.func56, Try.ntmps56
      go_wp2_with fail
      go_ret
      rw [HE.out]
      exact HQ.out
    · have HE : Hid (editO 5 (L f) (L t) mo ti (L ta) (L d) (pieceM m) = [(5, L f, L t, 0, 0)]) := rfl
      have HQ := Lib.hid (madeO_one w _ (5, L f, L t, 0, 0) 71 _ rfl hb0)
      simp only [oV, strV, B_L, B_nil0, World.size_alloc] at HQ
      go_enter Try.func56, Try.ntmps56
      go_wp2_with fail
      go_ret
      rw [HE.out]
      exact HQ.out
    · have HE : Hid (editO 6 (L f) (L t) mo ti (L ta) (L d) (pieceM m) = [(5, L f, L t, 0, 0)]) := rfl
      have HQ := Lib.hid (madeO_one w _ (5, L f, L t, 0, 0) 71 _ rfl hb0)
      simp only [oV, strV, B_L, B_nil0, World.size_alloc] at HQ
      go_enter Try.func56, Try.ntmps56
      go_wp2_with fail
      go_ret
      rw [HE.out]
      exact HQ.out
    · have HE : Hid (editO 7 (L f) (L t) mo ti (L ta) (L d) (pieceM m) = [(1, L t, [], 0, 0)]) := rfl
      have HQ := Lib.hid (madeO_one w _ (1, L t, [], 0, 0) 71 _ rfl hb0)
      simp only [oV, strV, B_L, B_nil0, World.size_alloc] at HQ
      go_enter Try.func56, Try.ntmps56
      go_wp2_with fail
      go_ret
      rw [HE.out]
      exact HQ.out
    · have HE : Hid (editO 8 (L f) (L t) mo ti (L ta) (L d) (pieceM m) = [(6, L f, [], 0, 0)]) := rfl
      have HQ := Lib.hid (madeO_one w _ (6, L f, [], 0, 0) 71 _ rfl hb0)
      simp only [oV, strV, B_L, B_nil0, World.size_alloc] at HQ
      go_enter Try.func56, Try.ntmps56
      go_wp2_with fail
      go_ret
      rw [HE.out]
      exact HQ.out
    · have HE : Hid (editO 9 (L f) (L t) mo ti (L ta) (L d) (pieceM m) = [(7, L t, [], mo, ti)]) := rfl
      have HQ := Lib.hid (madeO_one w _ (7, L t, [], mo, ti) 71 _ rfl hb0)
      simp only [oV, strV, B_L, B_nil0, World.size_alloc] at HQ
      go_enter Try.func56, Try.ntmps56
      go_wp2_with fail
      go_ret
      rw [HE.out]
      exact HQ.out
  · have HE : Hid (editO k (L f) (L t) mo ti (L ta) (L d) (pieceM m) = []) := by
      show _ = _
      unfold editO
      rw [if_neg (by omega), if_neg (by omega), if_neg (by omega), if_neg (by omega), if_neg (by omega), if_neg (by omega)]
    have e1 : (k == 1) = false := by simp; omega
    have e2 : (k == 2) = false := by simp; omega
    have e3 : (k == 3) = false := by simp; omega
    have e4 : (k == 4) = false := by simp; omega
    have e5 : (k == 5) = false := by simp; omega
    have e6 : (k == 6) = false := by simp; omega
    have e7 : (k == 7) = false := by simp; omega
    have e8 : (k == 8) = false := by simp; omega
    have e9 : (k == 9) = false := by simp; omega
    clear hk
    go_enter Try.func56, Try.ntmps56
    go_wp2_with fail
    go_ret
    rw [HE.out]
    exact ⟨none, 0, rfl, Nat.le_refl _, .inl rfl, hb0⟩
set_option maxRecDepth 100000 in
set_option maxHeartbeats 8000000 in
theorem redit_walk (k : Int) (f t : ByteArray) (n mo ti : Int) (ta d : ByteArray) (m : Int) (c0 c1 c4 c5 c6 c8 c9 c10 c11 c12 c13 c14 c15 : Value) (ht : t.size ≤ 100000) (hd : d.size ≤ 100000) (hm0 : -9223372036854775808 ≤ m) (hm1 : m ≤ 9223372036854775807) (w : World) :
    Calls Try.prog 57 #[.agg #[.int .i64 k, .string f, .string t, .int .i64 n], .agg #[c0, c1, .int .i64 mo, .int .i64 ti, c4, c5, c6, .string ta, c8, c9, c10, c11, c12, c13, c14, c15], .string d, .int .i64 m] w fun e w' => MadeO w (editO k (L f) (L t) mo ti (L ta) (L d) (pieceM m)) e w' := by
  have L1 := Lib.hid (fun W => rlay_walk t d m ht hd hm0 hm1 W)
  have hs0 := str_mk f
  have hs1 := str_mk t
  have hs2 := str_mk ta
  unfold strV at hs0 hs1 hs2
  have hb0 := ((Below.refl w.heap.size w).alloc (Nat.le_refl _) (.cells #[.int .i64 k, .string f, .string t, .int .i64 n] 59)).alloc (by simp) (.cells #[c0, c1, .int .i64 mo, .int .i64 ti, c4, c5, c6, .string ta, c8, c9, c10, c11, c12, c13, c14, c15] 65)
  by_cases hk : k = 1 ∨ k = 2 ∨ k = 3 ∨ k = 4 ∨ k = 5 ∨ k = 6 ∨ k = 7 ∨ k = 8 ∨ k = 9
  · rcases hk with rfl | rfl | rfl | rfl | rfl | rfl | rfl | rfl | rfl
    · have HE : Hid (editO 1 (L f) (L t) mo ti (L ta) (L d) (pieceM m) = layL (L t) (L d) (pieceM m)) := rfl
      go_enter Try.func57, Try.ntmps57
      go_wp2_with (go_at_call 59; refine (L1.out _).mono ?_; rintro e w1 ⟨A, c, rfl, h2, h3, h4⟩)
      go_ret
      rw [HE.out]
      exact MadeO.mono ⟨A, c, rfl, h2, h3, h4⟩ hb0
    · have HE : Hid (editO 2 (L f) (L t) mo ti (L ta) (L d) (pieceM m) = layL (L t) (L d) (pieceM m)) := rfl
      go_enter Try.func57, Try.ntmps57
      go_wp2_with (go_at_call 59; refine (L1.out _).mono ?_; rintro e w1 ⟨A, c, rfl, h2, h3, h4⟩)
      go_ret
      rw [HE.out]
      exact MadeO.mono ⟨A, c, rfl, h2, h3, h4⟩ hb0
    · have HE : Hid (editO 3 (L f) (L t) mo ti (L ta) (L d) (pieceM m) = layL (L t) (L d) (pieceM m)) := rfl
      go_enter Try.func57, Try.ntmps57
      go_wp2_with (go_at_call 59; refine (L1.out _).mono ?_; rintro e w1 ⟨A, c, rfl, h2, h3, h4⟩)
      go_ret
      rw [HE.out]
      exact MadeO.mono ⟨A, c, rfl, h2, h3, h4⟩ hb0
    · have HE : Hid (editO 4 (L f) (L t) mo ti (L ta) (L d) (pieceM m) = [(4, L t, L ta, 0, 0)]) := rfl
      have HQ := Lib.hid (madeO_one w _ (4, L t, L ta, 0, 0) 137 _ rfl hb0)
      simp only [oV, strV, B_L, B_nil0, World.size_alloc] at HQ
      go_enter Try.func57, Try.ntmps57
      go_wp2_with fail
      go_ret
      rw [HE.out]
      exact HQ.out
    · have HE : Hid (editO 5 (L f) (L t) mo ti (L ta) (L d) (pieceM m) = [(5, L f, L t, 0, 0)]) := rfl
      have HQ := Lib.hid (madeO_one w _ (5, L f, L t, 0, 0) 137 _ rfl hb0)
      simp only [oV, strV, B_L, B_nil0, World.size_alloc] at HQ
      go_enter Try.func57, Try.ntmps57
      go_wp2_with fail
      go_ret
      rw [HE.out]
      exact HQ.out
    · have HE : Hid (editO 6 (L f) (L t) mo ti (L ta) (L d) (pieceM m) = [(5, L f, L t, 0, 0)]) := rfl
      have HQ := Lib.hid (madeO_one w _ (5, L f, L t, 0, 0) 137 _ rfl hb0)
      simp only [oV, strV, B_L, B_nil0, World.size_alloc] at HQ
      go_enter Try.func57, Try.ntmps57
      go_wp2_with fail
      go_ret
      rw [HE.out]
      exact HQ.out
    · have HE : Hid (editO 7 (L f) (L t) mo ti (L ta) (L d) (pieceM m) = [(1, L t, [], 0, 0)]) := rfl
      have HQ := Lib.hid (madeO_one w _ (1, L t, [], 0, 0) 137 _ rfl hb0)
      simp only [oV, strV, B_L, B_nil0, World.size_alloc] at HQ
      go_enter Try.func57, Try.ntmps57
      go_wp2_with fail
      go_ret
      rw [HE.out]
      exact HQ.out
    · have HE : Hid (editO 8 (L f) (L t) mo ti (L ta) (L d) (pieceM m) = [(6, L f, [], 0, 0)]) := rfl
      have HQ := Lib.hid (madeO_one w _ (6, L f, [], 0, 0) 137 _ rfl hb0)
      simp only [oV, strV, B_L, B_nil0, World.size_alloc] at HQ
      go_enter Try.func57, Try.ntmps57
      go_wp2_with fail
      go_ret
      rw [HE.out]
      exact HQ.out
    · have HE : Hid (editO 9 (L f) (L t) mo ti (L ta) (L d) (pieceM m) = [(7, L t, [], mo, ti)]) := rfl
      have HQ := Lib.hid (madeO_one w _ (7, L t, [], mo, ti) 137 _ rfl hb0)
      simp only [oV, strV, B_L, B_nil0, World.size_alloc] at HQ
      go_enter Try.func57, Try.ntmps57
      go_wp2_with fail
      go_ret
      rw [HE.out]
      exact HQ.out
  · have HE : Hid (editO k (L f) (L t) mo ti (L ta) (L d) (pieceM m) = []) := by
      show _ = _
      unfold editO
      rw [if_neg (by omega), if_neg (by omega), if_neg (by omega), if_neg (by omega), if_neg (by omega), if_neg (by omega)]
    have e1 : (k == 1) = false := by simp; omega
    have e2 : (k == 2) = false := by simp; omega
    have e3 : (k == 3) = false := by simp; omega
    have e4 : (k == 4) = false := by simp; omega
    have e5 : (k == 5) = false := by simp; omega
    have e6 : (k == 6) = false := by simp; omega
    have e7 : (k == 7) = false := by simp; omega
    have e8 : (k == 8) = false := by simp; omega
    have e9 : (k == 9) = false := by simp; omega
    clear hk
    go_enter Try.func57, Try.ntmps57
    go_wp2_with fail
    go_ret
    rw [HE.out]
    exact ⟨none, 0, rfl, Nat.le_refl _, .inl rfl, hb0⟩
end Go.Proofs.Ytcapaiiegfedmaa
