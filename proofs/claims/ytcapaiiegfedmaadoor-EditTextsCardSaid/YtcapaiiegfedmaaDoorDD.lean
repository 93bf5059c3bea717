/- flittingref28.Right. (printed by gen_r28right.py) -/
import Derived.Test.YtcapaiiegfedmaaDoorDC
namespace Go.Proofs.YtcapaiiegfedmaaDoor
open Go.RowKit Go.Shelf
def bad1 (em hf ef ht et rf rt : Bool) : Bool := em || (hf != !ef) || (ht != !et) || !rf || !rt
theorem rightE_eq (k : Int) (f t : Bs) (n : Int) : rightE k f t n = (!bad1 (wordE k).isEmpty (fromE k) f.isEmpty (toE k) t.isEmpty (rightB f) (rightB t) && !(decide (k ≤ 5) && (t == flitB || !withinB t flitB)) && (n == 0 || (nE k && decide (0 < n) && decide (n ≤ 511)))) := by
  have h1 : (decide (0 ≤ n) && decide (n ≤ mostE k)) = (n == 0 || (nE k && decide (0 < n) && decide (n ≤ 511))) := by
    unfold mostE
    cases nE k
    · rw [Bool.eq_iff_iff]; simp; omega
    · rw [Bool.eq_iff_iff]; simp; omega
  have h2 : (decide (5 < k) || underB t flitB) = !(decide (k ≤ 5) && (t == flitB || !withinB t flitB)) := by
    unfold underB
    have : decide (5 < k) = !decide (k ≤ 5) := by rw [Bool.eq_iff_iff]; simp
    rw [this]
    have h3 : (t != flitB) = !(t == flitB) := rfl
    rw [h3]
    cases decide (k ≤ 5) <;> cases (t == flitB) <;> cases withinB t flitB <;> rfl
  unfold rightE pathE bad1
  rw [← h1, ← h2]
  cases (wordE k).isEmpty <;> cases f.isEmpty <;> cases t.isEmpty <;> cases fromE k <;> cases toE k <;> cases rightB f <;> cases rightB t <;> simp <;> (try (cases decide (0 ≤ n) <;> cases decide (n ≤ mostE k) <;> simp))
set_option maxRecDepth 100000 in
set_option maxHeartbeats 8000000 in
theorem rright28_walk (k : Int) (f t : ByteArray) (n : Int) (hf : f.size ≤ 1000) (ht : t.size ≤ 1000) (w : World) :
    Calls Tryd.prog 10 #[.agg #[.int .i64 k, .string f, .string t, .int .i64 n]] w fun e w' => e = .returned (.bool (rightE k (L f) (L t) n)) ∧ Below w.heap.size w w' := by
  rw [rightE_eq]
  have H1 := Lib.hid (fun W => rhas_walk k W)
  have W1 := Lib.hid (fun W => rword_walk k W)
  obtain ⟨rr, hrr⟩ : ∃ rr : ByteArray → Bool, ∀ x, rr x = rightB (L x) := ⟨fun x => rightB (L x), fun _ => rfl⟩
  have R1 : Hid (∀ (x : ByteArray) (h : x.size ≤ 100000) W, Calls Tryd.prog 26 #[.string x] W fun e w' => e = .returned (.bool (rr x)) ∧ Below W.heap.size W w') := fun x h W => by rw [hrr]; exact rright_walk x h W
  have N1 := Lib.hid (fun W => rwithin_walk t ⟨#[46, 102, 108, 105, 116]⟩ (by omega) (by decide) W)
  have hfl : L ⟨#[46, 102, 108, 105, 116]⟩ = flitB := rfl
  rw [hfl] at N1
  rw [← hrr f, ← hrr t]
  clear hrr
  have e1 : (f.toList == []) = (L f).isEmpty := by rw [L_toList]; cases L f <;> rfl
  have e2 : (t.toList == []) = (L t).isEmpty := by rw [L_toList]; cases L t <;> rfl
  have e3 : ((B (wordE k)).toList == []) = (wordE k).isEmpty := by rw [L_toList, L_B]; cases wordE k <;> rfl
  have e1' : f.toList.isEmpty = (L f).isEmpty := by rw [L_toList]
  have e2' : t.toList.isEmpty = (L t).isEmpty := by rw [L_toList]
  have e3' : (B (wordE k)).toList.isEmpty = (wordE k).isEmpty := by rw [L_toList, L_B]
  have e4 : (t.toList == [46, 102, 108, 105, 116]) = (L t == flitB) := by rw [L_toList]; rfl
  have hrf : rr f = rr f := rfl
  generalize (L f).isEmpty = ef at *
  generalize (L t).isEmpty = et at *
  generalize (wordE k).isEmpty = em at *
  generalize (L t == flitB) = fl at *
  generalize withinB (L t) flitB = wi at *
  generalize B (wordE k) = wd at *
  generalize fromE k = vf at *
  generalize toE k = vt at *
  generalize nE k = vn at *
  obtain ⟨b1, hb1⟩ : ∃ b, rr f = b := ⟨_, rfl⟩
  obtain ⟨b2, hb2⟩ : ∃ b, rr t = b := ⟨_, rfl⟩
  rw [hb1, hb2]
  obtain ⟨x1, hx1⟩ : ∃ x, bad1 em vf ef vt et b1 b2 = x := ⟨_, rfl⟩
  obtain ⟨x2, hx2⟩ : ∃ x, (decide (k ≤ 5) && (fl || !wi)) = x := ⟨_, rfl⟩
  obtain ⟨x3, hx3⟩ : ∃ x, (n == 0 || (vn && decide (0 < n) && decide (n ≤ 511))) = x := ⟨_, rfl⟩
  rw [hx1, hx2, hx3]
  have HX1 := Lib.hid hx1
  have HX2 := Lib.hid hx2
  have HX3 := Lib.hid hx3
  clear hx1 hx2 hx3 hrf
  go_enter Tryd.func10, Tryd.ntmps10
  have HE := Lib.hid (World.alloc_heap_new w (.cells #[.int .i64 k, .string f, .string t, .int .i64 n] 23))
  have hbw := (Below.refl w.heap.size w).alloc (Nat.le_refl _) (.cells #[.int .i64 k, .string f, .string t, .int .i64 n] 23)
  have HBW := Lib.hid hbw
  clear hbw
  go_upto_region 2 with (go_at_call 22; refine (H1.out _).mono ?_; rintro e w2 ⟨rfl, hb3⟩)
  have HE2 := Lib.hid (kept_alloc (kept_block HE.out hb3) (.cells #[.bool vf, .bool vt, .bool vn] 48))
  have HH2 := Lib.hid (World.alloc_heap_new w2 (.cells #[.bool vf, .bool vt, .bool vn] 48))
  have HB2 := Lib.hid ((HBW.out.trans (hb3.mono (by simp))).alloc (Nat.le_trans HBW.out.size hb3.size) (.cells #[.bool vf, .bool vt, .bool vn] 48))
  clear hb3 HE HBW
  generalize w2.alloc (.cells #[.bool vf, .bool vt, .bool vn] 48) = w3 at *
  generalize w2.heap.size = g at *
  obtain ⟨c0, c1, c2, c3⟩ := four_cells HE2.out
  obtain ⟨d0, d1, d2⟩ := three_cells HH2.out
  go_cut [38] from 4 to 69 (fun b wx => b = .bool x1 ∧ Hid (Below w3.heap.size w3 wx))
  case first =>
    cases em with
    | true =>
      go_wp2_with (first | (go_at_call 12; refine (W1.out _).mono ?_; rintro e w4 ⟨rfl, hb4⟩; have hbc := hb4; have k0 : w4.cell? ⟨w.heap.size, 0, none⟩ = _ := (hb4.cell (World.block_lt_of_cell? _ _ c0)).trans c0; have k1 : w4.cell? ⟨w.heap.size, 1, none⟩ = _ := (hb4.cell (World.block_lt_of_cell? _ _ c1)).trans c1; have k2 : w4.cell? ⟨w.heap.size, 2, none⟩ = _ := (hb4.cell (World.block_lt_of_cell? _ _ c2)).trans c2; have k3 : w4.cell? ⟨g, 0, none⟩ = _ := (hb4.cell (World.block_lt_of_cell? _ _ d0)).trans d0; have k4 : w4.cell? ⟨g, 1, none⟩ = _ := (hb4.cell (World.block_lt_of_cell? _ _ d1)).trans d1) | (go_at_call 26; refine (R1.out _ (by omega) _).mono ?_; rintro e w5 ⟨rfl, hb5⟩; have hbc := hbc.trans (hb5.mono hbc.size); have k0 : w5.cell? ⟨w.heap.size, 0, none⟩ = _ := (hbc.cell (World.block_lt_of_cell? _ _ c0)).trans c0; have k1 : w5.cell? ⟨w.heap.size, 1, none⟩ = _ := (hbc.cell (World.block_lt_of_cell? _ _ c1)).trans c1; have k2 : w5.cell? ⟨w.heap.size, 2, none⟩ = _ := (hbc.cell (World.block_lt_of_cell? _ _ c2)).trans c2; have k3 : w5.cell? ⟨g, 0, none⟩ = _ := (hbc.cell (World.block_lt_of_cell? _ _ d0)).trans d0; have k4 : w5.cell? ⟨g, 1, none⟩ = _ := (hbc.cell (World.block_lt_of_cell? _ _ d1)).trans d1))
      go_meet
      exact ⟨congrArg Value.bool HX1.out, hbc⟩
    | false =>
      cases vf <;> cases ef
      ·
        go_wp2_with (first | (go_at_call 12; refine (W1.out _).mono ?_; rintro e w4 ⟨rfl, hb4⟩; have hbc := hb4; have k0 : w4.cell? ⟨w.heap.size, 0, none⟩ = _ := (hb4.cell (World.block_lt_of_cell? _ _ c0)).trans c0; have k1 : w4.cell? ⟨w.heap.size, 1, none⟩ = _ := (hb4.cell (World.block_lt_of_cell? _ _ c1)).trans c1; have k2 : w4.cell? ⟨w.heap.size, 2, none⟩ = _ := (hb4.cell (World.block_lt_of_cell? _ _ c2)).trans c2; have k3 : w4.cell? ⟨g, 0, none⟩ = _ := (hb4.cell (World.block_lt_of_cell? _ _ d0)).trans d0; have k4 : w4.cell? ⟨g, 1, none⟩ = _ := (hb4.cell (World.block_lt_of_cell? _ _ d1)).trans d1) | (go_at_call 26; refine (R1.out _ (by omega) _).mono ?_; rintro e w5 ⟨rfl, hb5⟩; have hbc := hbc.trans (hb5.mono hbc.size); have k0 : w5.cell? ⟨w.heap.size, 0, none⟩ = _ := (hbc.cell (World.block_lt_of_cell? _ _ c0)).trans c0; have k1 : w5.cell? ⟨w.heap.size, 1, none⟩ = _ := (hbc.cell (World.block_lt_of_cell? _ _ c1)).trans c1; have k2 : w5.cell? ⟨w.heap.size, 2, none⟩ = _ := (hbc.cell (World.block_lt_of_cell? _ _ c2)).trans c2; have k3 : w5.cell? ⟨g, 0, none⟩ = _ := (hbc.cell (World.block_lt_of_cell? _ _ d0)).trans d0; have k4 : w5.cell? ⟨g, 1, none⟩ = _ := (hbc.cell (World.block_lt_of_cell? _ _ d1)).trans d1))
        go_meet
        exact ⟨congrArg Value.bool HX1.out, hbc⟩
      ·
        cases vt <;> cases et
        ·
          go_wp2_with (first | (go_at_call 12; refine (W1.out _).mono ?_; rintro e w4 ⟨rfl, hb4⟩; have hbc := hb4; have k0 : w4.cell? ⟨w.heap.size, 0, none⟩ = _ := (hb4.cell (World.block_lt_of_cell? _ _ c0)).trans c0; have k1 : w4.cell? ⟨w.heap.size, 1, none⟩ = _ := (hb4.cell (World.block_lt_of_cell? _ _ c1)).trans c1; have k2 : w4.cell? ⟨w.heap.size, 2, none⟩ = _ := (hb4.cell (World.block_lt_of_cell? _ _ c2)).trans c2; have k3 : w4.cell? ⟨g, 0, none⟩ = _ := (hb4.cell (World.block_lt_of_cell? _ _ d0)).trans d0; have k4 : w4.cell? ⟨g, 1, none⟩ = _ := (hb4.cell (World.block_lt_of_cell? _ _ d1)).trans d1) | (go_at_call 26; refine (R1.out _ (by omega) _).mono ?_; rintro e w5 ⟨rfl, hb5⟩; have hbc := hbc.trans (hb5.mono hbc.size); have k0 : w5.cell? ⟨w.heap.size, 0, none⟩ = _ := (hbc.cell (World.block_lt_of_cell? _ _ c0)).trans c0; have k1 : w5.cell? ⟨w.heap.size, 1, none⟩ = _ := (hbc.cell (World.block_lt_of_cell? _ _ c1)).trans c1; have k2 : w5.cell? ⟨w.heap.size, 2, none⟩ = _ := (hbc.cell (World.block_lt_of_cell? _ _ c2)).trans c2; have k3 : w5.cell? ⟨g, 0, none⟩ = _ := (hbc.cell (World.block_lt_of_cell? _ _ d0)).trans d0; have k4 : w5.cell? ⟨g, 1, none⟩ = _ := (hbc.cell (World.block_lt_of_cell? _ _ d1)).trans d1))
          go_meet
          exact ⟨congrArg Value.bool HX1.out, hbc⟩
        ·
          cases b1 with
          | false =>
            go_wp2_with (first | (go_at_call 12; refine (W1.out _).mono ?_; rintro e w4 ⟨rfl, hb4⟩; have hbc := hb4; have k0 : w4.cell? ⟨w.heap.size, 0, none⟩ = _ := (hb4.cell (World.block_lt_of_cell? _ _ c0)).trans c0; have k1 : w4.cell? ⟨w.heap.size, 1, none⟩ = _ := (hb4.cell (World.block_lt_of_cell? _ _ c1)).trans c1; have k2 : w4.cell? ⟨w.heap.size, 2, none⟩ = _ := (hb4.cell (World.block_lt_of_cell? _ _ c2)).trans c2; have k3 : w4.cell? ⟨g, 0, none⟩ = _ := (hb4.cell (World.block_lt_of_cell? _ _ d0)).trans d0; have k4 : w4.cell? ⟨g, 1, none⟩ = _ := (hb4.cell (World.block_lt_of_cell? _ _ d1)).trans d1) | (go_at_call 26; refine (R1.out _ (by omega) _).mono ?_; rintro e w5 ⟨rfl, hb5⟩; have hbc := hbc.trans (hb5.mono hbc.size); have k0 : w5.cell? ⟨w.heap.size, 0, none⟩ = _ := (hbc.cell (World.block_lt_of_cell? _ _ c0)).trans c0; have k1 : w5.cell? ⟨w.heap.size, 1, none⟩ = _ := (hbc.cell (World.block_lt_of_cell? _ _ c1)).trans c1; have k2 : w5.cell? ⟨w.heap.size, 2, none⟩ = _ := (hbc.cell (World.block_lt_of_cell? _ _ c2)).trans c2; have k3 : w5.cell? ⟨g, 0, none⟩ = _ := (hbc.cell (World.block_lt_of_cell? _ _ d0)).trans d0; have k4 : w5.cell? ⟨g, 1, none⟩ = _ := (hbc.cell (World.block_lt_of_cell? _ _ d1)).trans d1))
            go_meet
            exact ⟨congrArg Value.bool HX1.out, hbc⟩
          | true =>
            cases b2
            all_goals
              go_wp2_with (first | (go_at_call 12; refine (W1.out _).mono ?_; rintro e w4 ⟨rfl, hb4⟩; have hbc := hb4; have k0 : w4.cell? ⟨w.heap.size, 0, none⟩ = _ := (hb4.cell (World.block_lt_of_cell? _ _ c0)).trans c0; have k1 : w4.cell? ⟨w.heap.size, 1, none⟩ = _ := (hb4.cell (World.block_lt_of_cell? _ _ c1)).trans c1; have k2 : w4.cell? ⟨w.heap.size, 2, none⟩ = _ := (hb4.cell (World.block_lt_of_cell? _ _ c2)).trans c2; have k3 : w4.cell? ⟨g, 0, none⟩ = _ := (hb4.cell (World.block_lt_of_cell? _ _ d0)).trans d0; have k4 : w4.cell? ⟨g, 1, none⟩ = _ := (hb4.cell (World.block_lt_of_cell? _ _ d1)).trans d1) | (go_at_call 26; refine (R1.out _ (by omega) _).mono ?_; rintro e w5 ⟨rfl, hb5⟩; have hbc := hbc.trans (hb5.mono hbc.size); have k0 : w5.cell? ⟨w.heap.size, 0, none⟩ = _ := (hbc.cell (World.block_lt_of_cell? _ _ c0)).trans c0; have k1 : w5.cell? ⟨w.heap.size, 1, none⟩ = _ := (hbc.cell (World.block_lt_of_cell? _ _ c1)).trans c1; have k2 : w5.cell? ⟨w.heap.size, 2, none⟩ = _ := (hbc.cell (World.block_lt_of_cell? _ _ c2)).trans c2; have k3 : w5.cell? ⟨g, 0, none⟩ = _ := (hbc.cell (World.block_lt_of_cell? _ _ d0)).trans d0; have k4 : w5.cell? ⟨g, 1, none⟩ = _ := (hbc.cell (World.block_lt_of_cell? _ _ d1)).trans d1))
              go_meet
              exact ⟨congrArg Value.bool HX1.out, hbc⟩
        ·
          cases b1 with
          | false =>
            go_wp2_with (first | (go_at_call 12; refine (W1.out _).mono ?_; rintro e w4 ⟨rfl, hb4⟩; have hbc := hb4; have k0 : w4.cell? ⟨w.heap.size, 0, none⟩ = _ := (hb4.cell (World.block_lt_of_cell? _ _ c0)).trans c0; have k1 : w4.cell? ⟨w.heap.size, 1, none⟩ = _ := (hb4.cell (World.block_lt_of_cell? _ _ c1)).trans c1; have k2 : w4.cell? ⟨w.heap.size, 2, none⟩ = _ := (hb4.cell (World.block_lt_of_cell? _ _ c2)).trans c2; have k3 : w4.cell? ⟨g, 0, none⟩ = _ := (hb4.cell (World.block_lt_of_cell? _ _ d0)).trans d0; have k4 : w4.cell? ⟨g, 1, none⟩ = _ := (hb4.cell (World.block_lt_of_cell? _ _ d1)).trans d1) | (go_at_call 26; refine (R1.out _ (by omega) _).mono ?_; rintro e w5 ⟨rfl, hb5⟩; have hbc := hbc.trans (hb5.mono hbc.size); have k0 : w5.cell? ⟨w.heap.size, 0, none⟩ = _ := (hbc.cell (World.block_lt_of_cell? _ _ c0)).trans c0; have k1 : w5.cell? ⟨w.heap.size, 1, none⟩ = _ := (hbc.cell (World.block_lt_of_cell? _ _ c1)).trans c1; have k2 : w5.cell? ⟨w.heap.size, 2, none⟩ = _ := (hbc.cell (World.block_lt_of_cell? _ _ c2)).trans c2; have k3 : w5.cell? ⟨g, 0, none⟩ = _ := (hbc.cell (World.block_lt_of_cell? _ _ d0)).trans d0; have k4 : w5.cell? ⟨g, 1, none⟩ = _ := (hbc.cell (World.block_lt_of_cell? _ _ d1)).trans d1))
            go_meet
            exact ⟨congrArg Value.bool HX1.out, hbc⟩
          | true =>
            cases b2
            all_goals
              go_wp2_with (first | (go_at_call 12; refine (W1.out _).mono ?_; rintro e w4 ⟨rfl, hb4⟩; have hbc := hb4; have k0 : w4.cell? ⟨w.heap.size, 0, none⟩ = _ := (hb4.cell (World.block_lt_of_cell? _ _ c0)).trans c0; have k1 : w4.cell? ⟨w.heap.size, 1, none⟩ = _ := (hb4.cell (World.block_lt_of_cell? _ _ c1)).trans c1; have k2 : w4.cell? ⟨w.heap.size, 2, none⟩ = _ := (hb4.cell (World.block_lt_of_cell? _ _ c2)).trans c2; have k3 : w4.cell? ⟨g, 0, none⟩ = _ := (hb4.cell (World.block_lt_of_cell? _ _ d0)).trans d0; have k4 : w4.cell? ⟨g, 1, none⟩ = _ := (hb4.cell (World.block_lt_of_cell? _ _ d1)).trans d1) | (go_at_call 26; refine (R1.out _ (by omega) _).mono ?_; rintro e w5 ⟨rfl, hb5⟩; have hbc := hbc.trans (hb5.mono hbc.size); have k0 : w5.cell? ⟨w.heap.size, 0, none⟩ = _ := (hbc.cell (World.block_lt_of_cell? _ _ c0)).trans c0; have k1 : w5.cell? ⟨w.heap.size, 1, none⟩ = _ := (hbc.cell (World.block_lt_of_cell? _ _ c1)).trans c1; have k2 : w5.cell? ⟨w.heap.size, 2, none⟩ = _ := (hbc.cell (World.block_lt_of_cell? _ _ c2)).trans c2; have k3 : w5.cell? ⟨g, 0, none⟩ = _ := (hbc.cell (World.block_lt_of_cell? _ _ d0)).trans d0; have k4 : w5.cell? ⟨g, 1, none⟩ = _ := (hbc.cell (World.block_lt_of_cell? _ _ d1)).trans d1))
              go_meet
              exact ⟨congrArg Value.bool HX1.out, hbc⟩
        ·
          go_wp2_with (first | (go_at_call 12; refine (W1.out _).mono ?_; rintro e w4 ⟨rfl, hb4⟩; have hbc := hb4; have k0 : w4.cell? ⟨w.heap.size, 0, none⟩ = _ := (hb4.cell (World.block_lt_of_cell? _ _ c0)).trans c0; have k1 : w4.cell? ⟨w.heap.size, 1, none⟩ = _ := (hb4.cell (World.block_lt_of_cell? _ _ c1)).trans c1; have k2 : w4.cell? ⟨w.heap.size, 2, none⟩ = _ := (hb4.cell (World.block_lt_of_cell? _ _ c2)).trans c2; have k3 : w4.cell? ⟨g, 0, none⟩ = _ := (hb4.cell (World.block_lt_of_cell? _ _ d0)).trans d0; have k4 : w4.cell? ⟨g, 1, none⟩ = _ := (hb4.cell (World.block_lt_of_cell? _ _ d1)).trans d1) | (go_at_call 26; refine (R1.out _ (by omega) _).mono ?_; rintro e w5 ⟨rfl, hb5⟩; have hbc := hbc.trans (hb5.mono hbc.size); have k0 : w5.cell? ⟨w.heap.size, 0, none⟩ = _ := (hbc.cell (World.block_lt_of_cell? _ _ c0)).trans c0; have k1 : w5.cell? ⟨w.heap.size, 1, none⟩ = _ := (hbc.cell (World.block_lt_of_cell? _ _ c1)).trans c1; have k2 : w5.cell? ⟨w.heap.size, 2, none⟩ = _ := (hbc.cell (World.block_lt_of_cell? _ _ c2)).trans c2; have k3 : w5.cell? ⟨g, 0, none⟩ = _ := (hbc.cell (World.block_lt_of_cell? _ _ d0)).trans d0; have k4 : w5.cell? ⟨g, 1, none⟩ = _ := (hbc.cell (World.block_lt_of_cell? _ _ d1)).trans d1))
          go_meet
          exact ⟨congrArg Value.bool HX1.out, hbc⟩
      ·
        cases vt <;> cases et
        ·
          go_wp2_with (first | (go_at_call 12; refine (W1.out _).mono ?_; rintro e w4 ⟨rfl, hb4⟩; have hbc := hb4; have k0 : w4.cell? ⟨w.heap.size, 0, none⟩ = _ := (hb4.cell (World.block_lt_of_cell? _ _ c0)).trans c0; have k1 : w4.cell? ⟨w.heap.size, 1, none⟩ = _ := (hb4.cell (World.block_lt_of_cell? _ _ c1)).trans c1; have k2 : w4.cell? ⟨w.heap.size, 2, none⟩ = _ := (hb4.cell (World.block_lt_of_cell? _ _ c2)).trans c2; have k3 : w4.cell? ⟨g, 0, none⟩ = _ := (hb4.cell (World.block_lt_of_cell? _ _ d0)).trans d0; have k4 : w4.cell? ⟨g, 1, none⟩ = _ := (hb4.cell (World.block_lt_of_cell? _ _ d1)).trans d1) | (go_at_call 26; refine (R1.out _ (by omega) _).mono ?_; rintro e w5 ⟨rfl, hb5⟩; have hbc := hbc.trans (hb5.mono hbc.size); have k0 : w5.cell? ⟨w.heap.size, 0, none⟩ = _ := (hbc.cell (World.block_lt_of_cell? _ _ c0)).trans c0; have k1 : w5.cell? ⟨w.heap.size, 1, none⟩ = _ := (hbc.cell (World.block_lt_of_cell? _ _ c1)).trans c1; have k2 : w5.cell? ⟨w.heap.size, 2, none⟩ = _ := (hbc.cell (World.block_lt_of_cell? _ _ c2)).trans c2; have k3 : w5.cell? ⟨g, 0, none⟩ = _ := (hbc.cell (World.block_lt_of_cell? _ _ d0)).trans d0; have k4 : w5.cell? ⟨g, 1, none⟩ = _ := (hbc.cell (World.block_lt_of_cell? _ _ d1)).trans d1))
          go_meet
          exact ⟨congrArg Value.bool HX1.out, hbc⟩
        ·
          cases b1 with
          | false =>
            go_wp2_with (first | (go_at_call 12; refine (W1.out _).mono ?_; rintro e w4 ⟨rfl, hb4⟩; have hbc := hb4; have k0 : w4.cell? ⟨w.heap.size, 0, none⟩ = _ := (hb4.cell (World.block_lt_of_cell? _ _ c0)).trans c0; have k1 : w4.cell? ⟨w.heap.size, 1, none⟩ = _ := (hb4.cell (World.block_lt_of_cell? _ _ c1)).trans c1; have k2 : w4.cell? ⟨w.heap.size, 2, none⟩ = _ := (hb4.cell (World.block_lt_of_cell? _ _ c2)).trans c2; have k3 : w4.cell? ⟨g, 0, none⟩ = _ := (hb4.cell (World.block_lt_of_cell? _ _ d0)).trans d0; have k4 : w4.cell? ⟨g, 1, none⟩ = _ := (hb4.cell (World.block_lt_of_cell? _ _ d1)).trans d1) | (go_at_call 26; refine (R1.out _ (by omega) _).mono ?_; rintro e w5 ⟨rfl, hb5⟩; have hbc := hbc.trans (hb5.mono hbc.size); have k0 : w5.cell? ⟨w.heap.size, 0, none⟩ = _ := (hbc.cell (World.block_lt_of_cell? _ _ c0)).trans c0; have k1 : w5.cell? ⟨w.heap.size, 1, none⟩ = _ := (hbc.cell (World.block_lt_of_cell? _ _ c1)).trans c1; have k2 : w5.cell? ⟨w.heap.size, 2, none⟩ = _ := (hbc.cell (World.block_lt_of_cell? _ _ c2)).trans c2; have k3 : w5.cell? ⟨g, 0, none⟩ = _ := (hbc.cell (World.block_lt_of_cell? _ _ d0)).trans d0; have k4 : w5.cell? ⟨g, 1, none⟩ = _ := (hbc.cell (World.block_lt_of_cell? _ _ d1)).trans d1))
            go_meet
            exact ⟨congrArg Value.bool HX1.out, hbc⟩
          | true =>
            cases b2
            all_goals
              go_wp2_with (first | (go_at_call 12; refine (W1.out _).mono ?_; rintro e w4 ⟨rfl, hb4⟩; have hbc := hb4; have k0 : w4.cell? ⟨w.heap.size, 0, none⟩ = _ := (hb4.cell (World.block_lt_of_cell? _ _ c0)).trans c0; have k1 : w4.cell? ⟨w.heap.size, 1, none⟩ = _ := (hb4.cell (World.block_lt_of_cell? _ _ c1)).trans c1; have k2 : w4.cell? ⟨w.heap.size, 2, none⟩ = _ := (hb4.cell (World.block_lt_of_cell? _ _ c2)).trans c2; have k3 : w4.cell? ⟨g, 0, none⟩ = _ := (hb4.cell (World.block_lt_of_cell? _ _ d0)).trans d0; have k4 : w4.cell? ⟨g, 1, none⟩ = _ := (hb4.cell (World.block_lt_of_cell? _ _ d1)).trans d1) | (go_at_call 26; refine (R1.out _ (by omega) _).mono ?_; rintro e w5 ⟨rfl, hb5⟩; have hbc := hbc.trans (hb5.mono hbc.size); have k0 : w5.cell? ⟨w.heap.size, 0, none⟩ = _ := (hbc.cell (World.block_lt_of_cell? _ _ c0)).trans c0; have k1 : w5.cell? ⟨w.heap.size, 1, none⟩ = _ := (hbc.cell (World.block_lt_of_cell? _ _ c1)).trans c1; have k2 : w5.cell? ⟨w.heap.size, 2, none⟩ = _ := (hbc.cell (World.block_lt_of_cell? _ _ c2)).trans c2; have k3 : w5.cell? ⟨g, 0, none⟩ = _ := (hbc.cell (World.block_lt_of_cell? _ _ d0)).trans d0; have k4 : w5.cell? ⟨g, 1, none⟩ = _ := (hbc.cell (World.block_lt_of_cell? _ _ d1)).trans d1))
              go_meet
              exact ⟨congrArg Value.bool HX1.out, hbc⟩
        ·
          cases b1 with
          | false =>
            go_wp2_with (first | (go_at_call 12; refine (W1.out _).mono ?_; rintro e w4 ⟨rfl, hb4⟩; have hbc := hb4; have k0 : w4.cell? ⟨w.heap.size, 0, none⟩ = _ := (hb4.cell (World.block_lt_of_cell? _ _ c0)).trans c0; have k1 : w4.cell? ⟨w.heap.size, 1, none⟩ = _ := (hb4.cell (World.block_lt_of_cell? _ _ c1)).trans c1; have k2 : w4.cell? ⟨w.heap.size, 2, none⟩ = _ := (hb4.cell (World.block_lt_of_cell? _ _ c2)).trans c2; have k3 : w4.cell? ⟨g, 0, none⟩ = _ := (hb4.cell (World.block_lt_of_cell? _ _ d0)).trans d0; have k4 : w4.cell? ⟨g, 1, none⟩ = _ := (hb4.cell (World.block_lt_of_cell? _ _ d1)).trans d1) | (go_at_call 26; refine (R1.out _ (by omega) _).mono ?_; rintro e w5 ⟨rfl, hb5⟩; have hbc := hbc.trans (hb5.mono hbc.size); have k0 : w5.cell? ⟨w.heap.size, 0, none⟩ = _ := (hbc.cell (World.block_lt_of_cell? _ _ c0)).trans c0; have k1 : w5.cell? ⟨w.heap.size, 1, none⟩ = _ := (hbc.cell (World.block_lt_of_cell? _ _ c1)).trans c1; have k2 : w5.cell? ⟨w.heap.size, 2, none⟩ = _ := (hbc.cell (World.block_lt_of_cell? _ _ c2)).trans c2; have k3 : w5.cell? ⟨g, 0, none⟩ = _ := (hbc.cell (World.block_lt_of_cell? _ _ d0)).trans d0; have k4 : w5.cell? ⟨g, 1, none⟩ = _ := (hbc.cell (World.block_lt_of_cell? _ _ d1)).trans d1))
            go_meet
            exact ⟨congrArg Value.bool HX1.out, hbc⟩
          | true =>
            cases b2
            all_goals
              go_wp2_with (first | (go_at_call 12; refine (W1.out _).mono ?_; rintro e w4 ⟨rfl, hb4⟩; have hbc := hb4; have k0 : w4.cell? ⟨w.heap.size, 0, none⟩ = _ := (hb4.cell (World.block_lt_of_cell? _ _ c0)).trans c0; have k1 : w4.cell? ⟨w.heap.size, 1, none⟩ = _ := (hb4.cell (World.block_lt_of_cell? _ _ c1)).trans c1; have k2 : w4.cell? ⟨w.heap.size, 2, none⟩ = _ := (hb4.cell (World.block_lt_of_cell? _ _ c2)).trans c2; have k3 : w4.cell? ⟨g, 0, none⟩ = _ := (hb4.cell (World.block_lt_of_cell? _ _ d0)).trans d0; have k4 : w4.cell? ⟨g, 1, none⟩ = _ := (hb4.cell (World.block_lt_of_cell? _ _ d1)).trans d1) | (go_at_call 26; refine (R1.out _ (by omega) _).mono ?_; rintro e w5 ⟨rfl, hb5⟩; have hbc := hbc.trans (hb5.mono hbc.size); have k0 : w5.cell? ⟨w.heap.size, 0, none⟩ = _ := (hbc.cell (World.block_lt_of_cell? _ _ c0)).trans c0; have k1 : w5.cell? ⟨w.heap.size, 1, none⟩ = _ := (hbc.cell (World.block_lt_of_cell? _ _ c1)).trans c1; have k2 : w5.cell? ⟨w.heap.size, 2, none⟩ = _ := (hbc.cell (World.block_lt_of_cell? _ _ c2)).trans c2; have k3 : w5.cell? ⟨g, 0, none⟩ = _ := (hbc.cell (World.block_lt_of_cell? _ _ d0)).trans d0; have k4 : w5.cell? ⟨g, 1, none⟩ = _ := (hbc.cell (World.block_lt_of_cell? _ _ d1)).trans d1))
              go_meet
              exact ⟨congrArg Value.bool HX1.out, hbc⟩
        ·
          go_wp2_with (first | (go_at_call 12; refine (W1.out _).mono ?_; rintro e w4 ⟨rfl, hb4⟩; have hbc := hb4; have k0 : w4.cell? ⟨w.heap.size, 0, none⟩ = _ := (hb4.cell (World.block_lt_of_cell? _ _ c0)).trans c0; have k1 : w4.cell? ⟨w.heap.size, 1, none⟩ = _ := (hb4.cell (World.block_lt_of_cell? _ _ c1)).trans c1; have k2 : w4.cell? ⟨w.heap.size, 2, none⟩ = _ := (hb4.cell (World.block_lt_of_cell? _ _ c2)).trans c2; have k3 : w4.cell? ⟨g, 0, none⟩ = _ := (hb4.cell (World.block_lt_of_cell? _ _ d0)).trans d0; have k4 : w4.cell? ⟨g, 1, none⟩ = _ := (hb4.cell (World.block_lt_of_cell? _ _ d1)).trans d1) | (go_at_call 26; refine (R1.out _ (by omega) _).mono ?_; rintro e w5 ⟨rfl, hb5⟩; have hbc := hbc.trans (hb5.mono hbc.size); have k0 : w5.cell? ⟨w.heap.size, 0, none⟩ = _ := (hbc.cell (World.block_lt_of_cell? _ _ c0)).trans c0; have k1 : w5.cell? ⟨w.heap.size, 1, none⟩ = _ := (hbc.cell (World.block_lt_of_cell? _ _ c1)).trans c1; have k2 : w5.cell? ⟨w.heap.size, 2, none⟩ = _ := (hbc.cell (World.block_lt_of_cell? _ _ c2)).trans c2; have k3 : w5.cell? ⟨g, 0, none⟩ = _ := (hbc.cell (World.block_lt_of_cell? _ _ d0)).trans d0; have k4 : w5.cell? ⟨g, 1, none⟩ = _ := (hbc.cell (World.block_lt_of_cell? _ _ d1)).trans d1))
          go_meet
          exact ⟨congrArg Value.bool HX1.out, hbc⟩
      ·
        go_wp2_with (first | (go_at_call 12; refine (W1.out _).mono ?_; rintro e w4 ⟨rfl, hb4⟩; have hbc := hb4; have k0 : w4.cell? ⟨w.heap.size, 0, none⟩ = _ := (hb4.cell (World.block_lt_of_cell? _ _ c0)).trans c0; have k1 : w4.cell? ⟨w.heap.size, 1, none⟩ = _ := (hb4.cell (World.block_lt_of_cell? _ _ c1)).trans c1; have k2 : w4.cell? ⟨w.heap.size, 2, none⟩ = _ := (hb4.cell (World.block_lt_of_cell? _ _ c2)).trans c2; have k3 : w4.cell? ⟨g, 0, none⟩ = _ := (hb4.cell (World.block_lt_of_cell? _ _ d0)).trans d0; have k4 : w4.cell? ⟨g, 1, none⟩ = _ := (hb4.cell (World.block_lt_of_cell? _ _ d1)).trans d1) | (go_at_call 26; refine (R1.out _ (by omega) _).mono ?_; rintro e w5 ⟨rfl, hb5⟩; have hbc := hbc.trans (hb5.mono hbc.size); have k0 : w5.cell? ⟨w.heap.size, 0, none⟩ = _ := (hbc.cell (World.block_lt_of_cell? _ _ c0)).trans c0; have k1 : w5.cell? ⟨w.heap.size, 1, none⟩ = _ := (hbc.cell (World.block_lt_of_cell? _ _ c1)).trans c1; have k2 : w5.cell? ⟨w.heap.size, 2, none⟩ = _ := (hbc.cell (World.block_lt_of_cell? _ _ c2)).trans c2; have k3 : w5.cell? ⟨g, 0, none⟩ = _ := (hbc.cell (World.block_lt_of_cell? _ _ d0)).trans d0; have k4 : w5.cell? ⟨g, 1, none⟩ = _ := (hbc.cell (World.block_lt_of_cell? _ _ d1)).trans d1))
        go_meet
        exact ⟨congrArg Value.bool HX1.out, hbc⟩
  case rest =>
    obtain ⟨rfl, HBX⟩ := hcut
    have HEC := Lib.hid (kept_block HE2.out HBX.out)
    have HHC := Lib.hid (kept_block HH2.out HBX.out)
    have HBC := Lib.hid (HB2.out.trans (HBX.out.mono HB2.out.size))
    clear c0 c1 c2 c3 d0 d1 d2 HE2 HH2 HB2 HBX
    obtain ⟨c0, c1, c2, c3⟩ := four_cells HEC.out
    obtain ⟨d0, d1, d2⟩ := three_cells HHC.out
    cases x1 with
    | true =>
      go_wp2_with fail
      go_ret
      exact ⟨rfl, HBC.out⟩
    | false =>
    go_upto_region 4 with fail
    go_cut [52] from 4 to 69 (fun b wx => b = .bool x2 ∧ Hid (Below wc.heap.size wc wx))
    case first =>
      have hbc := Below.refl wc.heap.size wc
      by_cases h5 : k ≤ 5
      · have q5 : decide (k ≤ 5) = true := by simpa using h5
        rw [q5] at HX2
        clear h5
        cases fl with
        | true =>
          go_wp2_with fail
          go_meet
          exact ⟨congrArg Value.bool HX2.out, hbc⟩
        | false =>
          cases wi
          all_goals
            go_wp2_with (go_at_call 27; refine (N1.out _).mono ?_; rintro e w6 ⟨rfl, hb6⟩)
            go_meet
            exact ⟨congrArg Value.bool HX2.out, hb6⟩
      · have q5 : decide (k ≤ 5) = false := by simpa using h5
        rw [q5] at HX2
        clear h5
        go_wp2_with fail
        go_meet
        exact ⟨congrArg Value.bool HX2.out, hbc⟩
    case rest =>
    obtain ⟨rfl, HBX⟩ := hcut
    have HED := Lib.hid (kept_block HEC.out HBX.out)
    have HHD := Lib.hid (kept_block HHC.out HBX.out)
    have HBD := Lib.hid (HBC.out.trans (HBX.out.mono HBC.out.size))
    clear c0 c1 c2 c3 d0 d1 d2 HEC HHC HBC HBX
    obtain ⟨c0, c1, c2, c3⟩ := four_cells HED.out
    obtain ⟨d0, d1, d2⟩ := three_cells HHD.out
    cases x2 with
    | true =>
      go_wp2_with fail
      go_ret
      exact ⟨rfl, HBD.out⟩
    | false =>
    by_cases h0 : n = 0
    · subst h0
      go_wp2_with fail
      go_ret
      exact ⟨ret_bool HX3.out, HBD.out⟩
    · have q0 : (n == 0) = false := by simpa using h0
      rw [q0] at HX3
      clear h0
      cases vn with
      | false =>
        go_wp2_with fail
        go_ret
        exact ⟨ret_bool HX3.out, HBD.out⟩
      | true =>
        by_cases h1 : 0 < n
        · have q1 : decide (0 < n) = true := by simpa using h1
          rw [q1] at HX3
          clear h1
          have HQ : Hid (decide (n ≤ 511) = x3) := HX3.out
          go_wp2_with fail
          go_ret
          exact ⟨ret_bool HQ.out, HBD.out⟩
        · have q1 : decide (0 < n) = false := by simpa using h1
          rw [q1] at HX3
          clear h1
          go_wp2_with fail
          go_ret
          exact ⟨ret_bool HX3.out, HBD.out⟩
end Go.Proofs.YtcapaiiegfedmaaDoor
